/- The walks of line.plain, line.Print and what they call. -/
import Derived.Test.YtgdambmineeboaaGreatDoorRunes
import Derived.Lib.SmallJoins
set_option linter.unusedSimpArgs false
set_option linter.unusedVariables false
namespace Go.Proofs.YtgdambmineeboaaGreatDoor.Print
open Go.RowKit Go.Lib Go.Proofs.YtgdambmineeboaaGreatDoor.Text Go.Proofs.YtgdambmineeboaaGreatDoor.Runes

/-- May a text stand in a line? -/
def plainB (without s : List UInt8) : Bool := !hasL s without && (btrim [32, 9] s == s)

theorem ascii_blank : Ascii [32, 9] := by intro c hc; simp at hc; rcases hc with rfl | rfl <;> decide
theorem drop_while_le (p : UInt8 → Bool) (l : List UInt8) : (l.dropWhile p).length ≤ l.length := (List.dropWhile_sublist p).length_le
theorem ltrim_le (set l : List UInt8) : (ltrim set l).length ≤ l.length := drop_while_le _ l
theorem rtrim_le (set l : List UInt8) : (rtrim set l).length ≤ l.length := by
  unfold rtrim
  have := ltrim_le set l.reverse
  simpa using this

set_option maxHeartbeats 1000000 in
theorem plain_any (s set : ByteArray) (w : World) (hs : s.size ≤ 140737488351232) (ha : Ascii set.data.toList) (hT : Lib.Utf8Tabs 3 4 w) :
    Calls Tryz.prog 76 #[.string s, .string set] w fun e w' => e = .returned (.bool (plainB set.data.toList s.data.toList)) ∧ Below w.heap.size w w' := by
  have HT := Lib.hid hT
  have h1 := Lib.hid (hasAny_any s set w ha)
  clear hT ha
  unfold plainB
  cases hx : hasL s.data.toList set.data.toList with
  | true =>
    go_enter Tryz.func76, Tryz.ntmps76
    go_wp2_with (go_at_call 135; refine h1.out.mono ?_; rintro e w1 ⟨rfl, hb1⟩)
    go_ret
    exact ⟨rfl, hb1⟩
  | false =>
    go_enter Tryz.func76, Tryz.ntmps76
    go_wp2_with (go_at_call 135; refine h1.out.mono ?_; rintro e w1 ⟨rfl, hb1⟩)
    have h2 : Calls Tryz.prog 137 #[.string s, .string ⟨#[32, 9]⟩] w1 fun e w' => e = .returned (.string ⟨(ltrim [32, 9] s.data.toList).toArray⟩) ∧ Below w1.heap.size w1 w' := cutLeft_any s ⟨#[32, 9]⟩ w1 ascii_blank
    have hle := ltrim_le [32, 9] s.data.toList
    have hsz := size_data s
    have h3 := fun W hW => cutRight_any ⟨(ltrim [32, 9] s.data.toList).toArray⟩ ⟨#[32, 9]⟩ W (by rw [← size_data]; simp only; omega) ascii_blank (Utf8Tabs_below HT.out hW)
    generalize hl : ltrim [32, 9] s.data.toList = l at *
    have H2 := Lib.hid h2
    have H3 := Lib.hid h3
    have HL := Lib.hid hl
    clear h2 h3 hsz hl h1 hle hx
    refine H2.out.mono ?_
    rintro e w2 ⟨rfl, hb2⟩
    go_wp2_with fail
    refine (H3.out w2 (hb1.trans (hb2.mono hb1.size))).mono ?_
    rintro e w3 ⟨rfl, hb3⟩
    go_wp2_with fail
    go_ret
    refine ⟨?_, hb1.trans ((hb2.mono hb1.size).trans (hb3.mono (Nat.le_trans hb1.size hb2.size)))⟩
    show Ending.returned (Value.bool (rtrim [32, 9] l == s.toList)) = _
    rw [← HL.out, ByteArray.toList_eq]
    rfl

/-- A slice of texts in memory. -/
def Strs (w : World) (a : Option Addr) (l : List ByteArray) : Prop :=
  l = [] ∨ ∃ bk o, a = some ⟨bk, o, none⟩ ∧ bk < w.heap.size ∧ ∀ (j : Nat) x, l[j]? = some x → w.cell? ⟨bk, o + j, none⟩ = some (.string x)
theorem Strs.below {w w' : World} {a : Option Addr} {l : List ByteArray} (h : Strs w a l) (hb : Below w.heap.size w w') : Strs w' a l := by
  rcases h with h | ⟨bk, o, h1, h2, h3⟩
  · exact .inl h
  · exact .inr ⟨bk, o, h1, Nat.lt_of_lt_of_le h2 hb.size, fun j x hx => (hb.cell (p := ⟨bk, o + j, none⟩) h2).trans (h3 j x hx)⟩

/-- The place of the first text of which p holds; -1: there is none. -/
def idxP (p : ByteArray → Bool) (l : List ByteArray) : Int := if l.any p then (l.findIdx p : Int) else -1
theorem idxP_at (p : ByteArray → Bool) (l : List ByteArray) (k : Nat) (x : ByteArray) (h : l[k]? = some x) (hx : p x = true) (hq : ∀ (j : Nat) y, l[j]? = some y → j < k → p y = false) : idxP p l = k := by
  obtain ⟨hk, rfl⟩ := List.getElem?_eq_some_iff.1 h
  have h1 : l.any p = true := List.any_eq_true.2 ⟨l[k], List.getElem_mem hk, hx⟩
  unfold idxP
  rw [if_pos h1]
  congr 1
  rw [List.findIdx_eq hk]
  exact ⟨hx, fun j hj => by rw [hq j l[j] (List.getElem?_eq_getElem (by omega)) hj]⟩
theorem idxP_none (p : ByteArray → Bool) (l : List ByteArray) (hq : ∀ (j : Nat) y, l[j]? = some y → j < l.length → p y = false) : idxP p l = -1 := by
  unfold idxP
  rw [if_neg]
  intro h
  obtain ⟨x, hx, hp⟩ := List.any_eq_true.1 h
  obtain ⟨j, hj, rfl⟩ := List.getElem_of_mem hx
  rw [hq j _ (List.getElem?_eq_getElem hj) hj] at hp
  cases hp
theorem idxP_any (p : ByteArray → Bool) (l : List ByteArray) : decide (0 ≤ idxP p l) = l.any p := by
  unfold idxP
  split
  · rename_i h; rw [h]; simp
  · rename_i h; rw [Bool.eq_false_iff.2 h]; simp

set_option maxRecDepth 100000 in
set_option maxHeartbeats 1000000 in
theorem indexFunc_any (g : Nat) (p : ByteArray → Bool) (a : Option Addr) (l : List ByteArray) (c : Nat) (w : World) (hl : l.length ≤ 140737488351232) (hS : Strs w a l)
    (eg : ∀ args w, (callFunc g args).run Tryz.prog w = .ok (.enter g args) w)
    (hg : ∀ W x, Below w.heap.size w W → x ∈ l → Calls Tryz.prog g #[.string x] W fun e w' => e = .returned (.bool (p x)) ∧ Below W.heap.size W w') :
    Calls Tryz.prog 138 #[.slice a l.length c, .func (.func g) #[] #[]] w fun e w' => e = .returned (.int .i64 (idxP p l)) ∧ Below w.heap.size w w' := by
  have HG := Lib.hid hg
  have HS := Lib.hid hS
  clear hg hS
  go_enter Tryz.func138, Tryz.ntmps138
  go_wp2
  go_loopw [8] (fun v w' => ∃ k : Nat, v = .int .i64 k ∧ k ≤ l.length ∧ Below w.heap.size w w' ∧ Hid (∀ (j : Nat) x, l[j]? = some x → j < k → p x = false)) (fun v _ => l.length - (intOf v).toNat)
  case atStart => exact ⟨0, rfl, Nat.zero_le _, Below.refl _ _, Lib.hid (fun j x _ h => by omega)⟩
  case round =>
    obtain ⟨k, rfl, hk, hb, hq⟩ := hrel
    by_cases hlt : k < l.length
    · obtain ⟨x, hx⟩ : ∃ x, l[k]? = some x := ⟨_, List.getElem?_eq_getElem hlt⟩
      rcases HS.out.below hb with h0 | ⟨bk, o, rfl, hbk, hc⟩
      · exact absurd (by rw [h0]; rfl : l.length = 0) (by omega)
      have hcell := hc k x hx
      have hgx := HG.out wr x hb (List.mem_of_getElem? hx)
      have HX := Lib.hid hx
      clear hc hx hbk
      cases hpx : p x with
      | true =>
        rw [hpx] at hgx
        have HF := Lib.hid (idxP_at p l k x HX.out hpx hq.out)
        clear hpx
        go_wp2_with (go_at_fn g; refine hgx.mono ?_; rintro e w1 ⟨rfl, hb1⟩)
        go_ret
        exact ⟨by rw [HF.out]; rfl, hb.trans (hb1.mono hb.size)⟩
      | false =>
        rw [hpx] at hgx
        have HF : Hid (∀ (j : Nat) y, l[j]? = some y → j < k + 1 → p y = false) := Lib.hid fun j y hy hj => by
          rcases Nat.lt_or_ge j k with h | h
          · exact hq.out j y hy h
          · obtain rfl : j = k := by omega
            have := HX.out
            rw [hy] at this
            cases this
            exact hpx
        clear hpx
        go_wp2_with (go_at_fn g; refine hgx.mono ?_; rintro e w1 ⟨rfl, hb1⟩)
        go_roundw
        case rel => exact ⟨k + 1, by go_num, by omega, hb.trans (hb1.mono hb.size), HF⟩
        case measure => simp [intOf]; omega
    · have HF := Lib.hid (idxP_none p l fun j y hy hj => hq.out j y hy (by omega))
      go_wp2
      go_ret
      exact ⟨by rw [HF.out]; rfl, hb⟩

set_option maxRecDepth 100000 in
theorem containsFunc_any (g : Nat) (p : ByteArray → Bool) (a : Option Addr) (l : List ByteArray) (c : Nat) (w : World) (hl : l.length ≤ 140737488351232) (hS : Strs w a l)
    (eg : ∀ args w, (callFunc g args).run Tryz.prog w = .ok (.enter g args) w)
    (hg : ∀ W x, Below w.heap.size w W → x ∈ l → Calls Tryz.prog g #[.string x] W fun e w' => e = .returned (.bool (p x)) ∧ Below W.heap.size W w') :
    Calls Tryz.prog 77 #[.slice a l.length c, .func (.func g) #[] #[]] w fun e w' => e = .returned (.bool (l.any p)) ∧ Below w.heap.size w w' := by
  have HC := Lib.hid (indexFunc_any g p a l c w hl hS eg hg)
  clear hg hS
  rw [← idxP_any]
  go_enter Tryz.func77, Tryz.ntmps77
  go_wp2_with (go_at_call 138; refine HC.out.mono ?_; rintro e w1 ⟨rfl, hb1⟩)
  go_ret
  exact ⟨rfl, hb1⟩

def fieldSet : List UInt8 := [10, 13, 59, 35]
theorem ascii_field : Ascii [10, 13, 59, 35] := by intro c hc; simp at hc; rcases hc with rfl | rfl | rfl | rfl <;> decide
theorem ascii_note : Ascii [10, 13] := by intro c hc; simp at hc; rcases hc with rfl | rfl <;> decide

theorem print1_any (s : ByteArray) (w : World) (hs : s.size ≤ 140737488351232) (hT : Lib.Utf8Tabs 3 4 w) :
    Calls Tryz.prog 78 #[.string s] w fun e w' => e = .returned (.bool (!plainB [10, 13, 59, 35] s.data.toList)) ∧ Below w.heap.size w w' := by
  have h : Calls Tryz.prog 76 #[.string s, .string ⟨#[10, 13, 59, 35]⟩] w fun e w' => e = .returned (.bool (plainB [10, 13, 59, 35] s.data.toList)) ∧ Below w.heap.size w w' := plain_any s ⟨#[10, 13, 59, 35]⟩ w hs ascii_field hT
  have HC := Lib.hid h
  clear h
  go_enter Tryz.func78, Tryz.ntmps78
  go_wp2_with (go_at_call 76; refine HC.out.mono ?_; rintro e w1 ⟨rfl, hb1⟩)
  go_ret
  exact ⟨rfl, hb1⟩

/-- A line that may not be printed by its note or for want of fields. -/
def badHead (l : List ByteArray) (note : ByteArray) : Bool := l.length == 0 || (l.length == 1 && (l.headD ⟨#[]⟩).data.toList == []) || !plainB [10, 13] note.data.toList
def badField (l : List ByteArray) : Bool := l.any fun s => !plainB [10, 13, 59, 35] s.data.toList
def noteTail (note : ByteArray) : List UInt8 := if note.data.toList = [] then [] else [32, 35, 32] ++ note.data.toList
def lineText (l : List ByteArray) (note : ByteArray) : List UInt8 := Lib.join (l.map (·.data.toList)) [59, 32] ++ noteTail note ++ [10]
def PrintPost (l : List ByteArray) (note : ByteArray) (w : World) (e : Ending) (w' : World) : Prop :=
  e = .returned (if badHead l note || badField l then .tuple #[.string ⟨#[]⟩, .int .i64 1] else .tuple #[.string ⟨(lineText l note).toArray⟩, .int .i64 0]) ∧ Below w.heap.size w w'

theorem ba_ext {a b : ByteArray} (h : a.data.toList = b.data.toList) : a = b := by rw [← toList_toArray a, h, toList_toArray]
theorem cat_ba (a b : List UInt8) : (⟨a.toArray⟩ ++ ⟨b.toArray⟩ : ByteArray) = ⟨(a ++ b).toArray⟩ := by
  apply ba_ext
  simp
theorem boxed_next {w w1 : World} {cs : Array Value} {T : TypeId} (hb : Below (w.alloc (.cells cs T (0, 0))).heap.size (w.alloc (.cells cs T (0, 0))) w1) :
    Below w.heap.size w w1 ∧ w.heap.size < w1.heap.size ∧ ∀ (i : Nat) v, cs[i]? = some v → w1.cell? ⟨w.heap.size, i, none⟩ = some v := by
  have hsz : (w.alloc (.cells cs T (0, 0))).heap.size = w.heap.size + 1 := by simp
  have h1 := hb.size
  rw [hsz] at h1
  refine ⟨((Below.refl _ _).alloc (Nat.le_refl _) _).trans (hb.mono (by omega)), by omega, fun i v hv => ?_⟩
  rw [hb.cell (p := ⟨w.heap.size, i, none⟩) (by rw [hsz]; exact Nat.lt_succ_self _)]
  rw [World.cell?_alloc_new]
  exact hv

set_option maxRecDepth 100000 in
set_option maxHeartbeats 1000000 in
theorem print_any (num : Int) (a : Option Addr) (l : List ByteArray) (c : Nat) (note : ByteArray) (w : World) (hl : l.length ≤ 140737488351232) (hsz : ∀ s ∈ l, s.size ≤ 140737488351232) (hn : note.size ≤ 140737488351232) (hcap : l.length ≤ c)
    (hj : (Lib.join (l.map (·.data.toList)) [59, 32]).length ≤ 140737488355328) (hS : Strs w a l) (hT : Lib.Utf8Tabs 3 4 w) :
    Calls Tryz.prog 19 #[.agg #[.int .i64 num, .slice a l.length c, .string note]] w (PrintPost l note w) := by
  have HS := Lib.hid hS
  have HT := Lib.hid hT
  have HJ := Lib.hid hj
  have HZ := Lib.hid hsz
  clear hS hT hj hsz
  by_cases h0 : l.length = 0
  · have hl0 : l = [] := List.length_eq_zero_iff.1 h0
    subst hl0
    go_enter Tryz.func19, Tryz.ntmps19
    go_wp2
    go_ret2
    exact ⟨rfl, (Below.refl _ _).alloc (Nat.le_refl _) _⟩
  · obtain ⟨x, hx⟩ : ∃ x, l[0]? = some x := ⟨_, List.getElem?_eq_getElem (by omega)⟩
    have e0 : ((l.length : Int) == 0) = false := by rw [beq_eq_false_iff_ne]; omega
    have hpos : 0 < l.length := by omega
    have hpn : ∀ W, Below w.heap.size w W → Calls Tryz.prog 76 #[.string note, .string ⟨#[10, 13]⟩] W fun e w' => e = .returned (.bool (plainB [10, 13] note.data.toList)) ∧ Below W.heap.size W w' :=
      fun W hW => plain_any note ⟨#[10, 13]⟩ W hn ascii_note (Utf8Tabs_below HT.out hW)
    have HPN := Lib.hid hpn
    clear hpn
    rcases HS.out with h00 | ⟨bk, o, rfl, hbk, hc⟩
    · exact absurd (by rw [h00]; rfl : l.length = 0) h0
    have hcell0 : w.cell? ⟨bk, o, none⟩ = some (.string x) := hc 0 x hx
    clear hc h0
    have HX := Lib.hid hx
    have hbx : ∀ (m : Nat), l.length = m → badHead l note = (m == 0 || (m == 1 && x.data.toList == []) || !plainB [10, 13] note.data.toList) := by
      intro m hm
      unfold badHead
      rw [hm, show l.headD ⟨#[]⟩ = x from by cases l with | nil => cases hx | cons y r => cases hx; rfl]
    have HB := Lib.hid hbx
    clear hx hbx
    by_cases h1 : l.length = 1 ∧ x.data.toList = []
    · have HF : Hid (badHead l note = true) := Lib.hid (by rw [HB.out 1 h1.1, h1.2]; rfl)
      have e1 : ((l.length : Int) == 1) = true := by rw [beq_iff_eq]; omega
      have e3 : x.toList = [] := by rw [ByteArray.toList_eq]; exact h1.2
      clear h1
      go_enter Tryz.func19, Tryz.ntmps19
      go_wp2
      go_ret2
      exact ⟨by rw [HF.out]; rfl, (Below.refl _ _).alloc (Nat.le_refl _) _⟩
    · have hbad : badHead l note = !plainB [10, 13] note.data.toList := by
        rw [HB.out _ rfl]
        rcases Classical.not_and_iff_not_or_not.1 h1 with h | h
        · simp [h, Nat.ne_of_gt hpos]
        · rw [show (x.data.toList == []) = false from by rw [beq_eq_false_iff_ne]; exact h]
          simp [Nat.ne_of_gt hpos]
      have HF := Lib.hid hbad
      clear hbad
      have hor : ((l.length : Int) == 1) = false ∨ (((l.length : Int) == 1) = true ∧ x.toList.isEmpty = false) := by
        by_cases h : l.length = 1
        · refine .inr ⟨by rw [beq_iff_eq]; omega, ?_⟩
          rw [ByteArray.toList_eq, List.isEmpty_eq_false_iff]
          exact fun h2 => h1 ⟨h, h2⟩
        · exact .inl (by rw [beq_eq_false_iff_ne]; omega)
      clear h1
      have hcf : ∀ W, Below w.heap.size w W → Calls Tryz.prog 77 #[.slice (some ⟨bk, o, none⟩) l.length c, .func (.func 78) #[] #[]] W fun e w' => e = .returned (.bool (badField l)) ∧ Below W.heap.size W w' :=
        fun W hW => containsFunc_any _ _ _ l c W hl (HS.out.below hW) (enters_of Tryz.func78 (by kernel_rfl) rfl) fun W' y hW' hy => print1_any y W' (HZ.out y hy) (Utf8Tabs_below HT.out (hW.trans (hW'.mono hW.size)))
      have HCF := Lib.hid hcf
      have hjo : ∀ W, Below w.heap.size w W → Calls Tryz.prog 75 #[.slice (some ⟨bk, o, none⟩) l.length c, .string ⟨#[59, 32]⟩] W fun e w' => e = .returned (.string ⟨(Lib.join (l.map (·.data.toList)) [59, 32]).toArray⟩) ∧ Below W.heap.size W w' := by
        intro W hW
        rcases HS.out.below hW with h00 | ⟨bk', o', hEq, hbk', hc'⟩
        · exact absurd (by rw [h00]; rfl : l.length = 0) (by omega)
        · cases hEq
          exact Tryz.strings_Join bk o c l ⟨#[59, 32]⟩ W hc' hbk' (by omega) hcap HJ.out
      have HJO := Lib.hid hjo
      clear hcf hjo
      generalize hpb : plainB [10, 13] note.data.toList = pb at *
      cases pb
      · rcases hor with e1 | ⟨e1, e2⟩
        all_goals
          go_enter Tryz.func19, Tryz.ntmps19
          go_wp2_with (go_at_call 76; refine (HPN.out _ (by exact (Below.refl _ _).alloc (Nat.le_refl _) _)).mono ?_; rintro e w1 ⟨rfl, hb1⟩)
          go_ret2
          exact ⟨by rw [HF.out]; rfl, (boxed_next hb1).1⟩
      · generalize hbf : badField l = bf at *
        have HBF := Lib.hid hbf
        have HPB := Lib.hid hpb
        clear hbf hpb
        cases bf
        · have hns : note.size ≤ 140737488351232 := hn
          have hjl : (Lib.join (l.map (·.data.toList)) [59, 32]).length ≤ 140737488355328 := HJ.out
          have HL : Hid (lineText l note = Lib.join (l.map (·.data.toList)) [59, 32] ++ noteTail note ++ [10]) := Lib.hid rfl
          generalize Lib.join (l.map (·.data.toList)) [59, 32] = jl at *
          by_cases hnt : note.data.toList = []
          · have e5 : note.toList = [] := by rw [ByteArray.toList_eq]; exact hnt
            have HN : Hid (lineText l note = jl ++ [10]) := Lib.hid (by rw [HL.out, noteTail, if_pos hnt, List.append_nil])
            clear hnt
            rcases hor with e1 | ⟨e1, e2⟩
            all_goals
              go_enter Tryz.func19, Tryz.ntmps19
              go_wp2_with (go_at_call 76; refine (HPN.out _ (by exact (Below.refl _ _).alloc (Nat.le_refl _) _)).mono ?_; rintro e w1 ⟨rfl, hb1⟩; obtain ⟨hbw, hlt1, hcs⟩ := boxed_next hb1; have hc1 : w1.cell? ⟨w.heap.size, 1, none⟩ = some (.slice (some ⟨bk, o, none⟩) l.length c) := hcs 1 _ rfl; have hc2 : w1.cell? ⟨w.heap.size, 2, none⟩ = some (.string note) := hcs 2 _ rfl; clear hcs hb1)
              refine (HCF.out w1 hbw).mono ?_
              rintro e w2 ⟨rfl, hb2⟩
              have hd1 := (hb2.cell (p := ⟨w.heap.size, 1, none⟩) hlt1).trans hc1
              have hd2 := (hb2.cell (p := ⟨w.heap.size, 2, none⟩) hlt1).trans hc2
              have hlt2 : w.heap.size < w2.heap.size := Nat.lt_of_lt_of_le hlt1 hb2.size
              have hbw2 : Below w.heap.size w w2 := hbw.trans (hb2.mono hbw.size)
              clear hc1 hc2 hb2 hbw
              go_wp2_with fail
              refine (HJO.out w2 hbw2).mono ?_
              rintro e w3 ⟨rfl, hb3⟩
              have hf2 := (hb3.cell (p := ⟨w.heap.size, 2, none⟩) hlt2).trans hd2
              have hbw3 : Below w.heap.size w w3 := hbw2.trans (hb3.mono hbw2.size)
              clear hd1 hd2 hb3 hbw2
              go_wp2_with fail
              go_ret2
              refine ⟨?_, hbw3⟩
              show Ending.returned (.tuple #[.string (⟨jl.toArray⟩ ++ ⟨#[10]⟩), .int .i64 0]) = _
              rw [HF.out, HBF.out, HN.out]
              exact congrArg (fun s => Ending.returned (.tuple #[.string s, .int .i64 0])) (cat_ba jl [10])
          · have e5 : note.toList.isEmpty = false := by rw [ByteArray.toList_eq, List.isEmpty_eq_false_iff]; exact hnt
            have HN : Hid (lineText l note = jl ++ ([32, 35, 32] ++ note.data.toList) ++ [10]) := Lib.hid (by rw [HL.out, noteTail, if_neg hnt])
            clear hnt
            rcases hor with e1 | ⟨e1, e2⟩
            all_goals
              go_enter Tryz.func19, Tryz.ntmps19
              go_wp2_with (go_at_call 76; refine (HPN.out _ (by exact (Below.refl _ _).alloc (Nat.le_refl _) _)).mono ?_; rintro e w1 ⟨rfl, hb1⟩; obtain ⟨hbw, hlt1, hcs⟩ := boxed_next hb1; have hc1 : w1.cell? ⟨w.heap.size, 1, none⟩ = some (.slice (some ⟨bk, o, none⟩) l.length c) := hcs 1 _ rfl; have hc2 : w1.cell? ⟨w.heap.size, 2, none⟩ = some (.string note) := hcs 2 _ rfl; clear hcs hb1)
              refine (HCF.out w1 hbw).mono ?_
              rintro e w2 ⟨rfl, hb2⟩
              have hd1 := (hb2.cell (p := ⟨w.heap.size, 1, none⟩) hlt1).trans hc1
              have hd2 := (hb2.cell (p := ⟨w.heap.size, 2, none⟩) hlt1).trans hc2
              have hlt2 : w.heap.size < w2.heap.size := Nat.lt_of_lt_of_le hlt1 hb2.size
              have hbw2 : Below w.heap.size w w2 := hbw.trans (hb2.mono hbw.size)
              clear hc1 hc2 hb2 hbw
              go_wp2_with fail
              refine (HJO.out w2 hbw2).mono ?_
              rintro e w3 ⟨rfl, hb3⟩
              have hf2 := (hb3.cell (p := ⟨w.heap.size, 2, none⟩) hlt2).trans hd2
              have hbw3 : Below w.heap.size w w3 := hbw2.trans (hb3.mono hbw2.size)
              clear hd1 hd2 hb3 hbw2
              go_wp2_with fail
              go_ret2
              refine ⟨?_, hbw3⟩
              show Ending.returned (.tuple #[.string (⟨jl.toArray⟩ ++ (⟨#[32, 35, 32]⟩ ++ note) ++ ⟨#[10]⟩), .int .i64 0]) = _
              rw [HF.out, HBF.out, HN.out]
              refine congrArg (fun s => Ending.returned (.tuple #[.string s, .int .i64 0])) ?_
              apply ba_ext
              simp only [Go.Joins.data_append]
        · rcases hor with e1 | ⟨e1, e2⟩
          all_goals
            go_enter Tryz.func19, Tryz.ntmps19
            go_wp2_with (go_at_call 76; refine (HPN.out _ (by exact (Below.refl _ _).alloc (Nat.le_refl _) _)).mono ?_; rintro e w1 ⟨rfl, hb1⟩; obtain ⟨hbw, hlt1, hcs⟩ := boxed_next hb1; have hc1 := hcs 1 _ rfl; have hc2 := hcs 2 _ rfl; clear hcs hb1)
            refine (HCF.out w1 hbw).mono ?_
            rintro e w2 ⟨rfl, hb2⟩
            go_wp2_with fail
            go_ret2
            exact ⟨by rw [HF.out, HBF.out]; rfl, hbw.trans (hb2.mono hbw.size)⟩
end Go.Proofs.YtgdambmineeboaaGreatDoor.Print
