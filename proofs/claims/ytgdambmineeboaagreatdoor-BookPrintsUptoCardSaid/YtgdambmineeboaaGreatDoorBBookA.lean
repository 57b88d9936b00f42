/- The walks of the closures of the program's Flat. -/
import Derived.Test.YtgdambmineeboaaGreatDoorBTouch
import Derived.Test.YtgdambmineeboaaGreatDoorBCheckAll
import Derived.Lib.BufferMore
import Derived.Test.YtgdambmineeboaaGreatDoorBMemo
import Derived.Shelf.Strings.SlTrimAscii
import Derived.Test.YtgdambmineeboaaGreatDoorShelf
import Derived.Test.YtgdambmineeboaaGreatDoorPrint
import Derived.Lib.Split
import Derived.Lib.SlTrimSet
import Derived.Test.YtgdambmineeboaaGreatDoorBBookN
import Derived.Test.YtgdambmineeboaaGreatDoorBBookZ
set_option linter.unusedSimpArgs false
set_option linter.unusedVariables false
namespace Go.Proofs.YtgdambmineeboaaGreatDoor.Flat
open Go.RowKit Go.Lib Go.Proofs.YtgdambmineeboaaGreatDoor.Text Go.Proofs.YtgdambmineeboaaGreatDoor.Runes Go.Proofs.YtgdambmineeboaaGreatDoor.Print Go.Proofs.YtgdambmineeboaaGreatDoor.RefNine Go.Proofs.YtgdambmineeboaaGreatDoor.RefPrint Go.Proofs.YtgdambmineeboaaGreatDoor.Format Go.Proofs.YtgdambmineeboaaGreatDoor.Tell Go.Proofs.YtgdambmineeboaaGreatDoor.Given Go.Proofs.YtgdambmineeboaaGreatDoor.Mem Go.Proofs.YtgdambmineeboaaGreatDoor.Book Go.Proofs.YtgdambmineeboaaGreatDoor.Pred Go.Proofs.YtgdambmineeboaaGreatDoor.Touch Go.Proofs.YtgdambmineeboaaGreatDoor.Decomposed

theorem info_rune : (Tryz.prog.info? 21).map (fun i => (i.zero, i.size, i.bytes)) = some (some (.int .i32 0), 1, 4) := by kernel_rfl

/-- What a list of numbers says of a code point. -/
def hitV (l : List Val) (p : Int) : Int := match l.find? fun x => decide (p ≥ x.a) && decide (p ≤ x.b) with
  | some x => x.n
  | none => 0
def hitC (l : List Chr) (p : Int) : List Int := match l.find? fun x => decide (p ≥ x.a) && decide (p ≤ x.b) with
  | some x => x.is
  | none => []
def hitS (p : Int) (x : Spn) : Bool := decide (p ≥ x.a) && decide (p ≤ x.b)

theorem find_at {α : Type} (q : α → Bool) (l : List α) (k : Nat) (x : α) (h : l[k]? = some x) (hx : q x = true) (hq : ∀ (j : Nat) y, l[j]? = some y → j < k → q y = false) : l.find? q = some x := by
  obtain ⟨hk, rfl⟩ := List.getElem?_eq_some_iff.1 h
  rw [List.find?_eq_some_iff_getElem]
  exact ⟨hx, k, hk, rfl, fun j hj => by rw [hq j l[j] (List.getElem?_eq_getElem (by omega)) hj]; rfl⟩
theorem find_no {α : Type} (q : α → Bool) (l : List α) (hq : ∀ (j : Nat) y, l[j]? = some y → j < l.length → q y = false) : l.find? q = none := by
  rw [List.find?_eq_none]
  intro x hx
  obtain ⟨j, hj, rfl⟩ := List.getElem_of_mem hx
  rw [hq j _ (List.getElem?_eq_getElem hj) hj]
  decide

set_option maxRecDepth 100000 in
set_option maxHeartbeats 1000000 in
theorem value_flat (p : Int) (bx : Nat) (a : Option Addr) (l : List Val) (c : Nat) (w : World) (hl : l.length ≤ 1048576) (hV : Vals w a l) (hbx : bx < w.heap.size) (hp : w.cell? ⟨bx, 0, none⟩ = some (.int .i32 p)) :
    Calls Tryz.prog 40 #[.slice a l.length c, .pointer (some ⟨bx, 0, none⟩)] w fun e w' => e = .returned (.int .i64 (hitV l p)) ∧ Below w.heap.size w w' := by
  have HV := Lib.hid hV
  have HP := Lib.hid hp
  clear hV hp
  go_enter Tryz.func40, Tryz.ntmps40
  go_wp2
  go_loopw [8] (fun v w' => ∃ k : Nat, v = .int .i64 k ∧ k ≤ l.length ∧ Below w.heap.size w w' ∧ Hid (∀ (j : Nat) x, l[j]? = some x → j < k → (decide (p ≥ x.a) && decide (p ≤ x.b)) = false)) (fun v _ => l.length - (intOf v).toNat)
  case atStart => exact ⟨0, rfl, Nat.zero_le _, Below.refl _ _, Lib.hid (fun j x _ h => by omega)⟩
  case round =>
    obtain ⟨k, rfl, hk, hb, hq⟩ := hrel
    by_cases hlt : k < l.length
    · obtain ⟨x, hx⟩ : ∃ x, l[k]? = some x := ⟨_, List.getElem?_eq_getElem hlt⟩
      rcases HV.out.below hb with h0 | ⟨bk, o, rfl, hbk, hc⟩
      · exact absurd (by rw [h0]; rfl : l.length = 0) (by omega)
      obtain ⟨q0, q1, q2⟩ := vals_at (hc k x hx)
      have hp1 : wr.cell? ⟨bx, 0, none⟩ = some (.int .i32 p) := (hb.cell (p := ⟨bx, 0, none⟩) hbx).trans HP.out
      have hbr : bx < wr.heap.size := Nat.lt_of_lt_of_le hbx hb.size
      have HX := Lib.hid hx
      have hba := hb.alloc hb.size (.cells #[.int .i32 x.a, .int .i32 x.b, .int .i64 x.n] 65 (0, 0))
      have HBA := Lib.hid hba
      clear hc hx hbk hba
      by_cases h1 : p ≥ x.a
      · have e1 : decide (p ≥ x.a) = true := decide_eq_true h1
        by_cases h2 : p ≤ x.b
        · have e2 : decide (p ≤ x.b) = true := decide_eq_true h2
          have HF : Hid (hitV l p = x.n) := Lib.hid (by unfold hitV; rw [find_at _ l k x HX.out (by rw [e1, e2]; rfl) hq.out])
          go_wp2
          go_ret
          exact ⟨by rw [HF.out]; rfl, HBA.out⟩
        · have e2 : decide (p ≤ x.b) = false := decide_eq_false h2
          have HF : Hid (∀ (j : Nat) y, l[j]? = some y → j < k + 1 → (decide (p ≥ y.a) && decide (p ≤ y.b)) = false) := Lib.hid fun j y hy hj => by
            rcases Nat.lt_or_ge j k with h | h
            · exact hq.out j y hy h
            · obtain rfl : j = k := by omega
              have := HX.out
              rw [hy] at this
              cases this
              rw [e2, Bool.and_false]
          go_wp2
          go_roundw
          case rel => exact ⟨k + 1, by go_num, by omega, HBA.out, HF⟩
          case measure => simp [intOf]; omega
      · have e1 : decide (p ≥ x.a) = false := decide_eq_false h1
        have HF : Hid (∀ (j : Nat) y, l[j]? = some y → j < k + 1 → (decide (p ≥ y.a) && decide (p ≤ y.b)) = false) := Lib.hid fun j y hy hj => by
          rcases Nat.lt_or_ge j k with h | h
          · exact hq.out j y hy h
          · obtain rfl : j = k := by omega
            have := HX.out
            rw [hy] at this
            cases this
            rw [e1, Bool.false_and]
        go_wp2
        go_roundw
        case rel => exact ⟨k + 1, by go_num, by omega, HBA.out, HF⟩
        case measure => simp [intOf]; omega
    · have HF : Hid (hitV l p = 0) := Lib.hid (by unfold hitV; rw [find_no _ l fun j y hy hj => hq.out j y hy (by omega)])
      go_wp2
      go_ret
      exact ⟨by rw [HF.out]; rfl, hb⟩

set_option maxRecDepth 100000 in
theorem flat31_any (p : Int) (bx : Nat) (x : Spn) (w : World) (hbx : bx < w.heap.size) (hp : w.cell? ⟨bx, 0, none⟩ = some (.int .i32 p)) :
    Calls Tryz.prog 45 #[.agg #[.int .i32 x.a, .int .i32 x.b], .pointer (some ⟨bx, 0, none⟩)] w fun e w' => e = .returned (.bool (hitS p x)) ∧ Below w.heap.size w w' := by
  have hb := (Below.refl w.heap.size w).alloc (Nat.le_refl _) (.cells #[.int .i32 x.a, .int .i32 x.b] 71 (0, 0))
  have HB := Lib.hid hb
  clear hb
  unfold hitS
  by_cases h1 : p ≥ x.a
  · have e1 : decide (p ≥ x.a) = true := decide_eq_true h1
    go_enter Tryz.func45, Tryz.ntmps45
    go_wp2
    go_ret
    exact ⟨by rw [e1]; rfl, HB.out⟩
  · have e1 : decide (p ≥ x.a) = false := decide_eq_false h1
    go_enter Tryz.func45, Tryz.ntmps45
    go_wp2
    go_ret
    exact ⟨by first | rfl | (rw [e1]; rfl), HB.out⟩

set_option maxRecDepth 100000 in
theorem in_flat (p : Int) (bx : Nat) (a : Option Addr) (l : List Spn) (c : Nat) (w : World) (hl : l.length ≤ 1048576) (hS : Spns w a l) (hbx : bx < w.heap.size) (hp : w.cell? ⟨bx, 0, none⟩ = some (.int .i32 p)) :
    Calls Tryz.prog 43 #[.slice a l.length c, .pointer (some ⟨bx, 0, none⟩)] w fun e w' => e = .returned (.bool (l.any (hitS p))) ∧ Below w.heap.size w w' := by
  have HC := Lib.hid (containsSpn_any 45 (hitS p) ⟨bx, 0, none⟩ a l c w hl hS (by intro args w; first | rfl | kernel_rfl | go_simp) (fun W x hW _ => flat31_any p bx x W (Nat.lt_of_lt_of_le hbx hW.size) ((hW.cell (p := ⟨bx, 0, none⟩) hbx).trans hp)))
  clear hS hp
  go_enter Tryz.func43, Tryz.ntmps43
  go_wp2_with (go_at_call 44; refine HC.out.mono ?_; rintro e w1 ⟨rfl, hb1⟩)
  go_ret
  exact ⟨rfl, hb1⟩

def encI (x : Int) : List Value := [.int .i32 x]

set_option maxRecDepth 100000 in
set_option maxHeartbeats 1000000 in
theorem clone_any (a : Option Addr) (l : List Int) (c : Nat) (w : World) (hl : l.length ≤ 1048576) (hR : Rs w a l) :
    Calls Tryz.prog 42 #[.slice a l.length c] w fun e w' => (∃ a' c', e = .returned (.slice a' l.length c') ∧ Rs w' a' l) ∧ Below w.heap.size w w' := by
  have HR := Lib.hid hR
  have qn : ∀ (W : World) (p : Addr) (n c : Nat), (binOp .eql 45 (.slice (some p) n c) (.slice none 0 0)).run Tryz.prog W = .ok (.bool false) W := fun W p n c => Lib.run_eql_slice_some_nil W _ _ _ Tryz.underlying45
  have qm : ∀ (W : World) (n c : Nat), (binOp .eql 45 (.slice none n c) (.slice none 0 0)).run Tryz.prog W = .ok (.bool true) W := fun W n c => Lib.run_eql_slice_nil_nil W _ _ Tryz.underlying45
  cases a with
  | none =>
    obtain rfl : l = [] := by
      rcases hR with h | ⟨_, _, h, _⟩
      · exact h
      · cases h
    clear hR
    go_enter Tryz.func42, Tryz.ntmps42
    go_wp2
    go_ret
    exact ⟨⟨none, 0, rfl, .inl rfl⟩, Below.refl _ _⟩
  | some p =>
    clear hR
    obtain ⟨i0, hi, hz0, hz1, hz2⟩ := info_parts info_rune
    have hown : (w.alloc (.cells #[] 21 (0, 0))).ownsRow w.heap.size 21 1 (.slice (some ⟨w.heap.size, 0, none⟩) 0 0) 0 [] := World.ownsRow_made (base := w.heap.size) (e := 21) (size := 1) w #[] 0 (Nat.le_refl _) (by decide) rfl
    have hcs : ∀ (j : Nat) u, (l.map (Value.int .i32))[j]? = some u → (w.alloc (.cells #[] 21 (0, 0))).cell? (p.add j) = some u := by
      intro j u hu
      rcases HR.out with h | ⟨bk, o, h, hbk, hc⟩
      · subst h; simp at hu
      · cases h
        rw [List.getElem?_map] at hu
        obtain ⟨x, hx, rfl⟩ := Option.map_eq_some_iff.1 hu
        rw [Lib.add_plain]
        have := (((Below.refl w.heap.size w).alloc (Nat.le_refl _) (.cells #[] 21 (0, 0))).cell (p := ⟨bk, o + j, none⟩) hbk).trans (hc j x hx)
        exact this
    have HOW := Lib.hid hown
    have HCS := Lib.hid hcs
    clear hown hcs
    go_enter Tryz.func42, Tryz.ntmps42
    go_wp2_with (at_builtin; refine wpList_append_own _ rfl _ _ 45 rfl w.heap.size 21 i0 _ 1 4 Tryz.underlying45 hi hz0 hz1 hz2 rfl (by decide) _ 0 _ rfl HOW.out p l.length c (l.map (Value.int .i32)) rfl (by simp) HCS.out (fun u hu => by obtain ⟨x, _, rfl⟩ := List.mem_map.1 hu; rfl) (by unfold maxLen; omega) (by omega) (by simp) ?_)
    intro v' w4 hown4 hgrow hv'
    have hb4 : Below w.heap.size w w4 := ((Below.refl w.heap.size w).alloc (Nat.le_refl _) (.cells #[] 21 (0, 0))).grown hgrow (by simp) (fun k hk => (HOW.out.lt k hk).1)
    rw [← show flat encI l = l.map (Value.int .i32) from flat_one _ l] at hown4
    obtain ⟨a', c', rfl, ht, _⟩ := tab_of_own (k := 1) (enc := encI) (fun _ => rfl) hown4
    have hrs : Rs w4 a' l := by
      rcases ht with h | ⟨bk, o, h1, h2, h3⟩
      · exact .inl h
      · exact .inr ⟨bk, o, h1, h2, fun j x hx => by have := h3 j x hx 0 _ rfl; rwa [Nat.mul_one, Nat.add_zero] at this⟩
    clear hown4 hgrow hv' ht
    go_wp2
    go_ret
    exact ⟨⟨a', c', rfl, hrs⟩, hb4⟩

set_option maxRecDepth 100000 in
set_option maxHeartbeats 1000000 in
theorem chars_flat (p : Int) (bx : Nat) (a : Option Addr) (l : List Chr) (c : Nat) (w : World) (hl : l.length ≤ 1048576) (hli : ∀ x ∈ l, x.is.length ≤ 1048576) (hV : Chrs w a l) (hbx : bx < w.heap.size) (hp : w.cell? ⟨bx, 0, none⟩ = some (.int .i32 p)) :
    Calls Tryz.prog 41 #[.slice a l.length c, .pointer (some ⟨bx, 0, none⟩)] w fun e w' => (∃ a' c', e = .returned (.slice a' (hitC l p).length c') ∧ Rs w' a' (hitC l p)) ∧ Below w.heap.size w w' := by
  obtain ⟨rs, hT, hpl, hrs⟩ := hV
  have hlen : l.length = rs.length := by rw [← hpl, List.length_map]
  have hri : ∀ r ∈ rs, r.is.length ≤ 1048576 := fun r hr => hli r.plain (by rw [← hpl]; exact List.mem_map_of_mem hr)
  have HV := Lib.hid hT
  have HP := Lib.hid hp
  have HRS := Lib.hid hrs
  have HRI := Lib.hid hri
  have HIT : Hid (∀ (k : Nat) x, rs[k]? = some x → (decide (p ≥ x.a) && decide (p ≤ x.b)) = true → (∀ (j : Nat) y, rs[j]? = some y → j < k → (decide (p ≥ y.a) && decide (p ≤ y.b)) = false) → hitC l p = x.is) := Lib.hid fun k x hx h1 h2 => by
    unfold hitC
    rw [find_at _ l k x.plain (by rw [← hpl, List.getElem?_map, hx]; rfl) h1 (fun j y hy hj => by
      rw [← hpl, List.getElem?_map] at hy
      obtain ⟨z, hz, rfl⟩ := Option.map_eq_some_iff.1 hy
      exact h2 j z hz hj)]
    rfl
  have HNO : Hid ((∀ (j : Nat) y, rs[j]? = some y → j < rs.length → (decide (p ≥ y.a) && decide (p ≤ y.b)) = false) → hitC l p = []) := Lib.hid fun h2 => by
    unfold hitC
    rw [find_no _ l (fun j y hy hj => by
      rw [← hpl, List.getElem?_map] at hy
      obtain ⟨z, hz, rfl⟩ := Option.map_eq_some_iff.1 hy
      exact h2 j z hz (by rw [← hlen]; exact hj))]
  clear hT hp hrs hri hli
  rw [hlen] at hl ⊢
  clear hlen hpl
  generalize hitC l p = hc at *
  go_enter Tryz.func41, Tryz.ntmps41
  go_wp2
  go_loopw [8] (fun v w' => ∃ k : Nat, v = .int .i64 k ∧ k ≤ rs.length ∧ Below w.heap.size w w' ∧ Hid (∀ (j : Nat) x, rs[j]? = some x → j < k → (decide (p ≥ x.a) && decide (p ≤ x.b)) = false)) (fun v _ => rs.length - (intOf v).toNat)
  case atStart => exact ⟨0, rfl, Nat.zero_le _, Below.refl _ _, Lib.hid (fun j x _ h => by omega)⟩
  case round =>
    obtain ⟨k, rfl, hk, hb, hq⟩ := hrel
    by_cases hlt : k < rs.length
    · obtain ⟨x, hx⟩ : ∃ x, rs[k]? = some x := ⟨_, List.getElem?_eq_getElem hlt⟩
      rcases HV.out.below hb with h0 | ⟨bk, o, rfl, hbk, hcc⟩
      · exact absurd (by rw [h0]; rfl : rs.length = 0) (by omega)
      obtain ⟨q0, q1, q2⟩ := raws_at (hcc k x hx)
      have hp1 : wr.cell? ⟨bx, 0, none⟩ = some (.int .i32 p) := (hb.cell (p := ⟨bx, 0, none⟩) hbx).trans HP.out
      have hbr : bx < wr.heap.size := Nat.lt_of_lt_of_le hbx hb.size
      have HX := Lib.hid hx
      have hba := hb.alloc hb.size (.cells #[.int .i32 x.a, .int .i32 x.b, .slice x.ad x.is.length x.cap] 68 (0, 0))
      have HBA := Lib.hid hba
      have HCL := Lib.hid (clone_any x.ad x.is x.cap _ (HRI.out x (List.mem_of_getElem? hx)) ((HRS.out x (List.mem_of_getElem? hx)).below hba))
      clear hcc hx hbk hba
      by_cases h1 : p ≥ x.a
      · have e1 : decide (p ≥ x.a) = true := decide_eq_true h1
        by_cases h2 : p ≤ x.b
        · have e2 : decide (p ≤ x.b) = true := decide_eq_true h2
          have HF := Lib.hid (HIT.out k x HX.out (by rw [e1, e2]; rfl) hq.out)
          go_wp2_with (go_at_call 42; refine HCL.out.mono ?_; rintro e w1 ⟨⟨a', c', rfl, hrs1⟩, hb1⟩; have HR1 := Lib.hid hrs1; clear hrs1)
          go_ret
          exact ⟨⟨a', c', by rw [HF.out]; rfl, by rw [HF.out]; exact HR1.out⟩, HBA.out.trans (hb1.mono HBA.out.size)⟩
        · have e2 : decide (p ≤ x.b) = false := decide_eq_false h2
          have HF : Hid (∀ (j : Nat) y, rs[j]? = some y → j < k + 1 → (decide (p ≥ y.a) && decide (p ≤ y.b)) = false) := Lib.hid fun j y hy hj => by
            rcases Nat.lt_or_ge j k with h | h
            · exact hq.out j y hy h
            · obtain rfl : j = k := by omega
              have := HX.out
              rw [hy] at this
              cases this
              rw [e2, Bool.and_false]
          go_wp2
          go_roundw
          case rel => exact ⟨k + 1, by go_num, by omega, HBA.out, HF⟩
          case measure => simp [intOf]; omega
      · have e1 : decide (p ≥ x.a) = false := decide_eq_false h1
        have HF : Hid (∀ (j : Nat) y, rs[j]? = some y → j < k + 1 → (decide (p ≥ y.a) && decide (p ≤ y.b)) = false) := Lib.hid fun j y hy hj => by
          rcases Nat.lt_or_ge j k with h | h
          · exact hq.out j y hy h
          · obtain rfl : j = k := by omega
            have := HX.out
            rw [hy] at this
            cases this
            rw [e1, Bool.false_and]
        go_wp2
        go_roundw
        case rel => exact ⟨k + 1, by go_num, by omega, HBA.out, HF⟩
        case measure => simp [intOf]; omega
    · have HF := Lib.hid (HNO.out fun j y hy hj => hq.out j y hy (by omega))
      go_wp2
      go_ret
      exact ⟨⟨none, 0, by rw [HF.out]; rfl, .inl HF.out⟩, hb⟩
end Go.Proofs.YtgdambmineeboaaGreatDoor.Flat

/- The library's strings.Trim at an ASCII set of bytes, laid at this program. -/
namespace Go.Proofs.YtgdambmineeboaaGreatDoor.Trim
open Go.RowKit
theorem trim_any (s set : ByteArray) (w : World) (hs : s.size ≤ 140737488351232) (hcs : set.size < 4294967281) (ha : ∀ c ∈ set.data.toList, c.toNat < 128) :
    Calls Tryz.prog 147 #[.string s, .string set] w fun e w' => e = .returned (.string ⟨(Lib.trimS s.data.toList set.data.toList).toArray⟩) ∧ Below w.heap.size w w' :=
  Any.strings_Trim_laid Tryz.lays160 (by kernel_rfl) s set w (by omega) hcs (fun _ b hb => ha b (List.mem_of_getElem? hb))
end Go.Proofs.YtgdambmineeboaaGreatDoor.Trim

/- Plain facts (no program in sight): texts cut at a byte; what line.cut tells of a line; a line that was printed is cut into what was printed. -/
namespace Go.Proofs.YtgdambmineeboaaGreatDoor.Split
open Go.Lib Go.Proofs.YtgdambmineeboaaGreatDoor.Text Go.Proofs.YtgdambmineeboaaGreatDoor.Runes Go.Proofs.YtgdambmineeboaaGreatDoor.Print

/-- A text's pieces between a byte. -/
def pieces (c : UInt8) : List UInt8 → List (List UInt8)
  | [] => [[]]
  | b :: l => if b = c then [] :: pieces c l else
    match pieces c l with
    | [] => [[b]]
    | h :: t => (b :: h) :: t

theorem pieces_none (c : UInt8) : ∀ (l : List UInt8), c ∉ l → pieces c l = [l]
  | [], _ => rfl
  | b :: l, h => by
    rw [pieces, if_neg (fun e => h (by rw [e]; exact List.mem_cons_self ..)), pieces_none c l (fun hc => h (List.mem_cons_of_mem _ hc))]
theorem pieces_hit (c : UInt8) (y : List UInt8) : ∀ (x : List UInt8), c ∉ x → pieces c (x ++ c :: y) = x :: pieces c y
  | [], _ => by rw [List.nil_append, pieces, if_pos rfl]
  | b :: x, h => by
    rw [List.cons_append, pieces, if_neg (fun e => h (by rw [e]; exact List.mem_cons_self ..)), pieces_hit c y x (fun hc => h (List.mem_cons_of_mem _ hc))]

theorem byte_none (c : UInt8) : ∀ (l : List UInt8), c ∉ l → Lib.indexByte l c = -1
  | [], _ => rfl
  | b :: l, h => by
    have hb : (b == c) = false := by rw [beq_eq_false_iff_ne]; exact fun e => h (by rw [e]; exact List.mem_cons_self ..)
    rw [Lib.indexByte, hb, byte_none c l (fun hc => h (List.mem_cons_of_mem _ hc))]
    rfl
theorem byte_hit (c : UInt8) (y : List UInt8) : ∀ (x : List UInt8), c ∉ x → Lib.indexByte (x ++ c :: y) c = x.length
  | [], _ => by rw [List.nil_append, Lib.indexByte]; simp
  | b :: x, h => by
    have hb : (b == c) = false := by rw [beq_eq_false_iff_ne]; exact fun e => h (by rw [e]; exact List.mem_cons_self ..)
    rw [List.cons_append, Lib.indexByte, hb, byte_hit c y x (fun hc => h (List.mem_cons_of_mem _ hc))]
    have : ((x.length : Int) == -1) = false := by rw [beq_eq_false_iff_ne]; omega
    rw [this]
    simp
theorem idx_none {c : UInt8} {l : List UInt8} (h : c ∉ l) : Lib.index l [c] = -1 := (Lib.index_one l c).trans (byte_none c l h)
theorem idx_hit {c : UInt8} {x : List UInt8} (y : List UInt8) (h : c ∉ x) : Lib.index (x ++ c :: y) [c] = x.length := (Lib.index_one _ c).trans (byte_hit c y x h)

theorem first_cut (c : UInt8) : ∀ (l : List UInt8), c ∉ l ∨ ∃ x y, l = x ++ c :: y ∧ c ∉ x
  | [] => .inl (by simp)
  | b :: l => by
    by_cases hb : b = c
    · exact .inr ⟨[], l, by rw [hb]; rfl, by simp⟩
    · rcases first_cut c l with h | ⟨x, y, e, h⟩
      · exact .inl (by simp [h, Ne.symm hb])
      · exact .inr ⟨b :: x, y, by rw [e]; rfl, by simp [h, Ne.symm hb]⟩

theorem cut_none {c : UInt8} {l : List UInt8} (h : c ∉ l) : Lib.cut l [c] = (l, [], false) := by
  unfold Lib.cut
  rw [idx_none h, if_neg (by decide)]
theorem cut_hit {c : UInt8} {x : List UInt8} (y : List UInt8) (h : c ∉ x) : Lib.cut (x ++ c :: y) [c] = (x, y, true) := by
  unfold Lib.cut
  rw [idx_hit y h, if_pos (by omega)]
  simp

/-- What strings.Split tells at one byte. -/
theorem split_pieces (c : UInt8) : ∀ (n : Nat) (l : List UInt8), l.length ≤ n → Lib.splitK [c] 0 (Lib.count l [c]) l = pieces c l := by
  intro n
  induction n with
  | zero =>
    intro l hl
    obtain rfl : l = [] := List.length_eq_zero_iff.1 (by omega)
    rw [Lib.count_miss (idx_none (by simp))]
    rfl
  | succ n ih =>
    intro l hl
    rcases first_cut c l with h | ⟨x, y, rfl, h⟩
    · rw [Lib.count_miss (idx_none h), pieces_none c l h]
      rfl
    · rw [Lib.count_hit (by simp) (idx_hit y h), pieces_hit c y x h]
      have hd : (x ++ c :: y).drop (x.length + [c].length) = y := by simp
      rw [hd, Nat.add_comm, Lib.splitK, idx_hit y h]
      have e1 : ((x.length : Int) == -1) = false := by rw [beq_eq_false_iff_ne]; omega
      rw [e1]
      simp only [Bool.false_eq_true, if_false, Int.toNat_natCast, Nat.add_zero]
      rw [hd, ih y (by simp at hl; omega)]
      simp
theorem splitB_pieces (c : UInt8) (s : ByteArray) : (Lib.splitB ⟨#[c]⟩ 0 (Lib.countB s ⟨#[c]⟩) s).map (·.data.toList) = pieces c s.data.toList := by
  rw [Lib.splitB_data]
  exact split_pieces c _ _ (Nat.le_refl _)
theorem splitB_length (c : UInt8) (s : ByteArray) : (Lib.splitB ⟨#[c]⟩ 0 (Lib.countB s ⟨#[c]⟩) s).length = (pieces c s.data.toList).length := by
  rw [← splitB_pieces c s, List.length_map]
theorem count_pieces (c : UInt8) : ∀ (n : Nat) (l : List UInt8), l.length ≤ n → Lib.count l [c] + 1 = (pieces c l).length := by
  intro n
  induction n with
  | zero =>
    intro l hl
    obtain rfl : l = [] := List.length_eq_zero_iff.1 (by omega)
    rw [Lib.count_miss (idx_none (by simp))]
    rfl
  | succ n ih =>
    intro l hl
    rcases first_cut c l with h | ⟨x, y, rfl, h⟩
    · rw [Lib.count_miss (idx_none h), pieces_none c l h]
      rfl
    · rw [Lib.count_hit (by simp) (idx_hit y h), pieces_hit c y x h]
      have hd : (x ++ c :: y).drop (x.length + [c].length) = y := by simp
      rw [hd, Nat.add_comm, List.length_cons, ← ih y (by simp at hl; omega)]
      omega
theorem pieces_le (c : UInt8) : ∀ (l : List UInt8), (pieces c l).length ≤ l.length + 1 := fun l => by
  induction l with
  | nil => simp [pieces]
  | cons b l ih =>
    rw [pieces]
    split
    · simp; omega
    · split
      · simp
      · rename_i h t e; rw [e] at ih; simp at ih ⊢; omega
theorem pieces_size (c : UInt8) : ∀ (l : List UInt8), ∀ p ∈ pieces c l, p.length ≤ l.length := fun l => by
  induction l with
  | nil => intro p hp; simp [pieces] at hp; simp [hp]
  | cons b l ih =>
    intro p hp
    rw [pieces] at hp
    split at hp
    · rcases List.mem_cons.1 hp with rfl | hp
      · simp
      · have := ih p hp; simp; omega
    · split at hp
      · simp at hp; simp [hp]
      · rename_i h t e
        rcases List.mem_cons.1 hp with rfl | hp
        · have := ih h (by rw [e]; exact List.mem_cons_self ..); simp; omega
        · have := ih p (by rw [e]; exact List.mem_cons_of_mem _ hp); simp; omega
theorem pieces_ne (c : UInt8) (l : List UInt8) : pieces c l ≠ [] := by
  cases l with
  | nil => simp [pieces]
  | cons b l =>
    rw [pieces]
    split
    · simp
    · split <;> simp

/-! ### ends -/
theorem while_all {p : UInt8 → Bool} {a l : List UInt8} (h : ∀ x ∈ a, p x = true) : (a ++ l).dropWhile p = l.dropWhile p := by
  induction a with
  | nil => rfl
  | cons x a ih =>
    rw [List.cons_append, List.dropWhile_cons_of_pos (h x (List.mem_cons_self ..)), ih fun y hy => h y (List.mem_cons_of_mem _ hy)]
theorem while_head {p : UInt8 → Bool} {l : List UInt8} (h : ∀ x, l.head? = some x → p x = false) : l.dropWhile p = l := by
  cases l with
  | nil => rfl
  | cons x l => rw [List.dropWhile_cons_of_neg (by rw [h x rfl]; decide)]

def Ends (set l : List UInt8) : Prop := (∀ x, l.head? = some x → set.contains x = false) ∧ (∀ x, l.reverse.head? = some x → set.contains x = false)

theorem while_id {p : UInt8 → Bool} {l : List UInt8} (h : (l.dropWhile p).length = l.length) : ∀ x, l.head? = some x → p x = false := by
  cases l with
  | nil => intro x hx; cases hx
  | cons y l =>
    intro x hx
    cases hx
    cases hp : p y with
    | false => rfl
    | true =>
      rw [List.dropWhile_cons_of_pos hp] at h
      have := (List.dropWhile_sublist p (l := l)).length_le
      simp at h
      omega
theorem ends_of_btrim {set l : List UInt8} (h : btrim set l = l) : Ends set l := by
  have h1 := ltrim_le set l
  have h2 := rtrim_le set (ltrim set l)
  have h3 : (rtrim set (ltrim set l)).length = l.length := congrArg List.length h
  have hl : (ltrim set l).length = l.length := by omega
  have e1 : ltrim set l = l := while_head (while_id hl)
  refine ⟨while_id hl, ?_⟩
  have h4 : rtrim set l = l := by
    have h5 : rtrim set (ltrim set l) = l := h
    rwa [e1] at h5
  refine while_id ?_
  have h6 := congrArg List.length h4
  unfold rtrim ltrim at h6
  rw [List.length_reverse] at h6
  rw [List.length_reverse]
  exact h6

theorem trim_pad {set a l b : List UInt8} (he : Ends set l) (ha : ∀ x ∈ a, set.contains x = true) (hb : ∀ x ∈ b, set.contains x = true) : Lib.trimS (a ++ (l ++ b)) set = l := by
  have hr : Lib.trimRightS (a ++ (l ++ b)) set = if l = [] then [] else a ++ l := by
    unfold Lib.trimRightS
    rw [List.reverse_append, List.reverse_append, List.append_assoc, while_all (fun x hx => hb x (List.mem_reverse.1 hx))]
    by_cases h0 : l = []
    · subst h0
      have e := while_all (l := []) (a := a.reverse) (p := fun x => set.contains x) (fun x hx => ha x (List.mem_reverse.1 hx))
      rw [List.append_nil] at e
      rw [if_pos rfl, List.reverse_nil, List.nil_append, e]
      rfl
    · rw [if_neg h0, while_head (fun x hx => he.2 x (by
        cases hh : l.reverse with
        | nil => exact absurd (List.reverse_eq_nil_iff.1 hh) h0
        | cons y r => rw [hh] at hx; simpa using hx))]
      simp
  unfold Lib.trimS
  rw [hr]
  unfold Lib.trimLeftS
  by_cases h0 : l = []
  · rw [if_pos h0, h0]; rfl
  · rw [if_neg h0, while_all ha, while_head he.1]

/-! ### what line.cut tells -/
def body (b : List UInt8) : List UInt8 := Lib.trimSuffix b [13]
def lineNote (b : List UInt8) : List UInt8 := Lib.trimS (Lib.cut (body b) [35]).2.1 [32, 9]
def lineFields (b : List UInt8) : List (List UInt8) := (pieces 59 (Lib.cut (body b) [35]).1).map fun p => Lib.trimS p [32, 9]
def lineSome (b : List UInt8) : Bool := decide (1 < (lineFields b).length) || !((lineFields b).headD []).isEmpty

theorem body_none {b : List UInt8} (h : (13 : UInt8) ∉ b) : body b = b := by
  unfold body Lib.trimSuffix
  have e : Lib.hasSuffix b [13] = false := by
    cases hs : Lib.hasSuffix b [13] with
    | false => rfl
    | true =>
      have := (List.isSuffixOf_iff_suffix.1 hs).mem (List.mem_singleton_self (13 : UInt8))
      exact absurd this h
  rw [e]
  rfl

/-- The fields of a line that was printed, with blanks ahead and behind. -/
theorem fields_back (tl : List UInt8) (htl : ∀ x ∈ tl, ([32, 9] : List UInt8).contains x = true) : ∀ (fs : List (List UInt8)) (pre : List UInt8), fs ≠ [] → (∀ x ∈ pre, ([32, 9] : List UInt8).contains x = true) →
    (∀ f ∈ fs, Ends [32, 9] f ∧ (59 : UInt8) ∉ f) → (pieces 59 (pre ++ (Lib.join fs [59, 32] ++ tl))).map (fun p => Lib.trimS p [32, 9]) = fs
  | [], _, h, _, _ => absurd rfl h
  | [f], pre, _, hp, hf => by
    obtain ⟨he, hn⟩ := hf f (List.mem_cons_self ..)
    have e : Lib.join [f] [59, 32] = f := by simp [Lib.join]
    have hno : (59 : UInt8) ∉ pre ++ (f ++ tl) := by
      intro hm
      rcases List.mem_append.1 hm with h | h
      · exact absurd (hp _ h) (by decide)
      · rcases List.mem_append.1 h with h | h
        · exact hn h
        · exact absurd (htl _ h) (by decide)
    rw [e, pieces_none 59 _ hno, List.map_cons, List.map_nil, trim_pad he hp htl]
  | f :: g :: r, pre, _, hp, hf => by
    obtain ⟨he, hn⟩ := hf f (List.mem_cons_self ..)
    have e : pre ++ (Lib.join (f :: g :: r) [59, 32] ++ tl) = (pre ++ f) ++ 59 :: ([32] ++ (Lib.join (g :: r) [59, 32] ++ tl)) := by
      have : Lib.join (f :: g :: r) [59, 32] = f ++ [59, 32] ++ Lib.join (g :: r) [59, 32] := by simp [Lib.join]
      rw [this]
      simp
    have hno : (59 : UInt8) ∉ pre ++ f := by
      intro hm
      rcases List.mem_append.1 hm with h | h
      · exact absurd (hp _ h) (by decide)
      · exact hn h
    have et : Lib.trimS (pre ++ f) [32, 9] = f := by
      have := trim_pad (b := []) he hp (fun x hx => by cases hx)
      rwa [List.append_nil] at this
    rw [e, pieces_hit 59 _ _ hno, List.map_cons, et, fields_back tl htl (g :: r) [32] (by simp) (fun x hx => by simp at hx; subst hx; decide) (fun q hq => hf q (List.mem_cons_of_mem _ hq))]

theorem join_free {c : UInt8} (h1 : c ≠ 59) (h2 : c ≠ 32) : ∀ (fs : List (List UInt8)), (∀ f ∈ fs, c ∉ f) → c ∉ Lib.join fs [59, 32]
  | [], _ => by simp [Lib.join]
  | [f], h => by have := h f (List.mem_cons_self ..); simpa [Lib.join] using this
  | f :: g :: r, h => by
    have e : Lib.join (f :: g :: r) [59, 32] = f ++ [59, 32] ++ Lib.join (g :: r) [59, 32] := by simp [Lib.join]
    have := join_free h1 h2 (g :: r) (fun q hq => h q (List.mem_cons_of_mem _ hq))
    have := h f (List.mem_cons_self ..)
    rw [e]
    simp [*]
theorem free_of_hasL {l set : List UInt8} (h : hasL l set = false) (c : UInt8) (hc : set.contains c = true) : c ∉ l := fun hm => by
  have := List.any_eq_false.1 h c hm
  exact this hc

/-- What line.Print's text is without its end. -/
def oneLine (l : List ByteArray) (note : ByteArray) : List UInt8 := Lib.join (l.map (·.data.toList)) [59, 32] ++ noteTail note

theorem plain_parts {without s : List UInt8} (h : plainB without s = true) : hasL s without = false ∧ Ends [32, 9] s := by
  unfold plainB at h
  rw [Bool.and_eq_true, Bool.not_eq_true'] at h
  exact ⟨h.1, ends_of_btrim (eq_of_beq h.2)⟩

theorem printed (l : List ByteArray) (note : ByteArray) (hh : badHead l note = false) (hf : badField l = false) :
    (10 : UInt8) ∉ oneLine l note ∧ lineFields (oneLine l note) = l.map (·.data.toList) ∧ lineNote (oneLine l note) = note.data.toList ∧ lineSome (oneLine l note) = true := by
  unfold badHead at hh
  rw [Bool.or_eq_false_iff, Bool.or_eq_false_iff, Bool.not_eq_false'] at hh
  obtain ⟨⟨h0, h1⟩, hn⟩ := hh
  obtain ⟨hn1, hn2⟩ := plain_parts hn
  have hfs : ∀ f ∈ l.map (·.data.toList), hasL f [10, 13, 59, 35] = false ∧ Ends [32, 9] f := by
    intro f hm
    obtain ⟨s, hs, rfl⟩ := List.mem_map.1 hm
    have := List.any_eq_false.1 hf s hs
    exact plain_parts (by simpa using this)
  have hne : l.map (·.data.toList) ≠ [] := by
    intro e
    have : l = [] := List.map_eq_nil_iff.1 e
    subst this
    simp at h0
  have hfree : ∀ c, ([10, 13, 59, 35] : List UInt8).contains c = true → c ≠ 59 → c ∉ Lib.join (l.map (·.data.toList)) [59, 32] := fun c hc h59 =>
    join_free h59 (by rintro rfl; exact absurd hc (by decide)) _ fun f hm => free_of_hasL (hfs f hm).1 c hc
  have hnfree : ∀ c, ([10, 13] : List UInt8).contains c = true → c ∉ noteTail note := by
    intro c hc hm
    unfold noteTail at hm
    split at hm
    · cases hm
    · rcases List.mem_append.1 hm with h | h
      · have h32 : c = 32 ∨ c = 35 ∨ c = 32 := by simpa using h
        rcases h32 with rfl | rfl | rfl <;> exact absurd hc (by decide)
      · exact free_of_hasL hn1 c hc h
  have h10 : (10 : UInt8) ∉ oneLine l note := by
    intro hm
    rcases List.mem_append.1 hm with h | h
    · exact hfree 10 (by decide) (by decide) h
    · exact hnfree 10 (by decide) h
  have h13 : (13 : UInt8) ∉ oneLine l note := by
    intro hm
    rcases List.mem_append.1 hm with h | h
    · exact hfree 13 (by decide) (by decide) h
    · exact hnfree 13 (by decide) h
  have hb := body_none h13
  have hcut : ∃ tl n, Lib.cut (oneLine l note) [35] = (Lib.join (l.map (·.data.toList)) [59, 32] ++ tl, n, !note.data.toList.isEmpty) ∧ (∀ x ∈ tl, ([32, 9] : List UInt8).contains x = true) ∧ Lib.trimS n [32, 9] = note.data.toList := by
    by_cases h : note.data.toList = []
    · refine ⟨[], [], ?_, (fun x hx => by cases hx), by rw [h]; rfl⟩
      unfold oneLine noteTail
      rw [if_pos h, List.append_nil, cut_none (hfree 35 (by decide) (by decide)), h]
      rfl
    · refine ⟨[32], [32] ++ note.data.toList, ?_, (fun x hx => by simp at hx; subst hx; decide), ?_⟩
      · unfold oneLine noteTail
        rw [if_neg h]
        have e : Lib.join (l.map (·.data.toList)) [59, 32] ++ ([32, 35, 32] ++ note.data.toList) = (Lib.join (l.map (·.data.toList)) [59, 32] ++ [32]) ++ 35 :: ([32] ++ note.data.toList) := by simp
        rw [e, cut_hit _ (by
          intro hm
          rcases List.mem_append.1 hm with h' | h'
          · exact hfree 35 (by decide) (by decide) h'
          · simp at h'), show note.data.toList.isEmpty = false from List.isEmpty_eq_false_iff.2 h]
        rfl
      · have := trim_pad (b := []) (a := [32]) hn2 (fun x hx => by simp at hx; subst hx; decide) (fun x hx => by cases hx)
        rwa [List.append_nil] at this
  obtain ⟨tl, n, hc, htl, hnote⟩ := hcut
  have hfields : lineFields (oneLine l note) = l.map (·.data.toList) := by
    unfold lineFields
    rw [hb, hc]
    exact fields_back tl htl _ [] hne (fun x hx => by cases hx) fun f hm => ⟨(hfs f hm).2, free_of_hasL (hfs f hm).1 59 (by decide)⟩
  refine ⟨h10, hfields, ?_, ?_⟩
  · unfold lineNote
    rw [hb, hc]
    exact hnote
  · unfold lineSome
    rw [hfields, List.length_map]
    cases l with
    | nil => exact absurd rfl hne
    | cons x r =>
      cases r with
      | nil =>
        have : (x.data.toList == []) = false := by simpa using h1
        rw [beq_eq_false_iff_ne] at this
        simp only [List.map_cons, List.map_nil, List.headD_cons]
        rw [show x.data.toList.isEmpty = false from List.isEmpty_eq_false_iff.2 this]
        rfl
      | cons y r => simp
end Go.Proofs.YtgdambmineeboaaGreatDoor.Split

/- The reference's Of at every book. -/
namespace Go.Proofs.YtgdambmineeboaaGreatDoor.Book
open Go.RowKit Go.Lib Go.Proofs.YtgdambmineeboaaGreatDoor.Text Go.Proofs.YtgdambmineeboaaGreatDoor.Runes Go.Proofs.YtgdambmineeboaaGreatDoor.Print Go.Proofs.YtgdambmineeboaaGreatDoor.RefNine Go.Proofs.YtgdambmineeboaaGreatDoor.RefPrint Go.Proofs.YtgdambmineeboaaGreatDoor.Format Go.Proofs.YtgdambmineeboaaGreatDoor.Tell Go.Proofs.YtgdambmineeboaaGreatDoor.Given Go.Proofs.YtgdambmineeboaaGreatDoor.Mem Go.Proofs.YtgdambmineeboaaGreatDoor.Of Go.Proofs.YtgdambmineeboaaGreatDoor.Lists

theorem of_any (B : Mem.Book) (A : Ads) (w : World) (hs : Small B) (hL : Lies w B A) :
    Calls Tryz.prog 5 #[bookV B A] w fun e w' => ∃ A', e = .returned (bookV B A') ∧ Lies w' B A' ∧ Below w.heap.size w w' ∧ B.names.length ≤ A'.nc ∧ B.decomp.length ≤ A'.dc := by
  by_cases h0 : B.names = []
  · cases hA : A.na with
    | none => exact of_nil B A w hs h0 hA hL
    | some ad => exact of_zero B A ad w hs h0 hA hL
  · rcases hL.n with h | ⟨bk, o, hA, hbk, hc⟩
    · exact absurd h h0
    · exact of_some B A bk o w hs (by cases hn : B.names with | nil => exact absurd hn h0 | cons => simp) hA hbk hc hL
end Go.Proofs.YtgdambmineeboaaGreatDoor.Book
