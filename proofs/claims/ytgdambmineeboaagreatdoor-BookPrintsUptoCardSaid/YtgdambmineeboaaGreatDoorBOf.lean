/- The walk of line.Tell. -/
import Derived.Test.YtgdambmineeboaaGreatDoorFormat
import Derived.OwnWalk
import Derived.Laws.OwnMore
import Derived.Tactics2
import Derived.WalkSpells
import Derived.StillTactics
import Derived.Laws.Pointers
import Derived.Deep.RegionHeld3
import Derived.Deep.AppendLies
import Derived.KernelRfl
set_option linter.unusedSimpArgs false
set_option linter.unusedVariables false
namespace Go.Proofs.YtgdambmineeboaaGreatDoor.Tell
open Go.RowKit Go.Lib Go.Proofs.YtgdambmineeboaaGreatDoor.Text Go.Proofs.YtgdambmineeboaaGreatDoor.Runes Go.Proofs.YtgdambmineeboaaGreatDoor.Print Go.Proofs.YtgdambmineeboaaGreatDoor.RefNine Go.Proofs.YtgdambmineeboaaGreatDoor.RefPrint Go.Proofs.YtgdambmineeboaaGreatDoor.Format

theorem own_below {w w' : World} {base : Nat} {e : TypeId} {size : Nat} {v : Value} {n : Nat} {xs : List Value} (h : w.ownsRow base e size v n xs) (hb : Below w.heap.size w w') : w'.ownsRow base e size v n xs :=
  h.kept (row := none) ⟨hb.os, hb.tape, hb.output, hb.size, fun k hk _ => hb.block k hk⟩ (by cases v.ownBlock <;> simp)

theorem up_digit : ∀ d : Nat, d < 16 → Lib.upperB (loDigit d) = Text.hexDigit d := by decide +kernel
theorem lo_small : ∀ d : Nat, d < 16 → (loDigit d).toNat < 128 := by decide +kernel
theorem up_low : ∀ i p, Lib.toUpperA (lowLo i p) = lowHex i p
  | 0, _ => rfl
  | i + 1, p => by
    rw [lowLo, lowHex, ← up_low i, ← up_digit _ (Nat.mod_lt p (by decide))]
    simp [Lib.toUpperA]
theorem lo_ascii : ∀ i p, ∀ c ∈ lowLo i p, c.toNat < 128
  | 0, _, c, h => by simp [lowLo] at h
  | i + 1, p, c, h => by
    rw [lowLo, List.mem_append] at h
    rcases h with h | h
    · exact lo_ascii i _ c h
    · simp only [List.mem_singleton] at h
      subst h
      exact lo_small _ (Nat.mod_lt p (by decide))

theorem rep48 : ∀ k, Lib.repeatL [48] k = List.replicate k 48 := fun k => by
  induction k with
  | zero => rfl
  | succ k ih => rw [Lib.repeatL, ih]; rfl

def Tabs (w : World) : Prop := Lib.Utf8Tabs 3 4 w ∧ w.cell? ⟨6, 15, none⟩ = some (.int .u8 4) ∧ 6 < w.heap.size
theorem Tabs.below {w w' : World} (h : Tabs w) (hb : Below w.heap.size w w') : Tabs w' :=
  ⟨Utf8Tabs_below h.1 hb, (hb.cell (p := ⟨6, 15, none⟩) h.2.2).trans h.2.1, Nat.lt_of_lt_of_le h.2.2 hb.size⟩

theorem info_str : (Tryz.prog.info? 9).map (fun i => (i.zero, i.size, i.bytes)) = some (some (.string ⟨#[]⟩), 1, 16) := by kernel_rfl

def padS (x : Int) : ByteArray := ⟨(hexL x.toNat).toArray⟩
def padded (l : List Int) : List Value := l.map fun x => Value.string (padS x)
theorem padded_snoc (l : List Int) (i n : Nat) (h : l[i]? = some (n : Int)) : padded (l.take (i + 1)) = padded (l.take i) ++ [Value.string ⟨(hexL n).toArray⟩] := by
  rw [take_snoc' l i _ h]
  simp [padded, padS]
theorem padded_at (l : List Int) (j : Nat) (x : ByteArray) (h : (l.map padS)[j]? = some x) : (padded l)[j]? = some (.string x) := by
  unfold padded
  rw [List.getElem?_map] at h ⊢
  cases hl : l[j]? with
  | none => rw [hl] at h; cases h
  | some y => rw [hl] at h; cases h; rfl
theorem tell_join (l : List Int) : Lib.join ((l.map padS).map (·.data.toList)) [32] = tellText l := by
  unfold tellText
  rw [List.map_map]
  rfl
theorem tell_len (l : List Int) (hb : l.any badRune = false) : (tellText l).length ≤ 7 * l.length := by
  suffices h : ∀ i, i ≤ l.length → (tellText (l.take i)).length ≤ 7 * i by
    have := h l.length (Nat.le_refl _)
    rwa [List.take_length] at this
  intro i
  induction i with
  | zero => intro _; exact Nat.le_refl _
  | succ i ih =>
    intro hi
    have hx : l[i]? = some l[i] := List.getElem?_eq_getElem (by omega)
    have hbx : badRune l[i] = false := by
      have := List.any_eq_false.1 hb l[i] (List.getElem_mem _)
      simpa using this
    have h6 : (hexL (l[i]).toNat).length ≤ 6 := by
      unfold hexL
      rw [lowHex_length]
      have := nd_le (l[i]).toNat
      omega
    have ih := ih (by omega)
    have e1 : tellText (l.take (i + 1)) = if (l.take i).map (fun x => hexL x.toNat) = [] then hexL (l[i]).toNat else tellText (l.take i) ++ [32] ++ hexL (l[i]).toNat := by
      rw [take_snoc' l i _ hx]
      unfold tellText
      rw [List.map_append, List.map_cons, List.map_nil, join_snoc]
    rw [e1]
    split
    · omega
    · simp only [List.length_append, List.length_singleton]
      omega

set_option maxRecDepth 100000 in
set_option maxHeartbeats 2000000 in
theorem tell_any (a : Option Addr) (l : List Int) (c : Nat) (w : World) (hl : l.length ≤ 1048576) (hR : Rs w a l) (hT : Tabs w) :
    Calls Tryz.prog 18 #[.slice a l.length c] w (TellPost l (fun w w' => Below w.heap.size w w') w) := by
  have HR := Lib.hid hR
  have HT := Lib.hid hT
  clear hR hT
  obtain ⟨i0, hi, hz0, hz1, hz2⟩ := info_parts info_str
  go_enter Tryz.func18, Tryz.ntmps18
  go_wp2
  go_loopw [4, 10] (fun b v w' => ∃ (i : Nat), v = .int .i64 i ∧ i ≤ l.length ∧ w'.ownsRow w.heap.size 9 1 b i (padded (l.take i)) ∧ Hid ((l.take i).any badRune = false) ∧ Below w.heap.size w w') (fun _ v _ => l.length - (intOf v).toNat)
  case atStart => exact ⟨0, rfl, Nat.zero_le _, World.ownsRow_nil _ _ _ _, Lib.hid rfl, Below.refl _ _⟩
  case round =>
    obtain ⟨i, rfl, hi', hown, hbad, hb⟩ := hrel
    by_cases hlt : i < l.length
    · obtain ⟨x, hx⟩ : ∃ x, l[i]? = some x := ⟨_, List.getElem?_eq_getElem hlt⟩
      rcases HR.out.below hb with h0 | ⟨bk, of, rfl, hbk, hc⟩
      · exact absurd (by rw [h0]; rfl : l.length = 0) (by omega)
      have hcell := hc i x hx
      have HX := Lib.hid hx
      clear hc hx hbk
      have hcases : (x < 0) ∨ (¬ x < 0 ∧ 1114111 < x) ∨ (¬ x < 0 ∧ ¬ 1114111 < x) := by omega
      rcases hcases with h1 | ⟨h1, h2⟩ | ⟨h1, h2⟩
      · have HB := Lib.hid (any_bad l i x HX.out (by simp [badRune, h1]))
        go_wp2
        go_ret2
        exact ⟨by rw [HB.out]; rfl, hb⟩
      · have HB := Lib.hid (any_bad l i x HX.out (by simp [badRune, h2]))
        go_wp2
        go_ret2
        exact ⟨by rw [HB.out]; rfl, hb⟩
      · obtain ⟨n, rfl⟩ := Int.eq_ofNat_of_zero_le (by omega : 0 ≤ x)
        have HB : Hid ((l.take (i + 1)).any badRune = false) := Lib.hid (by
          rw [take_snoc' l i _ HX.out, List.any_append, hbad.out]
          simp [badRune, h1, h2])
        have hnd := nd_le n
        have hF := formatInt_pub n wr (by omega) (HT.out.below hb).2.1 (HT.out.below hb).2.2
        have hU : ∀ W, Calls Tryz.prog 72 #[.string ⟨(lowLo (nd n) n).toArray⟩] W fun e w' => e = .returned (.string ⟨(lowHex (nd n) n).toArray⟩) ∧ Below W.heap.size W w' := fun W => by
          rw [← up_low]
          exact Tryz.strings_ToUpper_ascii ⟨(lowLo (nd n) n).toArray⟩ W (by rw [← size_data]; simp only [lowLo_length]; omega) (fun j b hj => lo_ascii _ _ b (List.mem_of_getElem? hj))
        have hR := fun W => Tryz.strings_Repeat ⟨#[48]⟩ (4 - nd n) W (by omega) (by rw [show (⟨#[48]⟩ : ByteArray).size = 1 from rfl]; omega)
        have hlh := lowHex_length (nd n) n
        have hrl : (Lib.repeatL [48] (4 - nd n)).length ≤ 4 := by rw [rep48, List.length_replicate]; omega
        have hfin : Lib.repeatL [48] (4 - nd n) ++ lowHex (nd n) n = hexL n := by rw [rep48, hexL_eq n (by omega)]
        have harg : max 0 (4 - ((lowHex (nd n) n).length : Int)) = ((4 - nd n : Nat) : Int) := by rw [hlh]; omega
        have hb6 : (lowHex (nd n) n).length ≤ 6 := by omega
        have HF := Lib.hid hF
        have HU := Lib.hid hU
        have HP : Hid (∀ W, Calls Tryz.prog 74 #[.string ⟨#[48]⟩, .int .i64 ((4 - nd n : Nat) : Int)] W fun e w' => e = .returned (.string ⟨(Lib.repeatL [48] (4 - nd n)).toArray⟩) ∧ Below W.heap.size W w') := Lib.hid hR
        have HFIN := Lib.hid hfin
        have HARG := Lib.hid harg
        clear hF hU hR hlh hfin harg
        generalize Lib.repeatL [48] (4 - nd n) = rp at *
        generalize lowHex (nd n) n = lh at *
        go_wp2_with fail
        refine HF.out.mono ?_
        rintro e w1 ⟨rfl, hb1⟩
        go_wp2_with fail
        refine (HU.out _).mono ?_
        rintro e w2 ⟨rfl, hb2⟩
        go_wp2_with fail
        rw [HARG.out]
        refine (HP.out _).mono ?_
        rintro e w3 ⟨rfl, hb3⟩
        have hown3 := own_below (own_below (own_below hown hb1) hb2) hb3
        have hbw3 : Below w.heap.size w w3 := hb.trans ((hb1.mono hb.size).trans ((hb2.mono (Nat.le_trans hb.size hb1.size)).trans (hb3.mono (Nat.le_trans hb.size (Nat.le_trans hb1.size hb2.size)))))
        clear hown hb hb1 hb2 hb3
        go_wp2_with (at_builtin; refine wpList_append_own _ rfl _ _ 22 rfl w.heap.size 9 i0 (.string ⟨#[]⟩) 1 16 Tryz.underlying22 hi hz0 hz1 hz2 rfl (by decide) _ _ _ rfl (hown3.alloc _) ⟨w3.heap.size, 0, none⟩ 1 1 [.string (⟨rp.toArray⟩ ++ ⟨lh.toArray⟩)] rfl rfl ?c1 ?c2 ?c3 ?c4 ?c5 ?_)
        case c1 => intro j u hu; cases j with | zero => cases hu; rw [Lib.add_plain]; exact World.cell?_alloc_new _ _ _ _ | succ j => cases hu
        case c2 => intro u hu; simp only [List.mem_singleton] at hu; subst hu; rfl
        case c3 => unfold maxLen; omega
        case c4 => omega
        case c5 => have := hbw3.size; simp; omega
        intro v' w4 hown4 hgrow hv'
        have hbw4 : Below w.heap.size w w4 := (hbw3.alloc hbw3.size _).grown hgrow (by have := hbw3.size; simp; omega) (fun k hk => (hown3.lt k hk).1)
        have hown5 : w4.ownsRow w.heap.size 9 1 v' (i + 1) (padded (l.take (i + 1))) := by
          rw [padded_snoc l i n HX.out, ← HFIN.out]
          exact hown4
        clear hown4 hgrow hown3 hbw3 hv'
        go_wp2
        go_roundw
        case rel => exact ⟨i + 1, by go_num, by omega, hown5, HB, hbw4⟩
        case measure => simp [intOf]; omega
    · have HB : Hid (l.any badRune = false) := Lib.hid (by rw [← hbad.out, List.take_of_length_le (by omega)])
      obtain rfl : i = l.length := by omega
      rw [List.take_length] at hown
      have hlen := tell_len l HB.out
      rcases hown.2 with ⟨rfl, h0⟩ | ⟨g, cap, cur, rfl, hg, hcur, hnc, hcm, hcs, htk⟩
      · have hl0 : l = [] := List.length_eq_zero_iff.1 h0
        subst hl0
        go_wp2_with fail
        refine (Tryz.strings_Join_none none 0 ⟨#[32]⟩ _).mono ?_
        rintro e w1 ⟨rfl, rfl⟩
        go_wp2_with fail
        go_ret2
        exact ⟨rfl, hb⟩
      · have hjo : Calls Tryz.prog 75 #[.slice (some ⟨g, 0, none⟩) l.length cap, .string ⟨#[32]⟩] wr fun e w' => e = .returned (.string ⟨(tellText l).toArray⟩) ∧ Below wr.heap.size wr w' := by
          have := Tryz.strings_Join g 0 cap (l.map padS) ⟨#[32]⟩ wr (fun j x hx => by
            have hc := hown.cells (g := g) rfl j (.string x) (padded_at l j x hx)
            rw [Lib.add_plain, Nat.zero_add] at hc
            rw [Nat.zero_add]
            exact hc) (block_lt hcur) (by rw [List.length_map]; omega) (by rw [List.length_map]; exact hnc) (by rw [show (⟨#[32]⟩ : ByteArray).data.toList = [32] from rfl, tell_join]; omega)
          rw [show (⟨#[32]⟩ : ByteArray).data.toList = [32] from rfl, tell_join, List.length_map] at this
          exact this
        have HJ := Lib.hid hjo
        clear hjo hown htk hcur hcs
        go_wp2_with fail
        refine HJ.out.mono ?_
        rintro e w1 ⟨rfl, hb1⟩
        go_wp2_with fail
        go_ret2
        exact ⟨by rw [HB.out]; rfl, hb.trans (hb1.mono hb.size)⟩
end Go.Proofs.YtgdambmineeboaaGreatDoor.Tell

/- Blocks of memory behind what has grown. -/
namespace Go.Proofs.YtgdambmineeboaaGreatDoor.Given
open Go.RowKit Go.Lib Go.Proofs.YtgdambmineeboaaGreatDoor.Text Go.Proofs.YtgdambmineeboaaGreatDoor.Runes Go.Proofs.YtgdambmineeboaaGreatDoor.Print Go.Proofs.YtgdambmineeboaaGreatDoor.RefNine Go.Proofs.YtgdambmineeboaaGreatDoor.RefPrint Go.Proofs.YtgdambmineeboaaGreatDoor.Format Go.Proofs.YtgdambmineeboaaGreatDoor.Tell

theorem below_cell3 (w : World) (x y z : Obj) (a : Addr) (h : a.block < w.heap.size) : (((w.alloc x).alloc y).alloc z).cell? a = w.cell? a :=
  (World.cell?_alloc_lt (w := (w.alloc x).alloc y) (o := z) (a := a) (by simp; omega)).trans ((World.cell?_alloc_lt (w := w.alloc x) (o := y) (a := a) (by simp; omega)).trans (World.cell?_alloc_lt (w := w) (o := x) (a := a) h))
theorem block3 (w : World) (x y z : Obj) : (((w.alloc x).alloc y).alloc z).drew.heap[w.heap.size + 1]? = some y := by
  have h1 := heap_alloc_new (w.alloc x) y
  have h2 : (w.alloc x).heap.size = w.heap.size + 1 := by simp
  rw [h2] at h1
  have h3 : ((w.alloc x).alloc y).heap.size = w.heap.size + 2 := by simp
  exact (heap_alloc_old ((w.alloc x).alloc y) z (by rw [h3]; exact Nat.lt_succ_self _)).trans h1
/-- A block of a world before, as a whole, behind what has grown. -/
theorem grown_block {w w' : World} {row : Option Nat} {b : Nat} {cs : Array Value} {t : TypeId} (hg : w.grownBy w' row) (h : w.heap[b]? = some (.cells cs t (0, 0))) (hne : some b ≠ row) : w'.heap[b]? = some (.cells cs t (0, 0)) :=
  (hg.block b (block_lt h) hne).trans h

end Go.Proofs.YtgdambmineeboaaGreatDoor.Given

/- A book, plainly; and what it is for a book's lists to lie in memory. -/
namespace Go.Proofs.YtgdambmineeboaaGreatDoor.Mem
open Go.RowKit Go.Lib Go.Proofs.YtgdambmineeboaaGreatDoor.Text Go.Proofs.YtgdambmineeboaaGreatDoor.Runes Go.Proofs.YtgdambmineeboaaGreatDoor.Print Go.Proofs.YtgdambmineeboaaGreatDoor.RefNine Go.Proofs.YtgdambmineeboaaGreatDoor.RefPrint Go.Proofs.YtgdambmineeboaaGreatDoor.Format Go.Proofs.YtgdambmineeboaaGreatDoor.Tell Go.Proofs.YtgdambmineeboaaGreatDoor.Given

structure Val where
  a : Int
  b : Int
  n : Int
  deriving DecidableEq
structure Spn where
  a : Int
  b : Int
  deriving DecidableEq
structure Chr where
  a : Int
  b : Int
  is : List Int
  deriving DecidableEq
structure Book where
  names : List ByteArray
  status : List Val
  maps : List Chr
  cls : List Val
  decomp : List Chr
  excl : List Spn
  bidi : List Val
  join : List Val
  marks : List Spn
  script : List Val
  like : List Chr

/-- A list in memory, each element in k cells. -/
def Tab {α : Type} (k : Nat) (enc : α → List Value) (w : World) (a : Option Addr) (l : List α) : Prop :=
  l = [] ∨ ∃ bk o, a = some ⟨bk, o, none⟩ ∧ bk < w.heap.size ∧ ∀ (j : Nat) x, l[j]? = some x → ∀ (i : Nat) v, (enc x)[i]? = some v → w.cell? ⟨bk, o + j * k + i, none⟩ = some v
theorem Tab.below {α : Type} {k : Nat} {enc : α → List Value} {w w' : World} {a : Option Addr} {l : List α} (h : Tab k enc w a l) (hb : Below w.heap.size w w') : Tab k enc w' a l := by
  rcases h with h | ⟨bk, o, h1, h2, h3⟩
  · exact .inl h
  · exact .inr ⟨bk, o, h1, Nat.lt_of_lt_of_le h2 hb.size, fun j x hx i v hv => (hb.cell (p := ⟨bk, o + j * k + i, none⟩) h2).trans (h3 j x hx i v hv)⟩

/-- The cells of a list. -/
def flat {α : Type} (enc : α → List Value) (l : List α) : List Value := l.flatMap enc
theorem flat_len {α : Type} {k : Nat} {enc : α → List Value} (hk : ∀ x, (enc x).length = k) : ∀ l : List α, (flat enc l).length = l.length * k
  | [] => by simp [flat]
  | x :: l => by
    have := flat_len hk l
    unfold flat at this ⊢
    rw [List.flatMap_cons, List.length_append, hk, this, List.length_cons, Nat.add_mul, Nat.one_mul, Nat.add_comm]
theorem flat_snoc {α : Type} (enc : α → List Value) (l : List α) (i : Nat) (x : α) (h : l[i]? = some x) : flat enc (l.take (i + 1)) = flat enc (l.take i) ++ enc x := by
  unfold flat
  rw [take_snoc' l i x h, List.flatMap_append]
  simp
theorem flat_at {α : Type} {k : Nat} {enc : α → List Value} (hk : ∀ x, (enc x).length = k) : ∀ (l : List α) (j : Nat) (x : α), l[j]? = some x → ∀ (i : Nat) v, (enc x)[i]? = some v → (flat enc l)[j * k + i]? = some v
  | [], _, _, h, _, _, _ => by simp at h
  | y :: l, 0, x, h, i, v, hv => by
    cases h
    unfold flat
    have hi := (List.getElem?_eq_some_iff.1 hv).1
    rw [List.flatMap_cons, Nat.zero_mul, Nat.zero_add, List.getElem?_append_left hi]
    exact hv
  | y :: l, j + 1, x, h, i, v, hv => by
    have ih := flat_at hk l j x (by simpa using h) i v hv
    unfold flat at ih ⊢
    rw [List.flatMap_cons, List.getElem?_append_right (by rw [hk, Nat.add_mul]; omega), hk]
    rw [show (j + 1) * k + i - k = j * k + i from by rw [Nat.add_mul]; omega]
    exact ih

/-- A list that a call has built, in memory. -/
theorem tab_of_own {α : Type} {k : Nat} {enc : α → List Value} (hk : ∀ x, (enc x).length = k) {w : World} {base : Nat} {e : TypeId} {v : Value} {l : List α}
    (h : w.ownsRow base e k v l.length (flat enc l)) : ∃ a c, v = .slice a l.length c ∧ Tab k enc w a l ∧ l.length ≤ c := by
  rcases h.2 with ⟨rfl, h0⟩ | ⟨g, cap, cur, rfl, hg, hcur, hnc, _⟩
  · exact ⟨none, 0, by rw [h0], .inl (List.length_eq_zero_iff.1 h0), by omega⟩
  · refine ⟨some ⟨g, 0, none⟩, cap, rfl, .inr ⟨g, 0, rfl, block_lt hcur, fun j x hx i u hu => ?_⟩, hnc⟩
    have hc := h.cells (g := g) rfl _ u (flat_at hk l j x hx i u hu)
    rw [Lib.add_plain, Nat.zero_add] at hc
    rw [Nat.zero_add]
    exact hc

theorem news2 (w : World) (o : Obj) (cs : Array Value) (t : TypeId) : ∀ j u, cs.toList[j]? = some u → ((w.alloc o).alloc (.cells cs t (0, 0))).cell? ((⟨w.heap.size + 1, 0, none⟩ : Addr).add j) = some u :=
  World.news_of_block (by have := heap_alloc_new (w.alloc o) (.cells cs t (0, 0)); rwa [World.size_alloc] at this)
theorem news1 (w : World) (cs : Array Value) (t : TypeId) : ∀ j u, cs.toList[j]? = some u → (w.alloc (.cells cs t (0, 0))).cell? ((⟨w.heap.size, 0, none⟩ : Addr).add j) = some u :=
  World.news_of_block (heap_alloc_new w (.cells cs t (0, 0)))

def encV (x : Val) : List Value := [.int .i32 x.a, .int .i32 x.b, .int .i64 x.n]
def encS (x : Spn) : List Value := [.int .i32 x.a, .int .i32 x.b]
theorem encV_len (x : Val) : (encV x).length = 3 := rfl
theorem encS_len (x : Spn) : (encS x).length = 2 := rfl
abbrev Vals := Tab 3 encV
abbrev Spns := Tab 2 encS

/-- A row of code points as it lies: where its list lies, too. -/
structure Raw where
  a : Int
  b : Int
  ad : Option Addr
  cap : Nat
  is : List Int
def Raw.plain (r : Raw) : Chr := ⟨r.a, r.b, r.is⟩
def encR (r : Raw) : List Value := [.int .i32 r.a, .int .i32 r.b, .slice r.ad r.is.length r.cap]
theorem encR_len (x : Raw) : (encR x).length = 3 := rfl
def Chrs (w : World) (a : Option Addr) (l : List Chr) : Prop := ∃ rs : List Raw, Tab 3 encR w a rs ∧ rs.map Raw.plain = l ∧ ∀ r ∈ rs, Rs w r.ad r.is
theorem Chrs.below {w w' : World} {a : Option Addr} {l : List Chr} (h : Chrs w a l) (hb : Below w.heap.size w w') : Chrs w' a l := by
  obtain ⟨rs, h1, h2, h3⟩ := h
  exact ⟨rs, h1.below hb, h2, fun r hr => (h3 r hr).below hb⟩

theorem vals_at {w : World} {bk o j : Nat} {x : Val} (h : ∀ (i : Nat) v, (encV x)[i]? = some v → w.cell? ⟨bk, o + j * 3 + i, none⟩ = some v) :
    w.cell? ⟨bk, o + j * 3, none⟩ = some (.int .i32 x.a) ∧ w.cell? ⟨bk, o + j * 3 + 1, none⟩ = some (.int .i32 x.b) ∧ w.cell? ⟨bk, o + j * 3 + 2, none⟩ = some (.int .i64 x.n) :=
  ⟨h 0 _ rfl, h 1 _ rfl, h 2 _ rfl⟩
theorem spns_at {w : World} {bk o j : Nat} {x : Spn} (h : ∀ (i : Nat) v, (encS x)[i]? = some v → w.cell? ⟨bk, o + j * 2 + i, none⟩ = some v) :
    w.cell? ⟨bk, o + j * 2, none⟩ = some (.int .i32 x.a) ∧ w.cell? ⟨bk, o + j * 2 + 1, none⟩ = some (.int .i32 x.b) :=
  ⟨h 0 _ rfl, h 1 _ rfl⟩
theorem raws_at {w : World} {bk o j : Nat} {x : Raw} (h : ∀ (i : Nat) v, (encR x)[i]? = some v → w.cell? ⟨bk, o + j * 3 + i, none⟩ = some v) :
    w.cell? ⟨bk, o + j * 3, none⟩ = some (.int .i32 x.a) ∧ w.cell? ⟨bk, o + j * 3 + 1, none⟩ = some (.int .i32 x.b) ∧ w.cell? ⟨bk, o + j * 3 + 2, none⟩ = some (.slice x.ad x.is.length x.cap) :=
  ⟨h 0 _ rfl, h 1 _ rfl, h 2 _ rfl⟩
end Go.Proofs.YtgdambmineeboaaGreatDoor.Mem

/- The walks of the reference's Of and its helpers: a book as the document has it. -/
namespace Go.Proofs.YtgdambmineeboaaGreatDoor.Of
open Go.RowKit Go.Lib Go.Proofs.YtgdambmineeboaaGreatDoor.Text Go.Proofs.YtgdambmineeboaaGreatDoor.Runes Go.Proofs.YtgdambmineeboaaGreatDoor.Print Go.Proofs.YtgdambmineeboaaGreatDoor.RefNine Go.Proofs.YtgdambmineeboaaGreatDoor.RefPrint Go.Proofs.YtgdambmineeboaaGreatDoor.Format Go.Proofs.YtgdambmineeboaaGreatDoor.Tell Go.Proofs.YtgdambmineeboaaGreatDoor.Given Go.Proofs.YtgdambmineeboaaGreatDoor.Mem

theorem info_val : (Tryz.prog.info? 75).map (fun i => (i.zero, i.size, i.bytes)) = some (some (.agg #[.int .i32 0, .int .i32 0, .int .i64 0]), 3, 16) := by kernel_rfl
theorem info_spn : (Tryz.prog.info? 78).map (fun i => (i.zero, i.size, i.bytes)) = some (some (.agg #[.int .i32 0, .int .i32 0]), 2, 8) := by kernel_rfl
theorem info_chr : (Tryz.prog.info? 95).map (fun i => (i.zero, i.size, i.bytes)) = some (some (.agg #[.int .i32 0, .int .i32 0, .slice none 0 0]), 3, 32) := by kernel_rfl

set_option maxRecDepth 100000 in
set_option maxHeartbeats 2000000 in
theorem values_any (a : Option Addr) (l : List Val) (c : Nat) (w : World) (hl : l.length ≤ 1048576) (hV : Vals w a l) :
    Calls Tryz.prog 13 #[.slice a l.length c] w fun e w' => ∃ a' c', e = .returned (.slice a' l.length c') ∧ Vals w' a' l ∧ Below w.heap.size w w' := by
  have HV := Lib.hid hV
  obtain ⟨i0, hi, hz0, hz1, hz2⟩ := info_parts info_val
  clear hV
  go_enter Tryz.func13, Tryz.ntmps13
  go_wp2
  go_loopw [3, 9] (fun u v w' => ∃ (i : Nat), v = .int .i64 i ∧ i ≤ l.length ∧ w'.ownsRow w.heap.size 75 3 u i (flat encV (l.take i)) ∧ Below w.heap.size w w') (fun _ v _ => l.length - (intOf v).toNat)
  case atStart => exact ⟨0, rfl, Nat.zero_le _, by
    have := World.ownsRow_made (base := w.heap.size) (e := 75) (size := 3) w #[] 0 (Nat.le_refl _) (by decide) rfl
    exact this, (Below.refl _ _).alloc (Nat.le_refl _) _⟩
  case round =>
    obtain ⟨i, rfl, hi', hown, hb⟩ := hrel
    by_cases hlt : i < l.length
    · obtain ⟨x, hx⟩ : ∃ x, l[i]? = some x := ⟨_, List.getElem?_eq_getElem hlt⟩
      rcases HV.out.below hb with h0 | ⟨bk, o, rfl, hbk, hc⟩
      · subst h0; simp at hlt
      obtain ⟨q0, q1, q2⟩ := vals_at (hc i x hx)
      have hsn := Lib.hid (flat_snoc encV l i x hx)
      clear hc hx
      go_wp2_with (at_builtin; refine wpList_append_own _ rfl _ _ 29 rfl w.heap.size 75 i0 _ 3 16 Tryz.underlying29 hi hz0 hz1 hz2 rfl (by decide) _ i _ rfl ((hown.alloc _).alloc _) ⟨wr.heap.size + 1, 0, none⟩ 1 1 (encV x) rfl rfl ?c1 ?c2 ?c3 ?c4 ?c5 ?_)
      case c1 => exact news2 wr _ #[.int .i32 x.a, .int .i32 x.b, .int .i64 x.n] 75
      case c2 => intro u hu; simp only [encV, List.mem_cons, List.not_mem_nil, or_false] at hu; rcases hu with rfl | rfl | rfl <;> rfl
      case c3 => unfold maxLen; omega
      case c4 => omega
      case c5 => have := hb.size; simp; omega
      intro v' w4 hown4 hgrow hv'
      have hbw4 : Below w.heap.size w w4 := ((hb.alloc hb.size _).alloc (by have := hb.size; simp; omega) _).grown hgrow (by have := hb.size; simp; omega) (fun k hk => (hown.lt k hk).1)
      have hown5 : w4.ownsRow w.heap.size 75 3 v' (i + 1) (flat encV (l.take (i + 1))) := by
        rw [hsn.out]
        exact hown4
      clear hown4 hgrow hown hb hv'
      go_wp2
      go_roundw
      case rel => exact ⟨i + 1, by go_num, by omega, hown5, hbw4⟩
      case measure => simp [intOf]; omega
    · obtain rfl : i = l.length := by omega
      rw [List.take_length] at hown
      obtain ⟨a', c', rfl, ht, _⟩ := tab_of_own encV_len hown
      clear hown
      go_wp2
      go_ret
      exact ⟨a', c', rfl, ht, hb⟩

set_option maxRecDepth 100000 in
set_option maxHeartbeats 2000000 in
theorem plain_any (a : Option Addr) (l : List Spn) (c : Nat) (w : World) (hl : l.length ≤ 1048576) (hV : Spns w a l) :
    Calls Tryz.prog 15 #[.slice a l.length c] w fun e w' => ∃ a' c', e = .returned (.slice a' l.length c') ∧ Spns w' a' l ∧ Below w.heap.size w w' := by
  have HV := Lib.hid hV
  obtain ⟨i0, hi, hz0, hz1, hz2⟩ := info_parts info_spn
  clear hV
  go_enter Tryz.func15, Tryz.ntmps15
  go_wp2
  go_loopw [3, 9] (fun u v w' => ∃ (i : Nat), v = .int .i64 i ∧ i ≤ l.length ∧ w'.ownsRow w.heap.size 78 2 u i (flat encS (l.take i)) ∧ Below w.heap.size w w') (fun _ v _ => l.length - (intOf v).toNat)
  case atStart => exact ⟨0, rfl, Nat.zero_le _, by
    have := World.ownsRow_made (base := w.heap.size) (e := 78) (size := 2) w #[] 0 (Nat.le_refl _) (by decide) rfl
    exact this, (Below.refl _ _).alloc (Nat.le_refl _) _⟩
  case round =>
    obtain ⟨i, rfl, hi', hown, hb⟩ := hrel
    by_cases hlt : i < l.length
    · obtain ⟨x, hx⟩ : ∃ x, l[i]? = some x := ⟨_, List.getElem?_eq_getElem hlt⟩
      rcases HV.out.below hb with h0 | ⟨bk, o, rfl, hbk, hc⟩
      · subst h0; simp at hlt
      obtain ⟨q0, q1⟩ := spns_at (hc i x hx)
      have hsn := Lib.hid (flat_snoc encS l i x hx)
      clear hc hx
      go_wp2_with (at_builtin; refine wpList_append_own _ rfl _ _ 31 rfl w.heap.size 78 i0 _ 2 8 Tryz.underlying31 hi hz0 hz1 hz2 rfl (by decide) _ i _ rfl ((hown.alloc _).alloc _) ⟨wr.heap.size + 1, 0, none⟩ 1 1 (encS x) rfl rfl ?c1 ?c2 ?c3 ?c4 ?c5 ?_)
      case c1 => exact news2 wr _ #[.int .i32 x.a, .int .i32 x.b] 78
      case c2 => intro u hu; simp only [encS, List.mem_cons, List.not_mem_nil, or_false] at hu; rcases hu with rfl | rfl <;> rfl
      case c3 => unfold maxLen; omega
      case c4 => omega
      case c5 => have := hb.size; simp; omega
      intro v' w4 hown4 hgrow hv'
      have hbw4 : Below w.heap.size w w4 := ((hb.alloc hb.size _).alloc (by have := hb.size; simp; omega) _).grown hgrow (by have := hb.size; simp; omega) (fun k hk => (hown.lt k hk).1)
      have hown5 : w4.ownsRow w.heap.size 78 2 v' (i + 1) (flat encS (l.take (i + 1))) := by
        rw [hsn.out]
        exact hown4
      clear hown4 hgrow hown hb hv'
      go_wp2
      go_roundw
      case rel => exact ⟨i + 1, by go_num, by omega, hown5, hbw4⟩
      case measure => simp [intOf]; omega
    · obtain rfl : i = l.length := by omega
      rw [List.take_length] at hown
      obtain ⟨a', c', rfl, ht, _⟩ := tab_of_own encS_len hown
      clear hown
      go_wp2
      go_ret
      exact ⟨a', c', rfl, ht, hb⟩

end Go.Proofs.YtgdambmineeboaaGreatDoor.Of
