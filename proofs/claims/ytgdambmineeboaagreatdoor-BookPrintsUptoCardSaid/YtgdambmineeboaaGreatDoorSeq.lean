/- The state of a book that is being read: the box of its eleven lists, each the call's own. -/
import Derived.Test.YtgdambmineeboaaGreatDoorBOf
import Derived.Deep.AppendLies
import Derived.Below
import Derived.Laws.Externs
import Derived.Test.YtgdambmineeboaaGreatDoorCut
import Derived.Lib.ItoaNum
import Derived.OwnWalk
import Derived.Lib.SliceRun
import Derived.BigFrame
set_option linter.unusedSimpArgs false
set_option linter.unusedVariables false
namespace Go.Proofs.YtgdambmineeboaaGreatDoor.RSt
open Go Go.RowKit Go.Lib Go.Proofs.YtgdambmineeboaaGreatDoor.Text Go.Proofs.YtgdambmineeboaaGreatDoor.Print Go.Proofs.YtgdambmineeboaaGreatDoor.RefNine Go.Proofs.YtgdambmineeboaaGreatDoor.Format Go.Proofs.YtgdambmineeboaaGreatDoor.Tell Go.Proofs.YtgdambmineeboaaGreatDoor.Mem
/-- The elements' types and sizes. -/
def tyL (i : Nat) : TypeId := if i = 0 then 9 else if i = 2 ∨ i = 4 ∨ i = 10 then 68 else if i = 5 ∨ i = 8 then 71 else 65
def szL (i : Nat) : Nat := if i = 0 then 1 else if i = 5 ∨ i = 8 then 2 else 3
def updV {α : Type} (f : Nat → α) (i : Nat) (v : α) : Nat → α := fun j => if j = i then v else f j
theorem updV_same {α : Type} (f : Nat → α) (i : Nat) (v : α) : updV f i v i = v := by unfold updV; rw [if_pos rfl]
theorem updV_other {α : Type} (f : Nat → α) {i j : Nat} (v : α) (h : j ≠ i) : updV f i v j = f j := by unfold updV; rw [if_neg h]
def boxA (vs : Nat → Value) : Array Value := #[vs 0, vs 1, vs 2, vs 3, vs 4, vs 5, vs 6, vs 7, vs 8, vs 9, vs 10]
theorem boxA_at (vs : Nat → Value) {i : Nat} (h : i < 11) : (boxA vs)[i]? = some (vs i) := by
  match i, h with
  | 0, _ => rfl
  | 1, _ => rfl
  | 2, _ => rfl
  | 3, _ => rfl
  | 4, _ => rfl
  | 5, _ => rfl
  | 6, _ => rfl
  | 7, _ => rfl
  | 8, _ => rfl
  | 9, _ => rfl
  | 10, _ => rfl
  | i + 11, h => omega
theorem boxA_set (vs : Nat → Value) {i : Nat} (v : Value) (h : i < 11) : (boxA vs).setIfInBounds i v = boxA (updV vs i v) := by
  match i, h with
  | 0, _ => rfl
  | 1, _ => rfl
  | 2, _ => rfl
  | 3, _ => rfl
  | 4, _ => rfl
  | 5, _ => rfl
  | 6, _ => rfl
  | 7, _ => rfl
  | 8, _ => rfl
  | 9, _ => rfl
  | 10, _ => rfl
  | i + 11, h => omega
def runeV (l : List Int) : List Value := l.map fun x => Value.int .i32 x
/-- A row of code points, in a block of the call's own. -/
def RawOwn (base : Nat) (W : World) (r : Raw) : Prop := W.ownsRow base 21 1 (.slice r.ad r.is.length r.cap) r.is.length (runeV r.is)
structure RS (RB base : Nat) (w0 : World) (vs : Nat → Value) (ln : Nat → Nat) (cs : Nat → List Value) (rs : List Raw) (W : World) : Prop where
  bx : W.heap[RB]? = some (.cells (boxA vs) 27 (0, 0))
  own : ∀ i, i < 11 → W.ownsRow base (tyL i) (szL i) (vs i) (ln i) (cs i)
  dis : ∀ i j, i < 11 → j < 11 → i ≠ j → ∀ k, (vs i).ownBlock = some k → (vs j).ownBlock ≠ some k
  rn : ∀ r ∈ rs, RawOwn base W r
  g : w0.grownBy W (some RB)
  lt : RB < w0.heap.size
  bs : w0.heap.size ≤ base
theorem RS.keep {RB base : Nat} {w0 : World} {vs : Nat → Value} {ln : Nat → Nat} {cs : Nat → List Value} {rs : List Raw} {A A' : World} (h : RS RB base w0 vs ln cs rs A) {row : Option Nat} (hg : A.grownBy A' row)
    (hr : ∀ l, row = some l → w0.heap.size ≤ l ∧ l < base) : RS RB base w0 vs ln cs rs A' := by
  have hlt := h.lt
  have hown : ∀ {e : TypeId} {k : Nat} {v : Value} {n : Nat} {xs : List Value}, A.ownsRow base e k v n xs → A'.ownsRow base e k v n xs := fun {e k v n xs} ho => by
    refine ho.kept hg ?_
    cases hv : v.ownBlock with
    | none => exact .inl rfl
    | some b =>
      refine .inr fun e => ?_
      have h1 := (ho.lt b hv).1
      have h2 := hr b e.symm
      omega
  have hz := h.g.size
  refine ⟨(hg.block RB (by omega) (fun e => by have := hr RB e.symm; omega)).trans h.bx, fun i hi => hown (h.own i hi), h.dis, fun r hr => hown (h.rn r hr), ?_, h.lt, h.bs⟩
  refine ⟨hg.os.trans h.g.os, hg.tape.trans h.g.tape, hg.output.trans h.g.output, Nat.le_trans hz hg.size, fun k hk hne => ?_⟩
  exact (hg.block k (by omega) (fun e => by have := hr k e.symm; omega)).trans (h.g.block k hk hne)
theorem grownAny {w w' : World} {row : Option Nat} (h : Below w.heap.size w w') : w.grownBy w' row := ⟨h.os, h.tape, h.output, h.size, fun k hk _ => h.block k hk⟩
theorem RS.below {RB base : Nat} {w0 : World} {vs : Nat → Value} {ln : Nat → Nat} {cs : Nat → List Value} {rs : List Raw} {A A' : World} (h : RS RB base w0 vs ln cs rs A) (hb : Below A.heap.size A A') : RS RB base w0 vs ln cs rs A' :=
  h.keep (row := none) (grownAny hb) (fun l e => by cases e)
theorem RS.cell {RB base : Nat} {w0 : World} {vs : Nat → Value} {ln : Nat → Nat} {cs : Nat → List Value} {rs : List Raw} {A : World} (h : RS RB base w0 vs ln cs rs A) {i : Nat} (hi : i < 11) : A.cell? ⟨RB, i, none⟩ = some (vs i) :=
  (block_cell (i := i) h.bx).trans (boxA_at vs hi)
theorem RS.free {RB base : Nat} {w0 : World} {vs : Nat → Value} {ln : Nat → Nat} {cs : Nat → List Value} {rs : List Raw} {A : World} (h : RS RB base w0 vs ln cs rs A) {i : Nat} : A.frozen? ⟨RB, i, none⟩ = false := block_free (i := i) h.bx
/-- What lay in other blocks before lies there still. -/
theorem RS.old {RB base : Nat} {w0 : World} {vs : Nat → Value} {ln : Nat → Nat} {cs : Nat → List Value} {rs : List Raw} {A : World} (h : RS RB base w0 vs ln cs rs A) {k : Nat} (hk : k < w0.heap.size) (hne : k ≠ RB) : A.heap[k]? = w0.heap[k]? :=
  h.g.block k hk (fun e => hne (by cases e; rfl))
theorem ty_ne (i : Nat) : tyL i ≠ (21 : TypeId) := by
  unfold tyL
  split
  · decide
  · split
    · decide
    · split <;> decide
theorem own_types {W : World} {b1 b2 : Nat} {e1 e2 : TypeId} {k1 k2 n1 n2 : Nat} {v1 v2 : Value} {x1 x2 : List Value} (h1 : W.ownsRow b1 e1 k1 v1 n1 x1) (h2 : W.ownsRow b2 e2 k2 v2 n2 x2) (he : e1 ≠ e2) {g : Nat} (hg1 : v1.ownBlock = some g) (hg2 : v2.ownBlock = some g) : False := by
  rcases h1.2 with ⟨rfl, _⟩ | ⟨a, _, c1, rfl, _, hc1, _⟩
  · cases hg1
  · rcases h2.2 with ⟨rfl, _⟩ | ⟨b, _, c2, rfl, _, hc2, _⟩
    · cases hg2
    · cases hg1
      cases hg2
      rw [hc1] at hc2
      cases hc2
      exact he rfl
/-- A row more in one list. -/
theorem RS.push {RB base : Nat} {w0 : World} {vs : Nat → Value} {ln : Nat → Nat} {cs : Nat → List Value} {rs : List Raw} {W W' : World} (h : RS RB base w0 vs ln cs rs W) {i : Nat} (hi : i < 11) {g cap : Nat} {news : List Value} {n' : Nat}
    (hown : W'.ownsRow base (tyL i) (szL i) (.slice (some ⟨g, 0, none⟩) n' cap) n' (cs i ++ news)) (hgr : W.grownBy W' (vs i).ownBlock) (hat : (vs i).ownBlock = some g ∨ g = W.heap.size) :
    RS RB base w0 (updV vs i (.slice (some ⟨g, 0, none⟩) n' cap)) (updV ln i n') (updV cs i (cs i ++ news)) rs (W'.setCell ⟨RB, i, none⟩ (.slice (some ⟨g, 0, none⟩) n' cap)) := by
  have hlt := h.lt
  have hbs := h.bs
  have hz := h.g.size
  have hge : ∀ k, (vs i).ownBlock = some k → base ≤ k ∧ k < W.heap.size := fun k hk => (h.own i hi).lt k hk
  have hRB : W'.heap[RB]? = some (.cells (boxA vs) 27 (0, 0)) := (hgr.block RB (by omega) (fun e => by have := hge RB e.symm; omega)).trans h.bx
  refine ⟨?_, fun j hj => ?_, fun a b ha hb hab k hk => ?_, fun r hr => ?_, ?_, h.lt, h.bs⟩
  · have h1 := Go.heap_setCell_same W' RB i (boxA vs) 27 (.slice (some ⟨g, 0, none⟩) n' cap) hRB
    rw [boxA_set vs _ hi] at h1
    exact h1
  · by_cases e : j = i
    · subst e
      rw [updV_same, updV_same, updV_same]
      exact ownsRow_setCell_below hown (by show RB < base; omega) _
    · rw [updV_other _ _ e, updV_other _ _ e, updV_other _ _ e]
      refine ownsRow_setCell_below ((h.own j hj).kept hgr ?_) (by show RB < base; omega) _
      cases hv : (vs j).ownBlock with
      | none => exact .inl rfl
      | some b => exact .inr fun e2 => h.dis i j hi hj (fun e3 => e e3.symm) b e2.symm hv
  · by_cases e1 : a = i
    · subst e1
      rw [updV_same] at hk
      cases hk
      rw [updV_other _ _ (fun e => hab e.symm)]
      intro hb2
      rcases hat with h1 | h1
      · exact h.dis a b ha hb hab g h1 hb2
      · have := ((h.own b hb).lt g hb2).2
        omega
    · rw [updV_other _ _ e1] at hk
      by_cases e2 : b = i
      · subst e2
        rw [updV_same]
        intro hb2
        cases hb2
        rcases hat with h1 | h1
        · exact h.dis a b ha hb hab g hk h1
        · have := ((h.own a ha).lt g hk).2
          omega
      · rw [updV_other _ _ e2]
        exact h.dis a b ha hb hab k hk
  · have hro := h.rn r hr
    unfold RawOwn at hro ⊢
    refine ownsRow_setCell_below (hro.kept hgr ?_) (by show RB < base; omega) _
    cases hv : (Value.slice r.ad r.is.length r.cap).ownBlock with
    | none => exact .inl rfl
    | some b => exact .inr fun e2 => own_types hro (h.own i hi) (fun e => ty_ne i e.symm) hv e2.symm
  · have hg2 : w0.grownBy W' (some RB) := ⟨hgr.os.trans h.g.os, hgr.tape.trans h.g.tape, hgr.output.trans h.g.output, Nat.le_trans hz hgr.size, fun k hk hne => (hgr.block k (by omega) (fun e => by have := hge k e.symm; omega)).trans (h.g.block k hk hne)⟩
    refine ⟨hg2.os, hg2.tape, hg2.output, by have := hg2.size; simpa using this, fun k hk hne => ?_⟩
    rw [Below.heap_setCell _ _ _ _ (show k ≠ RB from fun e => hne (by rw [e]))]
    exact hg2.block k hk hne
theorem RS.raw {RB base : Nat} {w0 : World} {vs : Nat → Value} {ln : Nat → Nat} {cs : Nat → List Value} {rs : List Raw} {A : World} (h : RS RB base w0 vs ln cs rs A) {r : Raw} (hr : RawOwn base A r) : RS RB base w0 vs ln cs (rs ++ [r]) A :=
  ⟨h.bx, h.own, h.dis, fun q hq => by
    rcases List.mem_append.1 hq with h1 | h1
    · exact h.rn q h1
    · simp only [List.mem_singleton] at h1
      rw [h1]
      exact hr, h.g, h.lt, h.bs⟩
/-- The same, wherever the lists lie. -/
def RX (RB base : Nat) (w0 : World) (ln : Nat → Nat) (cs : Nat → List Value) (rs : List Raw) (W : World) : Prop := ∃ vs, RS RB base w0 vs ln cs rs W
theorem RX.keep {RB base : Nat} {w0 : World} {ln : Nat → Nat} {cs : Nat → List Value} {rs : List Raw} {A A' : World} (h : RX RB base w0 ln cs rs A) {row : Option Nat} (hg : A.grownBy A' row) (hr : ∀ l, row = some l → w0.heap.size ≤ l ∧ l < base) : RX RB base w0 ln cs rs A' := by
  obtain ⟨vs, h⟩ := h
  exact ⟨vs, h.keep hg hr⟩
theorem RX.below {RB base : Nat} {w0 : World} {ln : Nat → Nat} {cs : Nat → List Value} {rs : List Raw} {A A' : World} (h : RX RB base w0 ln cs rs A) (hb : Below A.heap.size A A') : RX RB base w0 ln cs rs A' := by
  obtain ⟨vs, h⟩ := h
  exact ⟨vs, h.below hb⟩
theorem RX.old {RB base : Nat} {w0 : World} {ln : Nat → Nat} {cs : Nat → List Value} {rs : List Raw} {A : World} (h : RX RB base w0 ln cs rs A) {k : Nat} (hk : k < w0.heap.size) (hne : k ≠ RB) : A.heap[k]? = w0.heap[k]? := by
  obtain ⟨vs, h⟩ := h
  exact h.old hk hne
theorem RX.oldCell {RB base : Nat} {w0 : World} {ln : Nat → Nat} {cs : Nat → List Value} {rs : List Raw} {A : World} (h : RX RB base w0 ln cs rs A) {k o : Nat} {v : Value} (hc : w0.cell? ⟨k, o, none⟩ = some v) (hne : k ≠ RB) : A.cell? ⟨k, o, none⟩ = some v :=
  (World.cell?_of_block (a := ⟨k, o, none⟩) (h.old (World.block_lt_of_cell? _ _ hc) hne)).trans hc
/-- What a step leaves of the blocks below the lists. -/
structure Kp (RB base : Nat) (W W' : World) : Prop where
  os : W'.os = W.os
  tape : W'.tape = W.tape
  output : W'.output = W.output
  size : W.heap.size ≤ W'.heap.size
  blk : ∀ k, k < base → k ≠ RB → k < W.heap.size → W'.heap[k]? = W.heap[k]?
theorem Kp.trans {RB base : Nat} {A B C : World} (h : Kp RB base A B) (h' : Kp RB base B C) : Kp RB base A C :=
  ⟨h'.os.trans h.os, h'.tape.trans h.tape, h'.output.trans h.output, Nat.le_trans h.size h'.size, fun k h1 h2 h3 => (h'.blk k h1 h2 (Nat.lt_of_lt_of_le h3 h.size)).trans (h.blk k h1 h2 h3)⟩
theorem Kp.of_below {RB base : Nat} {A B : World} (h : Below A.heap.size A B) : Kp RB base A B := ⟨h.os, h.tape, h.output, h.size, fun k _ _ h3 => h.block k h3⟩
theorem Kp.below {RB base n : Nat} {A B : World} (h : Kp RB base A B) (hn : n ≤ RB) (hb : RB ≤ base) (hz : RB ≤ A.heap.size) : Below n A B :=
  ⟨h.os, h.tape, h.output, h.size, fun k hk => h.blk k (by omega) (by omega) (by omega)⟩
theorem kp_push {RB base : Nat} {W W' : World} {row : Option Nat} (hg : W.grownBy W' row) (hr : ∀ k, row = some k → base ≤ k) (i : Nat) (v : Value) : Kp RB base W (W'.setCell ⟨RB, i, none⟩ v) := by
  refine ⟨hg.os, hg.tape, hg.output, by have := hg.size; simpa using this, fun k h1 h2 h3 => ?_⟩
  rw [Below.heap_setCell _ _ _ _ (show k ≠ RB from h2)]
  exact hg.block k h3 (fun e => by have := hr k e.symm; omega)
end Go.Proofs.YtgdambmineeboaaGreatDoor.RSt

/- The walks of octet.Digit, Number and line.Point, of what a number is told in. -/
namespace Go.Proofs.YtgdambmineeboaaGreatDoor.Point
open Go.RowKit Go.Lib Go.Proofs.YtgdambmineeboaaGreatDoor.Text Go.Proofs.YtgdambmineeboaaGreatDoor.Runes Go.Proofs.YtgdambmineeboaaGreatDoor.Print Go.Proofs.YtgdambmineeboaaGreatDoor.RefNine Go.Proofs.YtgdambmineeboaaGreatDoor.Format

theorem idx36 : ∀ d : Nat, d < 16 → Lib.indexByte ([48, 49, 50, 51, 52, 53, 54, 55, 56, 57, 97, 98, 99, 100, 101, 102, 103, 104, 105, 106, 107, 108, 109, 110, 111, 112, 113, 114, 115, 116, 117, 118, 119, 120, 121, 122] : List UInt8) (loDigit d) = (d : Int) := by decide +kernel

theorem class_low (b : Int) (w : World) (h0 : 48 ≤ b) (h1 : b ≤ 57) : Calls Tryz.prog 214 #[.int .u8 b] w fun e w' => e = .returned (.int .i64 9) ∧ w = w' := by
  go_enter Tryz.func214, Tryz.ntmps214
  go_wp2
  go_ret
  exact ⟨rfl, rfl⟩
theorem class_up (b : Int) (w : World) (h0 : 65 ≤ b) (h1 : b ≤ 70) : Calls Tryz.prog 214 #[.int .u8 b] w fun e w' => e = .returned (.int .i64 10) ∧ w = w' := by
  go_enter Tryz.func214, Tryz.ntmps214
  go_wp2
  go_ret
  exact ⟨rfl, rfl⟩

theorem lo_char : ∀ d : Nat, d < 16 → ((((loDigit d).toNat : Nat) : Int)).toNat.toUInt8 = loDigit d := by decide +kernel
theorem lo_num : ∀ d : Nat, d < 16 → ((loDigit d).toNat : Int) = if d < 10 then (d : Int) + 48 else (d : Int) + 87 := by decide +kernel
theorem up_num : ∀ d : Nat, d < 16 → ((Text.hexDigit d).toNat : Int) = if d < 10 then (d : Int) + 48 else (d : Int) + 55 := by decide +kernel

theorem index_any (d : Nat) (c : Int) (w : World) (h : d < 16) (hc : c = ((loDigit d).toNat : Int)) :
    Calls Tryz.prog 215 #[.string ⟨#[48, 49, 50, 51, 52, 53, 54, 55, 56, 57, 97, 98, 99, 100, 101, 102, 103, 104, 105, 106, 107, 108, 109, 110, 111, 112, 113, 114, 115, 116, 117, 118, 119, 120, 121, 122]⟩, .int .u8 c] w fun e w' => e = .returned (.int .i64 d) ∧ w = w' := by
  refine (Tryz.strings_IndexByte _ c w).mono ?_
  rintro e w' ⟨rfl, rfl⟩
  subst hc
  rw [lo_char d h]
  exact ⟨congrArg (fun z => Ending.returned (.int .i64 z)) (idx36 d h), rfl⟩

theorem digit_low (d : Nat) (w : World) (h : d < 10) : Calls Tryz.prog 188 #[.int .u8 ((d : Int) + 48), .int .i64 16] w fun e w' => e = .returned (.int .i64 d) ∧ w = w' := by
  have hC := Lib.hid (fun W => class_low ((d : Int) + 48) W (by omega) (by omega))
  have hI := Lib.hid (fun W => index_any d ((d : Int) + 48) W (by omega) (by rw [lo_num d (by omega), if_pos h]))
  have e1 : (bits BinOp.and IntKind.i64 9 2 != 0) = false := by decide +kernel
  go_enter Tryz.func188, Tryz.ntmps188
  go_wp2_with (first | (go_at_call 214; refine (hC.out _).mono ?_; rintro e w1 ⟨rfl, rfl⟩) | (go_at_call 215; refine (hI.out _).mono ?_; rintro e w1 ⟨rfl, rfl⟩))
  go_ret
  exact ⟨rfl, rfl⟩
theorem digit_up (d : Nat) (w : World) (h0 : 10 ≤ d) (h : d < 16) : Calls Tryz.prog 188 #[.int .u8 ((d : Int) + 55), .int .i64 16] w fun e w' => e = .returned (.int .i64 d) ∧ w = w' := by
  have hC := Lib.hid (fun W => class_up ((d : Int) + 55) W (by omega) (by omega))
  have hI := Lib.hid (fun W => index_any d ((d : Int) + 55 + 32) W (by omega) (by rw [lo_num d (by omega), if_neg (by omega)]; omega))
  have e1 : (bits BinOp.and IntKind.i64 10 2 != 0) = true := by decide +kernel
  go_enter Tryz.func188, Tryz.ntmps188
  go_wp2_with (first | (go_at_call 214; refine (hC.out _).mono ?_; rintro e w1 ⟨rfl, rfl⟩) | (go_at_call 215; refine (hI.out _).mono ?_; rintro e w1 ⟨rfl, rfl⟩))
  go_ret
  exact ⟨rfl, rfl⟩
theorem digit_any (d : Nat) (w : World) (h : d < 16) : Calls Tryz.prog 188 #[.int .u8 ((Text.hexDigit d).toNat : Int), .int .i64 16] w fun e w' => e = .returned (.int .i64 d) ∧ w = w' := by
  rw [up_num d h]
  split
  · exact digit_low d w (by omega)
  · exact digit_up d w (by omega) h

theorem lowHex_at : ∀ (k n i : Nat), i < k → (lowHex k n)[i]? = some (Text.hexDigit (n / 16 ^ (k - 1 - i) % 16))
  | 0, _, _, h => by omega
  | k + 1, n, 0, _ => by rw [lowHex_cons]; rfl
  | k + 1, n, i + 1, h => by
    rw [lowHex_cons, List.getElem?_cons_succ, lowHex_at k n i (by omega)]
    rw [show k + 1 - 1 - (i + 1) = k - 1 - i from by omega]
theorem hex_step (n k i : Nat) (h : i < k) : n / 16 ^ (k - i) * 16 + n / 16 ^ (k - 1 - i) % 16 = n / 16 ^ (k - (i + 1)) := by
  rw [show k - (i + 1) = k - 1 - i from by omega, show k - i = (k - 1 - i) + 1 from by omega, Nat.pow_succ, ← Nat.div_div_eq_div_mul]
  omega

theorem add64_any (x y : Int) (W : World) (hx : 0 ≤ x) (hy : 0 ≤ y) (h : x + y < 4294967296) :
    (callFunc 189 #[.int .u64 x, .int .u64 y, .int .u64 0]).run Tryz.prog W = .ok (.value (.tuple #[.int .u64 (x + y), .int .u64 0])) W := by
  rw [run_callFunc_extern Tryz.func189 (by kernel_rfl) (by kernel_rfl) (by kernel_rfl) (e := add64Entry) (by kernel_rfl), run_add64 x y 0 hx hy (by omega) (by omega)]
  simp only [Result.andThen]
  rw [show (x + y + 0) % 18446744073709551616 = x + y from by omega, show (x + y + 0) / 18446744073709551616 = 0 from by omega]

set_option maxRecDepth 100000 in
set_option maxHeartbeats 1000000 in
theorem number_any (s : ByteArray) (k n : Nat) (w : World) (hs : s.data.toList = lowHex k n) (h1 : 1 ≤ k) (h6 : k ≤ 6) (hn : n < 16777216) (hk : n / 16 ^ k = 0) :
    Calls Tryz.prog 154 #[.string s, .int .i64 16] w fun e w' => e = .returned (.tuple #[.int .u64 n, .int .i64 0, .int .i64 0]) ∧ w = w' := by
  have hsz : s.size = k := by rw [← size_data, hs, lowHex_length]
  have e0 : s.toList.isEmpty = false := by
    rw [ByteArray.toList_eq, List.isEmpty_eq_false_iff]
    intro h
    rw [← size_data, h] at hsz
    simp at hsz
    omega
  have hS := Lib.hid hs
  have hZ := Lib.hid hsz
  have hb : s.size ≤ 6 := by omega
  clear hs hsz
  go_enter Tryz.func154, Tryz.ntmps154
  go_wp2
  go_loopw [7, 8, 27] (fun a b c w' => ∃ i m : Nat, c = .int .i64 i ∧ a = .int .u64 m ∧ b = .bool false ∧ i ≤ s.size ∧ m < 16777216 ∧ Hid (m = n / 16 ^ (k - i)) ∧ w = w') (fun _ _ c _ => s.size - (intOf c).toNat)
  case atStart => exact ⟨0, 0, rfl, rfl, rfl, Nat.zero_le _, by omega, Lib.hid (by rw [Nat.sub_zero, hk]), rfl⟩
  case round =>
    obtain ⟨i, m, rfl, rfl, rfl, hi, hm, hmn, rfl⟩ := hrel
    by_cases hlt : i < s.size
    · have hik : i < k := by rw [hZ.out] at hlt; exact hlt
      have hbyte : s[i] = Text.hexDigit (n / 16 ^ (k - 1 - i) % 16) := by
        have h := lowHex_at k n i hik
        rw [← hS.out] at h
        rw [← RefNine.getD_at s i hlt, List.getD_eq_getElem?_getD, h]
        rfl
      have hd : n / 16 ^ (k - 1 - i) % 16 < 16 := Nat.mod_lt _ (by decide)
      have hstep := hex_step n k i hik
      have hD : ∀ W, Calls Tryz.prog 188 #[.int .u8 (s[i].toNat : Int), .int .i64 16] W fun e w' => e = .returned (.int .i64 ((n / 16 ^ (k - 1 - i) % 16 : Nat) : Int)) ∧ W = w' := fun W => by
        rw [hbyte]
        exact digit_any _ W hd
      have HD := Lib.hid hD
      have hle : n / 16 ^ (k - (i + 1)) ≤ n := Nat.div_le_self _ _
      rw [← hmn.out] at hstep
      have HST := Lib.hid hstep
      generalize n / 16 ^ (k - 1 - i) % 16 = d at *
      have hM : ∀ W, Calls Tryz.prog 172 #[.int .u64 m, .int .u64 16] W fun e w' => e = .returned (.tuple #[.int .u64 0, .int .u64 ((m : Int) * 16)]) ∧ W = w' := fun W => by
        refine (Tryz.bits_Mul64 m 16 (by omega) (by decide) W).mono ?_
        rintro e w' ⟨rfl, rfl⟩
        rw [show m * 16 / 18446744073709551616 = 0 from by omega, show m * 16 % 18446744073709551616 = m * 16 from by omega]
        exact ⟨rfl, rfl⟩
      have HM := Lib.hid hM
      have hA := fun W => add64_any ((m : Int) * 16) d W (by omega) (by omega) (by omega)
      clear hD hbyte hstep hM
      go_wp2_with (first | (go_at_call 188; refine (HD.out _).mono ?_; rintro e w1 ⟨rfl, rfl⟩) | (go_at_call 172; refine (HM.out _).mono ?_; rintro e w1 ⟨rfl, rfl⟩))
      go_roundw
      case rel => exact ⟨i + 1, m * 16 + d, by go_num, by go_num, rfl, by omega, by rw [HST.out]; omega, Lib.hid HST.out, trivial⟩
      case measure => simp [intOf]; omega
    · have HE : Hid (m = n) := Lib.hid (by rw [hmn.out, show k - i = 0 from by rw [hZ.out] at hlt; omega]; simp)
      go_wp2
      go_ret3
      exact ⟨by rw [HE.out]; rfl, rfl⟩

theorem point_any (s : ByteArray) (n : Nat) (w : World) (hs : s.data.toList = hexL n) (hn : n ≤ 1114111) :
    Calls Tryz.prog 158 #[.string s] w fun e w' => e = .returned (.tuple #[.int .i32 n, .int .i64 0]) ∧ w = w' := by
  have hnd := nd_le n
  have hsz : s.size = max 4 (nd n) := by rw [← size_data, hs]; unfold hexL; rw [lowHex_length]
  have hz : n / 16 ^ max 4 (nd n) = 0 := by
    rw [show max 4 (nd n) = nd n + (4 - nd n) from by omega, Nat.pow_add, ← Nat.div_div_eq_div_mul, nd_zero n (by omega), Nat.zero_div]
  have HC := Lib.hid (number_any s (max 4 (nd n)) n w hs (by omega) (by omega) (by omega) hz)
  have b1 : (4 : Int) ≤ (s.size : Int) := by omega
  have b2 : (s.size : Int) ≤ 6 := by omega
  clear hs hsz hz
  go_enter Tryz.func158, Tryz.ntmps158
  go_wp2_with (go_at_call 154; refine HC.out.mono ?_; rintro e w1 ⟨rfl, rfl⟩)
  go_ret2
  exact ⟨rfl, rfl⟩

end Go.Proofs.YtgdambmineeboaaGreatDoor.Point

/- The walks of line.Range at a span that was told, and of line.Whole at a number in digits. -/
namespace Go.Proofs.YtgdambmineeboaaGreatDoor.Range10
open Go.RowKit Go.Lib Go.Proofs.YtgdambmineeboaaGreatDoor.Text Go.Proofs.YtgdambmineeboaaGreatDoor.Runes Go.Proofs.YtgdambmineeboaaGreatDoor.Print Go.Proofs.YtgdambmineeboaaGreatDoor.RefNine Go.Proofs.YtgdambmineeboaaGreatDoor.RefPrint Go.Proofs.YtgdambmineeboaaGreatDoor.Format Go.Proofs.YtgdambmineeboaaGreatDoor.Tell Go.Proofs.YtgdambmineeboaaGreatDoor.Given Go.Proofs.YtgdambmineeboaaGreatDoor.Split Go.Proofs.YtgdambmineeboaaGreatDoor.Cut Go.Proofs.YtgdambmineeboaaGreatDoor.Point
/-! ### numbers to base 10 -/
theorem digit10 (d : Nat) (w : World) (h : d < 10) : Calls Tryz.prog 188 #[.int .u8 ((d : Int) + 48), .int .i64 10] w fun e w' => e = .returned (.int .i64 d) ∧ w = w' := by
  have hC := Lib.hid (fun W => class_low ((d : Int) + 48) W (by omega) (by omega))
  have hI := Lib.hid (fun W => index_any d ((d : Int) + 48) W (by omega) (by rw [lo_num d (by omega), if_pos h]))
  have e1 : (bits BinOp.and IntKind.i64 9 2 != 0) = false := by decide +kernel
  have e2 : (d : Int) < 10 := by omega
  go_enter Tryz.func188, Tryz.ntmps188
  go_wp2_with (first | (go_at_call 214; refine (hC.out _).mono ?_; rintro e w1 ⟨rfl, rfl⟩) | (go_at_call 215; refine (hI.out _).mono ?_; rintro e w1 ⟨rfl, rfl⟩))
  go_ret
  exact ⟨rfl, rfl⟩
theorem dec_at (n i : Nat) (h : i < Lib.nDigits n) : (Lib.decDigits n)[i]? = some (Lib.dg n (Lib.nDigits n - 1 - i)) := by
  rw [Lib.decDigits_eq, List.getElem?_map, List.getElem?_range h]
  rfl
theorem dg_nat (n j : Nat) : ((Lib.dg n j).toNat : Int) = ((n / 10 ^ j % 10 : Nat) : Int) + 48 := by
  unfold Lib.dg
  have := Nat.mod_lt (n / 10 ^ j) (show 10 > 0 by decide)
  rw [UInt8.toNat_ofNat_of_lt' (by show 48 + n / 10 ^ j % 10 < 256; omega)]
  omega
theorem dec_step (n k i : Nat) (h : i < k) : n / 10 ^ (k - i) * 10 + n / 10 ^ (k - 1 - i) % 10 = n / 10 ^ (k - (i + 1)) := by
  rw [show k - (i + 1) = k - 1 - i from by omega, show k - i = (k - 1 - i) + 1 from by omega, Nat.pow_succ, ← Nat.div_div_eq_div_mul]
  omega
theorem ndigits_le (n : Nat) (h : n < 1000) : Lib.nDigits n ≤ 3 := by
  rcases Nat.lt_or_ge n 10 with h1 | h1
  · rw [Lib.nDigits_small h1]; decide
  · rw [Lib.nDigits_big (by omega)]
    rcases Nat.lt_or_ge (n / 10) 10 with h2 | h2
    · rw [Lib.nDigits_small h2]; decide
    · rw [Lib.nDigits_big (by omega), Lib.nDigits_small (by omega)]; decide
set_option maxRecDepth 100000 in
set_option maxHeartbeats 1000000 in
theorem number10_any (s : ByteArray) (n : Nat) (w : World) (hs : s.data.toList = Lib.decDigits n) (hn : n < 1000) :
    Calls Tryz.prog 154 #[.string s, .int .i64 10] w fun e w' => e = .returned (.tuple #[.int .u64 n, .int .i64 0, .int .i64 0]) ∧ w = w' := by
  have hsz : s.size = Lib.nDigits n := by rw [← size_data, hs, Lib.decDigits_length]
  have hp := Lib.nDigits_pos n
  have h3 := ndigits_le n hn
  have hk : n / 10 ^ Lib.nDigits n = 0 := Nat.div_eq_of_lt (Lib.lt_pow_nDigits n)
  have e0 : s.toList.isEmpty = false := by
    rw [ByteArray.toList_eq, List.isEmpty_eq_false_iff]
    intro h
    rw [← size_data, h] at hsz
    simp at hsz
    omega
  have hb : s.size ≤ 6 := by omega
  have hS := Lib.hid hs
  generalize hkk : Lib.nDigits n = k at *
  have HAT : Hid (∀ i, i < k → (Lib.decDigits n)[i]? = some (Lib.dg n (k - 1 - i))) := Lib.hid (by subst hkk; exact dec_at n)
  have hZ := Lib.hid hsz
  clear hs hsz hkk
  go_enter Tryz.func154, Tryz.ntmps154
  go_wp2
  go_loopw [7, 8, 27] (fun a b c w' => ∃ i m : Nat, c = .int .i64 i ∧ a = .int .u64 m ∧ b = .bool false ∧ i ≤ s.size ∧ m < 1000 ∧ Hid (m = n / 10 ^ (k - i)) ∧ w = w') (fun _ _ c _ => s.size - (intOf c).toNat)
  case atStart => exact ⟨0, 0, rfl, rfl, rfl, Nat.zero_le _, by omega, Lib.hid (by rw [Nat.sub_zero, hk]), rfl⟩
  case round =>
    obtain ⟨i, m, rfl, rfl, rfl, hi, hm, hmn, rfl⟩ := hrel
    by_cases hlt : i < s.size
    · have hik : i < k := by rw [hZ.out] at hlt; exact hlt
      have hbyte : s[i] = Lib.dg n (k - 1 - i) := by
        have h := HAT.out i hik
        rw [← hS.out] at h
        rw [← RefNine.getD_at s i hlt, List.getD_eq_getElem?_getD, h]
        rfl
      have hd : n / 10 ^ (k - 1 - i) % 10 < 10 := Nat.mod_lt _ (by decide)
      have hstep := dec_step n k i hik
      have hD : ∀ W, Calls Tryz.prog 188 #[.int .u8 (s[i].toNat : Int), .int .i64 10] W fun e w' => e = .returned (.int .i64 ((n / 10 ^ (k - 1 - i) % 10 : Nat) : Int)) ∧ W = w' := fun W => by
        rw [hbyte, dg_nat]
        exact digit10 _ W hd
      have HD := Lib.hid hD
      have hle : n / 10 ^ (k - (i + 1)) ≤ n := Nat.div_le_self _ _
      rw [← hmn.out] at hstep
      have HST := Lib.hid hstep
      generalize n / 10 ^ (k - 1 - i) % 10 = d at *
      have hM : ∀ W, Calls Tryz.prog 172 #[.int .u64 m, .int .u64 10] W fun e w' => e = .returned (.tuple #[.int .u64 0, .int .u64 ((m : Int) * 10)]) ∧ W = w' := fun W => by
        refine (Tryz.bits_Mul64 m 10 (by omega) (by decide) W).mono ?_
        rintro e w' ⟨rfl, rfl⟩
        rw [show m * 10 / 18446744073709551616 = 0 from by omega, show m * 10 % 18446744073709551616 = m * 10 from by omega]
        exact ⟨rfl, rfl⟩
      have HM := Lib.hid hM
      have hA := fun W => add64_any ((m : Int) * 10) d W (by omega) (by omega) (by omega)
      clear hD hbyte hstep hM
      go_wp2_with (first | (go_at_call 188; refine (HD.out _).mono ?_; rintro e w1 ⟨rfl, rfl⟩) | (go_at_call 172; refine (HM.out _).mono ?_; rintro e w1 ⟨rfl, rfl⟩))
      go_roundw
      case rel => exact ⟨i + 1, m * 10 + d, by go_num, by go_num, rfl, by omega, by rw [HST.out]; omega, Lib.hid HST.out, trivial⟩
      case measure => simp [intOf]; omega
    · have HE : Hid (m = n) := Lib.hid (by rw [hmn.out, show k - i = 0 from by rw [hZ.out] at hlt; omega]; simp)
      go_wp2
      go_ret3
      exact ⟨by rw [HE.out]; rfl, rfl⟩
theorem dec_first (n : Nat) : ∀ c, (Lib.decDigits n).head? = some c → c ≠ 45 := by
  intro c hc
  have hp := Lib.nDigits_pos n
  have h0 := dec_at n 0 (by omega)
  rw [← List.head?_eq_getElem?, hc] at h0
  cases h0
  intro h
  have h2 := dg_nat n (Lib.nDigits n - 1 - 0)
  rw [h] at h2
  have : ((45 : UInt8).toNat : Int) = 45 := rfl
  omega
theorem trim_none {l : List UInt8} (h : ∀ c, l.head? = some c → c ≠ 45) : Lib.trimPrefix l [45] = l := by
  unfold Lib.trimPrefix
  cases l with
  | nil => rfl
  | cons c r =>
    have : ¬ c = 45 := h c rfl
    have h2 : ¬ (45 : UInt8) = c := fun e => this e.symm
    simp [Lib.hasPrefix, h2]
set_option maxRecDepth 100000 in
theorem whole_any (s : ByteArray) (n : Nat) (w : World) (hs : s.data.toList = Lib.decDigits n) (hn : n < 1000) :
    Calls Tryz.prog 101 #[.string s] w fun e w' => e = .returned (.tuple #[.int .i64 n, .int .i64 0]) ∧ w = w' := by
  have hsz : s.size = Lib.nDigits n := by rw [← size_data, hs, Lib.decDigits_length]
  have h3 := ndigits_le n hn
  have b2 : decide (9 < (s.size : Int)) = false := decide_eq_false (by omega)
  have HC := Lib.hid (number10_any s n w hs hn)
  have HT : Hid (Calls Tryz.prog 153 #[.string s, .string ⟨#[45]⟩] w fun e w' => e = .returned (.string s) ∧ w = w') := Lib.hid (by
    refine (Tryz.strings_TrimPrefix s ⟨#[45]⟩ w).mono ?_
    rintro e w' ⟨rfl, rfl⟩
    have e1 : Lib.trimPrefix s.data.toList (⟨#[45]⟩ : ByteArray).data.toList = s.data.toList := by
      show Lib.trimPrefix s.data.toList [45] = s.data.toList
      rw [hs]
      exact trim_none (dec_first n)
    rw [e1, toList_toArray]
    exact ⟨rfl, rfl⟩)
  clear hs hsz h3
  go_enter Tryz.func101, Tryz.ntmps101
  go_wp2_with (first | (go_at_call 153; refine HT.out.mono ?_; rintro e w1 ⟨rfl, rfl⟩) | (go_at_call 154; refine HC.out.mono ?_; rintro e w1 ⟨rfl, rfl⟩))
  go_ret2
  exact ⟨rfl, rfl⟩
/-! ### spans -/
theorem digit_no46 : ∀ d : Nat, d < 16 → Text.hexDigit d ≠ 46 := by decide +kernel
theorem low_no46 : ∀ i p, (46 : UInt8) ∉ lowHex i p
  | 0, _ => by simp [lowHex]
  | i + 1, p => by
    rw [lowHex, List.mem_append]
    rintro (h | h)
    · exact low_no46 i _ h
    · simp only [List.mem_singleton] at h
      exact digit_no46 _ (Nat.mod_lt p (by decide)) h.symm
theorem hex_no46 (p : Nat) : (46 : UInt8) ∉ hexL p := low_no46 _ _
theorem occ_no {x : List UInt8} {l : List UInt8} (h : (46 : UInt8) ∉ x) (j : Nat) (hj : j < x.length) : Lib.occAt (x ++ l) [46, 46] j = false := by
  unfold Lib.occAt
  have h1 : ((x ++ l).drop j) = x[j] :: (x.drop (j + 1) ++ l) := by
    rw [List.drop_append_of_le_length (by omega), List.drop_eq_getElem_cons hj]
    rfl
  rw [h1]
  have h2 : ¬ (46 : UInt8) = x[j] := fun e => h (by rw [e]; exact List.getElem_mem _)
  show ((46 : UInt8) == x[j] && List.isPrefixOf [46] _) = false
  rw [beq_eq_false_iff_ne.2 h2]
  rfl
theorem cut_span {x y : List UInt8} (h : (46 : UInt8) ∉ x) : Lib.cut (x ++ [46, 46] ++ y) [46, 46] = (x, y, true) := by
  have e : Lib.index (x ++ [46, 46] ++ y) [46, 46] = x.length := by
    refine Lib.index_first (by simp) ?_ (fun j hj => ?_)
    · unfold Lib.occAt
      rw [List.append_assoc, List.drop_left]
      simp
    · rw [List.append_assoc]
      exact occ_no h j hj
  unfold Lib.cut
  rw [e, if_pos (by omega)]
  simp
theorem cut_point {x : List UInt8} (h : (46 : UInt8) ∉ x) : Lib.cut x [46, 46] = (x, [], false) := by
  have e : Lib.index x [46, 46] = -1 := by
    refine Lib.index_none (fun j hj => ?_)
    rcases Nat.lt_or_ge j x.length with h1 | h1
    · have := occ_no (l := []) h j h1
      rwa [List.append_nil] at this
    · unfold Lib.occAt
      rw [List.drop_of_length_le h1]
      rfl
  unfold Lib.cut
  rw [e, if_neg (by omega)]
set_option maxRecDepth 100000 in
set_option maxHeartbeats 1000000 in
theorem range_one (s : ByteArray) (a : Nat) (w : World) (hs : s.data.toList = hexL a) (ha : a ≤ 1114111) (hQ : Quick w) :
    Calls Tryz.prog 112 #[.string s] w fun e w' => e = .returned (.tuple #[.agg #[.int .i32 a, .int .i32 a], .int .i64 0]) ∧ Below w.heap.size w w' := by
  have hz : s.size ≤ 6 := by
    rw [← size_data, hs]
    unfold hexL
    rw [lowHex_length]
    have := nd_le a
    omega
  have HB : Below w.heap.size w (w.alloc (.cells #[.int .i32 0, .int .i32 0] 71 (0, 0))) := (Below.refl _ _).alloc (Nat.le_refl _) _
  have HC := Lib.hid (cutStr s ⟨#[46, 46]⟩ _ (by omega) (hQ.below HB))
  rw [show (⟨#[46, 46]⟩ : ByteArray).data.toList = [46, 46] from rfl, hs, cut_point (hex_no46 a), ← hs, toList_toArray] at HC
  have HP := Lib.hid (fun W => point_any s a W hs ha)
  have HBH := Lib.hid HB
  clear hs hz hQ HB
  go_enter Tryz.func112, Tryz.ntmps112
  go_wp2_with fail
  refine HC.out.mono ?_
  rintro e w1 ⟨rfl, hb1⟩
  have hlt : w.heap.size < w1.heap.size := Nat.lt_of_lt_of_le (by simp) hb1.size
  have hblk := Lib.hid ((hb1.block w.heap.size (by simp)).trans (heap_alloc_new w (.cells #[.int .i32 0, .int .i32 0] 71 (0, 0))))
  have hbw := Lib.hid (HBH.out.trans (hb1.mono HBH.out.size))
  have k0 : w1.cell? ⟨w.heap.size, 0, none⟩ = some (.int .i32 0) := (block_cell (i := 0) hblk.out).trans rfl
  have k1 : w1.cell? ⟨w.heap.size, 1, none⟩ = some (.int .i32 0) := (block_cell (i := 1) hblk.out).trans rfl
  have f0 := block_free (i := 0) hblk.out
  have f1 := block_free (i := 1) hblk.out
  clear hb1
  go_wp2_with fail
  refine (HP.out _).mono ?_
  rintro e w2 ⟨rfl, rfl⟩
  go_wp2_with fail
  refine bodyPost_ret (v := .tuple #[.agg #[.int .i32 a, .int .i32 a], .int .i64 0]) ?_ rfl ⟨rfl, ?_⟩
  · simp [results, Tryz.results112, go_sem, k0, k1]
  · exact (hbw.out.setCell (by simp) _).setCell (by simp) _
set_option maxRecDepth 100000 in
set_option maxHeartbeats 1000000 in
theorem range_two (s : ByteArray) (a b : Nat) (w : World) (hs : s.data.toList = hexL a ++ [46, 46] ++ hexL b) (ha : a ≤ b) (hb : b ≤ 1114111) (hQ : Quick w) :
    Calls Tryz.prog 112 #[.string s] w fun e w' => e = .returned (.tuple #[.agg #[.int .i32 a, .int .i32 b], .int .i64 0]) ∧ Below w.heap.size w w' := by
  have hz : s.size ≤ 100 := by
    rw [← size_data, hs]
    unfold hexL
    rw [List.length_append, List.length_append, lowHex_length, lowHex_length]
    have := nd_le a
    have := nd_le b
    simp
    omega
  have HB : Below w.heap.size w (w.alloc (.cells #[.int .i32 0, .int .i32 0] 71 (0, 0))) := (Below.refl _ _).alloc (Nat.le_refl _) _
  have HC := Lib.hid (cutStr s ⟨#[46, 46]⟩ _ (by omega) (hQ.below HB))
  rw [show (⟨#[46, 46]⟩ : ByteArray).data.toList = [46, 46] from rfl, hs, cut_span (hex_no46 a)] at HC
  have HP := Lib.hid (fun W => point_any ⟨(hexL a).toArray⟩ a W rfl (by omega))
  have HP2 := Lib.hid (fun W => point_any ⟨(hexL b).toArray⟩ b W rfl hb)
  have hab : ¬ (b : Int) < (a : Int) := by omega
  have HBH := Lib.hid HB
  clear hs hz hQ HB ha
  generalize (⟨(hexL a).toArray⟩ : ByteArray) = p1 at *
  generalize (⟨(hexL b).toArray⟩ : ByteArray) = p2 at *
  go_enter Tryz.func112, Tryz.ntmps112
  go_wp2_with fail
  refine HC.out.mono ?_
  rintro e w1 ⟨rfl, hb1⟩
  have hlt : w.heap.size < w1.heap.size := Nat.lt_of_lt_of_le (by simp) hb1.size
  have hblk := Lib.hid ((hb1.block w.heap.size (by simp)).trans (heap_alloc_new w (.cells #[.int .i32 0, .int .i32 0] 71 (0, 0))))
  have hbw := Lib.hid (HBH.out.trans (hb1.mono HBH.out.size))
  have k0 : w1.cell? ⟨w.heap.size, 0, none⟩ = some (.int .i32 0) := (block_cell (i := 0) hblk.out).trans rfl
  have k1 : w1.cell? ⟨w.heap.size, 1, none⟩ = some (.int .i32 0) := (block_cell (i := 1) hblk.out).trans rfl
  have f0 := block_free (i := 0) hblk.out
  have f1 := block_free (i := 1) hblk.out
  clear hb1
  go_wp2_with fail
  refine (HP.out _).mono ?_
  rintro e w2 ⟨rfl, rfl⟩
  go_wp2_with fail
  refine (HP2.out _).mono ?_
  rintro e w2 ⟨rfl, rfl⟩
  go_wp2_with fail
  refine bodyPost_ret (v := .tuple #[.agg #[.int .i32 a, .int .i32 b], .int .i64 0]) ?_ rfl ⟨rfl, ?_⟩
  · simp [results, Tryz.results112, go_sem, k0, k1]
  · exact (hbw.out.setCell (by simp) _).setCell (by simp) _
end Go.Proofs.YtgdambmineeboaaGreatDoor.Range10

/- The walks of line.words and line.Sequence, at a text that line.Tell has told. -/
namespace Go.Proofs.YtgdambmineeboaaGreatDoor.Seq
open Go.RowKit Go.Lib Go.Proofs.YtgdambmineeboaaGreatDoor.Text Go.Proofs.YtgdambmineeboaaGreatDoor.Runes Go.Proofs.YtgdambmineeboaaGreatDoor.Print Go.Proofs.YtgdambmineeboaaGreatDoor.RefNine Go.Proofs.YtgdambmineeboaaGreatDoor.RefPrint Go.Proofs.YtgdambmineeboaaGreatDoor.Format Go.Proofs.YtgdambmineeboaaGreatDoor.Tell Go.Proofs.YtgdambmineeboaaGreatDoor.Given Go.Proofs.YtgdambmineeboaaGreatDoor.Split Go.Proofs.YtgdambmineeboaaGreatDoor.Cut Go.Proofs.YtgdambmineeboaaGreatDoor.Point

/-! ### the text's words -/
theorem digit_no32 : ∀ d : Nat, d < 16 → Text.hexDigit d ≠ 32 := by decide +kernel
theorem low_no32 : ∀ i p, (32 : UInt8) ∉ lowHex i p
  | 0, _ => by simp [lowHex]
  | i + 1, p => by
    rw [lowHex, List.mem_append]
    rintro (h | h)
    · exact low_no32 i _ h
    · simp only [List.mem_singleton] at h
      exact digit_no32 _ (Nat.mod_lt p (by decide)) h.symm
theorem hex_no32 (p : Nat) : (32 : UInt8) ∉ hexL p := low_no32 _ _
theorem hex_ne (p : Nat) : hexL p ≠ [] := by
  intro h
  have := congrArg List.length h
  unfold hexL at this
  rw [lowHex_length] at this
  simp at this
theorem join_pieces : ∀ (xs : List (List UInt8)), xs ≠ [] → (∀ x ∈ xs, (32 : UInt8) ∉ x) → pieces 32 (Lib.join xs [32]) = xs
  | [], h, _ => absurd rfl h
  | [x], _, h => by rw [Lib.join_one]; exact pieces_none 32 x (h x (List.mem_cons_self ..))
  | x :: y :: r, _, h => by
    have e : Lib.join (x :: y :: r) [32] = x ++ 32 :: Lib.join (y :: r) [32] := by simp [Lib.join]
    rw [e, pieces_hit 32 _ x (h x (List.mem_cons_self ..)), join_pieces (y :: r) (by simp) (fun z hz => h z (List.mem_cons_of_mem _ hz))]

def word (x : Int) : ByteArray := ⟨(hexL x.toNat).toArray⟩
theorem tell_pieces (l : List Int) (h : l ≠ []) : pieces 32 (tellText l) = (l.map word).map (·.data.toList) := by
  unfold tellText
  rw [join_pieces _ (by simpa using h) (fun x hx => by obtain ⟨y, _, rfl⟩ := List.mem_map.1 hx; exact hex_no32 _), List.map_map]
  rfl

/-! ### line.words -/
theorem words1_any (s : ByteArray) (w : World) : Calls Tryz.prog 213 #[.string s] w fun e w' => e = .returned (.bool (s.data.toList == [])) ∧ Below w.heap.size w w' := by
  by_cases h : s.data.toList = []
  · have e1 : s.toList = [] := by rw [ByteArray.toList_eq]; exact h
    have HB : Hid ((s.data.toList == []) = true) := Lib.hid (by rw [h]; rfl)
    clear h
    go_enter Tryz.func213, Tryz.ntmps213
    go_wp2
    go_ret
    exact ⟨by rw [HB.out]; rfl, Below.refl _ _⟩
  · have e1 : s.toList.isEmpty = false := by rw [ByteArray.toList_eq]; exact List.isEmpty_eq_false_iff.2 h
    have HB : Hid ((s.data.toList == []) = false) := Lib.hid (by rw [beq_eq_false_iff_ne]; exact h)
    clear h
    go_enter Tryz.func213, Tryz.ntmps213
    go_wp2
    go_ret
    exact ⟨by rw [HB.out]; rfl, Below.refl _ _⟩

theorem delete_none (a : Option Addr) (l : List ByteArray) (c : Nat) (w : World) (hl : l.length ≤ 140737488351232) (hS : Strs w a l) (hn : ∀ x ∈ l, x.data.toList ≠ []) :
    Calls Tryz.prog 212 #[.slice a l.length c, .func (.func 213) #[] #[]] w fun e w' => e = .returned (.slice a l.length c) ∧ Below w.heap.size w w' := by
  have hI := indexFunc_any 213 (fun s => s.data.toList == []) a l c w hl hS (enters_of Tryz.func213 (by kernel_rfl) rfl) (fun W x _ _ => words1_any x W)
  have hidx : idxP (fun s : ByteArray => s.data.toList == []) l = -1 := idxP_none _ l fun j y hy _ => by rw [beq_eq_false_iff_ne]; exact hn y (List.mem_of_getElem? hy)
  rw [hidx] at hI
  have HI := Lib.hid hI
  clear hI hidx hn hS
  go_enter Tryz.func212, Tryz.ntmps212
  go_wp2_with (go_at_call 138; refine HI.out.mono ?_; rintro e w1 ⟨rfl, hb1⟩)
  go_ret
  exact ⟨rfl, hb1⟩

set_option maxRecDepth 100000 in
theorem delete_one (bk : Nat) (w : World) (hb : w.heap[bk]? = some (.cells #[.string ⟨#[]⟩] 9 (0, 0))) :
    Calls Tryz.prog 212 #[.slice (some ⟨bk, 0, none⟩) 1 1, .func (.func 213) #[] #[]] w fun e w' => e = .returned (.slice (some ⟨bk, 0, none⟩) 0 1) ∧ Below bk w w' := by
  have hc : ∀ W, Below w.heap.size w W → W.cell? ⟨bk, 0, none⟩ = some (.string ⟨#[]⟩) ∧ W.frozen? ⟨bk, 0, none⟩ = false := fun W hW =>
    have h := (hW.block _ (block_lt hb)).trans hb
    ⟨(block_cell (i := 0) h).trans rfl, block_free (i := 0) h⟩
  have hS : Strs w (some ⟨bk, 0, none⟩) [⟨#[]⟩] := .inr ⟨bk, 0, rfl, block_lt hb, fun j x hx => by
    cases j with
    | zero => cases hx; exact (hc w (Below.refl _ _)).1
    | succ j => cases hx⟩
  have hI := indexFunc_any 213 (fun s => s.data.toList == []) (some ⟨bk, 0, none⟩) [⟨#[]⟩] 1 w (by decide) hS (enters_of Tryz.func213 (by kernel_rfl) rfl) (fun W x _ _ => words1_any x W)
  have hidx : idxP (fun s : ByteArray => s.data.toList == []) [⟨#[]⟩] = 0 := idxP_at _ _ 0 ⟨#[]⟩ rfl rfl (fun j y _ h => absurd h (Nat.not_lt_zero _))
  rw [hidx] at hI
  have hlt := block_lt hb
  have HI := Lib.hid hI
  have HC := Lib.hid hc
  clear hI hidx hS hb hc
  go_enter Tryz.func212, Tryz.ntmps212
  go_wp2_with (go_at_call 138; refine HI.out.mono ?_; rintro e w1 ⟨rfl, hb1⟩)
  obtain ⟨k1, k2⟩ := HC.out w1 hb1
  have hcl : ∀ ty, (Builtin.clear_ #[22] ty #[.slice (some ⟨bk, 0, none⟩) 1 1]).run Tryz.prog w1 = .ok (.tuple #[]) (w1.setCells bk 0 (List.replicate 1 (.string ⟨#[]⟩))) :=
    fun ty => by
      refine Lib.run_clear_slice w1 _ _ ty _ Tryz.underlying22 Tryz.zeroValue9 rfl rfl bk 0 1 1 (by decide) ?_ ?_
      · intro j hj
        obtain rfl : j = 0 := by omega
        rw [Nat.add_zero, k1]; rfl
      · intro j hj
        obtain rfl : j = 0 := by omega
        exact k2
  clear HI HC
  go_loopw [5, 6] (fun u v w' => u = .int .i64 0 ∧ v = .int .i64 1 ∧ w1 = w') (fun _ _ _ => 0)
  case atStart => exact ⟨rfl, rfl, rfl⟩
  case round =>
    obtain ⟨rfl, rfl, rfl⟩ := hrel
    go_wp2_with (simp only [hcl])
    go_ret
    exact ⟨rfl, (hb1.mono (Nat.le_of_lt hlt)).setCell (p := ⟨bk, 0, none⟩) (Nat.le_refl _) _⟩
theorem map_data_inj : ∀ {a b : List ByteArray}, a.map (·.data.toList) = b.map (·.data.toList) → a = b
  | [], [], _ => rfl
  | [], _ :: _, h => by simp at h
  | _ :: _, [], h => by simp at h
  | x :: a, y :: b, h => by
    rw [List.map_cons, List.map_cons, List.cons.injEq] at h
    rw [ba_ext h.1, map_data_inj h.2]

def WordsPost (l : List Int) (w : World) (e : Ending) (w' : World) : Prop := ∃ a c, e = .returned (.slice a l.length c) ∧ Strs w' a (l.map word) ∧ Below w.heap.size w w'

theorem words_any (l : List Int) (w : World) (hz : (tellText l).length ≤ 1073741824) (hQ : Quick w) :
    Calls Tryz.prog 186 #[.string ⟨(tellText l).toArray⟩] w (WordsPost l w) := by
  obtain ⟨m, hm⟩ := hQ.1
  have hS := Tryz.strings_Split ⟨(tellText l).toArray⟩ ⟨#[32]⟩ m w (by rw [ba_size]; omega) hm (by decide)
  have hps := splitB_pieces 32 ⟨(tellText l).toArray⟩
  have hcl := count_pieces 32 _ (tellText l) (Nat.le_refl _)
  have hcl2 : Lib.countB ⟨(tellText l).toArray⟩ ⟨#[32]⟩ + 1 = (pieces 32 (tellText l)).length := hcl
  rw [hcl2] at hS
  have hlen : (pieces 32 (tellText l)).length = (Lib.splitB ⟨#[32]⟩ 0 (Lib.countB ⟨(tellText l).toArray⟩ ⟨#[32]⟩) ⟨(tellText l).toArray⟩).length := by
    rw [splitB_length]
  rw [hlen] at hS
  have hps' : (Lib.splitB ⟨#[32]⟩ 0 (Lib.countB ⟨(tellText l).toArray⟩ ⟨#[32]⟩) ⟨(tellText l).toArray⟩).map (·.data.toList) = pieces 32 (tellText l) := hps
  generalize (Lib.splitB ⟨#[32]⟩ 0 (Lib.countB ⟨(tellText l).toArray⟩ ⟨#[32]⟩) ⟨(tellText l).toArray⟩) = ps at *
  clear hps hcl hcl2 hlen
  have hblk : (w.alloc (.cells (ps.map Value.string).toArray 9 (0, 0))).heap[w.heap.size]? = some (.cells (ps.map Value.string).toArray 9 (0, 0)) := heap_alloc_new _ _
  have hal : Below w.heap.size w (w.alloc (.cells (ps.map Value.string).toArray 9 (0, 0))) := (Below.refl _ _).alloc (Nat.le_refl _) _
  by_cases hl : l = []
  · subst hl
    have e1 : ps = [⟨#[]⟩] := map_data_inj (by rw [hps']; rfl)
    subst e1
    have hD := delete_one w.heap.size _ hblk
    have HS := Lib.hid hS
    have HD := Lib.hid hD
    have HA := Lib.hid hal
    clear hS hD hblk hps' hal hm hQ
    go_enter Tryz.func186, Tryz.ntmps186
    go_wp2_with fail
    refine HS.out.mono ?_
    rintro e w1 ⟨rfl, rfl⟩
    go_wp2_with fail
    refine HD.out.mono ?_
    rintro e w2 ⟨rfl, hb2⟩
    go_wp2_with fail
    go_ret
    exact ⟨_, _, rfl, .inl rfl, HA.out.trans hb2⟩
  · have hpw : ps = l.map word := map_data_inj (by rw [hps', tell_pieces l hl])
    have hle : ps.length ≤ 140737488351232 := by
      have := pieces_le 32 (tellText l)
      rw [← hps', List.length_map] at this
      omega
    have hst : Strs (w.alloc (.cells (ps.map Value.string).toArray 9 (0, 0))) (some ⟨w.heap.size, 0, none⟩) ps := .inr ⟨w.heap.size, 0, rfl, block_lt hblk, fun j x hx => by
      rw [Nat.zero_add]
      exact (block_cell (i := j) hblk).trans (by simp [hx])⟩
    have hD := delete_none (some ⟨w.heap.size, 0, none⟩) ps ps.length _ hle hst (fun x hx => by
      rw [hpw] at hx
      obtain ⟨y, _, rfl⟩ := List.mem_map.1 hx
      exact hex_ne _)
    have hpl : ps.length = l.length := by rw [hpw, List.length_map]
    have HS := Lib.hid hS
    have HD := Lib.hid hD
    have HA := Lib.hid hal
    have HT := Lib.hid hst
    have HW := Lib.hid hpw
    have HL := Lib.hid hpl
    clear hS hD hblk hps' hal hm hQ hst hpw hpl hl
    go_enter Tryz.func186, Tryz.ntmps186
    go_wp2_with fail
    refine HS.out.mono ?_
    rintro e w1 ⟨rfl, rfl⟩
    go_wp2_with fail
    refine HD.out.mono ?_
    rintro e w2 ⟨rfl, hb2⟩
    go_wp2_with fail
    go_ret
    exact ⟨some ⟨w.heap.size, 0, none⟩, ps.length, by rw [← HL.out]; rfl, by rw [← HW.out]; exact HT.out.below hb2, HA.out.trans (hb2.mono HA.out.size)⟩

/-! ### line.Sequence -/
theorem info_rune : (Tryz.prog.info? 21).map (fun i => (i.zero, i.size, i.bytes)) = some (some (.int .i32 0), 1, 4) := by kernel_rfl
def runes (l : List Int) : List Value := l.map fun x => Value.int .i32 x
theorem runes_snoc (l : List Int) (i : Nat) (x : Int) (h : l[i]? = some x) : runes (l.take (i + 1)) = runes (l.take i) ++ [Value.int .i32 x] := by
  rw [take_snoc' l i _ h]
  simp [runes]

def SeqPost (l : List Int) (w : World) (e : Ending) (w' : World) : Prop := ∃ a c, e = .returned (.tuple #[.slice a l.length c, .int .i64 0, .int .i64 0]) ∧ Rs w' a l ∧ Below w.heap.size w w' ∧ w'.ownsRow w.heap.size 21 1 (.slice a l.length c) l.length (runes l)
theorem own_low {w : World} {b b' : Nat} {e : TypeId} {k : Nat} {v : Value} {n : Nat} {xs : List Value} (h : w.ownsRow b e k v n xs) (hb : b' ≤ b) : w.ownsRow b' e k v n xs := by
  refine ⟨h.1, ?_⟩
  rcases h.2 with h2 | ⟨g, cap, cur, hv, hg, r⟩
  · exact .inl h2
  · exact .inr ⟨g, cap, cur, hv, Nat.le_trans hb hg, r⟩

set_option maxRecDepth 100000 in
set_option maxHeartbeats 2000000 in
theorem sequence_any (l : List Int) (w : World) (hl : l.length ≤ 1048576) (hb : l.any badRune = false) (hQ : Quick w) :
    Calls Tryz.prog 151 #[.string ⟨(tellText l).toArray⟩] w (SeqPost l w) := by
  have htl := tell_len l hb
  have HW := Lib.hid (words_any l w (by omega) hQ)
  have HB := Lib.hid hb
  obtain ⟨i0, hi, hz0, hz1, hz2⟩ := info_parts info_rune
  clear hQ hb htl
  go_enter Tryz.func151, Tryz.ntmps151
  go_wp2_with fail
  refine HW.out.mono ?_
  rintro e w1 ⟨a, c, rfl, hst, hbw⟩
  have HST := Lib.hid hst
  clear hst HW
  go_wp2_with fail
  go_loopw [5, 13] (fun u v w' => ∃ (i : Nat), v = .int .i64 i ∧ i ≤ l.length ∧ w'.ownsRow w1.heap.size 21 1 u i (runes (l.take i)) ∧ Below w1.heap.size w1 w') (fun _ v _ => l.length - (intOf v).toNat)
  case atStart => exact ⟨0, rfl, Nat.zero_le _, World.ownsRow_nil _ _ _ _, Below.refl _ _⟩
  case round =>
    obtain ⟨i, rfl, hi', hown, hb1⟩ := hrel
    by_cases hlt : i < l.length
    · obtain ⟨x, hx⟩ : ∃ x, l[i]? = some x := ⟨_, List.getElem?_eq_getElem hlt⟩
      have hbx : badRune x = false := by
        have := List.any_eq_false.1 HB.out x (List.mem_of_getElem? hx)
        simpa using this
      have hx2 : 0 ≤ x ∧ x ≤ 1114111 := by
        unfold badRune at hbx
        rw [Bool.or_eq_false_iff] at hbx
        have h1 := of_decide_eq_false hbx.1
        have h2 := of_decide_eq_false hbx.2
        omega
      obtain ⟨n, rfl⟩ := Int.eq_ofNat_of_zero_le hx2.1
      rcases HST.out.below hb1 with h0 | ⟨bk, of, rfl, _, hc⟩
      · have : l = [] := List.map_eq_nil_iff.1 h0
        subst this
        simp at hlt
      have hcell := hc i (word n) (by rw [List.getElem?_map, hx]; rfl)
      have HP := Lib.hid (fun W => point_any (word n) n W rfl (by omega))
      have hsn := Lib.hid (runes_snoc l i n hx)
      generalize word n = wd at *
      clear hc hx hbx
      go_wp2_with (first
        | (go_at_call 158; refine (HP.out _).mono ?_; rintro e w3 ⟨rfl, rfl⟩)
        | (at_builtin; refine wpList_append_own _ rfl _ _ 45 rfl w1.heap.size 21 i0 (.int .i32 0) 1 4 Tryz.underlying45 hi hz0 hz1 hz2 rfl (by decide) _ _ _ rfl (hown.alloc _) ⟨wr.heap.size, 0, none⟩ 1 1 [.int .i32 (n : Int)] rfl rfl ?c1 ?c2 ?c3 ?c4 ?c5 ?_))
      case c1 => intro j u hu; cases j with | zero => cases hu; rw [Lib.add_plain]; exact World.cell?_alloc_new _ _ _ _ | succ j => cases hu
      case c2 => intro u hu; simp only [List.mem_singleton] at hu; subst hu; rfl
      case c3 => unfold maxLen; omega
      case c4 => omega
      case c5 => have := hb1.size; simp; omega
      intro v' w4 hown4 hgrow hv'
      have hbw4 : Below w1.heap.size w1 w4 := (hb1.alloc hb1.size _).grown hgrow (by have := hb1.size; simp; omega) (fun k hk => (hown.lt k hk).1)
      have hown5 : w4.ownsRow w1.heap.size 21 1 v' (i + 1) (runes (l.take (i + 1))) := by
        rw [hsn.out]
        exact hown4
      clear hown4 hgrow hown hb1 hv'
      go_wp2
      go_roundw
      case rel => exact ⟨i + 1, by go_num, by omega, hown5, hbw4⟩
      case measure => simp [intOf]; omega
    · obtain rfl : i = l.length := by omega
      rw [List.take_length] at hown
      have hb2 := hbw.trans (hb1.mono hbw.size)
      have HOL := Lib.hid (own_low hown hbw.size)
      rcases hown.2 with ⟨rfl, h0⟩ | ⟨g, cap, cur, rfl, hg, hcur, hnc, hcm, hcs, htk⟩
      · have hl0 : l = [] := List.length_eq_zero_iff.1 h0
        subst hl0
        go_wp2
        go_ret3
        exact ⟨none, 0, rfl, .inl rfl, hb2, HOL.out⟩
      · have hrs : Rs wr (some ⟨g, 0, none⟩) l := .inr ⟨g, 0, rfl, block_lt hcur, fun j x hx => by
          have hc := hown.cells (g := g) rfl j (.int .i32 x) (by unfold runes; rw [List.getElem?_map, hx]; rfl)
          rw [Lib.add_plain] at hc
          exact hc⟩
        clear hown htk hcur hcs
        go_wp2
        go_ret3
        exact ⟨some ⟨g, 0, none⟩, cap, rfl, hrs, hb2, HOL.out⟩
end Go.Proofs.YtgdambmineeboaaGreatDoor.Seq
