/- As BMergeG, and an operation knows what stands still as it was before the region: the places of those that come after it. -/
import Derived.Test.YtgdambmineeboaaGreatDoorBMergeD
import Derived.Test.YtgdambmineeboaaGreatDoorBOpen
import Derived.Test.YtgdambmineeboaaGreatDoorBCheckRef
import Derived.Deep.RegionHeldLaw
import Derived.Test.YtgdambmineeboaaGreatDoorBCheckAll
import Derived.Outline
set_option linter.unusedSimpArgs false
set_option linter.unusedVariables false
namespace Go.Proofs.YtgdambmineeboaaGreatDoor.MergeE
open Go Go.Proofs.YtgdambmineeboaaGreatDoor.Merge

section
variable {P : Program} {Q : Exit → Act → World → Prop} {md : Region.Mode}

/-- What is asked of one operation. -/
structure StepOf (P : Program) (md : Region.Mode) (Q : Exit → Act → World → Prop) (F : (Nat → Value) → Act) (V : Nat → (Nat → Value) → World → Prop) (D : Nat → List Nat) (I : World → Prop) (R : World → World → Prop) (vals0 : Nat → Value) (ops : Array Oper) (o : Oper) (i : Nat) : Prop where
  back : (o.after.toList.all fun e => decide (e.on < i)) = true
  dep : ∀ d ∈ D i, ∃ e ∈ o.after, e.on = d ∧ Region.binds md e = true
  put : ∀ vals v, (F vals).put o.dst v = F (upd vals i v)
  run : ∀ vals w, I w → (∀ e ∈ o.after, Region.binds md e = true → V e.on vals w) → (∀ j, (i ∈ D j ∨ ∃ k ∈ D j, i ∈ D k) → vals j = vals0 j) → ∀ K : Act → World → Prop, (∀ v w', V i (upd vals i v) w' → R w w' → K ((F vals).put o.dst v) w') → if Region.wanted o (yielded ops (F vals).tmps) then o.wp P (F vals) w K Q else K ((F vals).put o.dst undef) w

def AllSteps (P : Program) (md : Region.Mode) (Q : Exit → Act → World → Prop) (F : (Nat → Value) → Act) (V : Nat → (Nat → Value) → World → Prop) (D : Nat → List Nat) (I : World → Prop) (R : World → World → Prop) (vals0 : Nat → Value) (ops : Array Oper) : List Oper → Nat → Prop
  | [], _ => True
  | o :: l, k => MergeE.StepOf P md Q F V D I R vals0 ops o k ∧ MergeE.AllSteps P md Q F V D I R vals0 ops l (k + 1)
theorem AllSteps.nil {vals0 : Nat → Value} {ops : Array Oper} {F : (Nat → Value) → Act} {V : Nat → (Nat → Value) → World → Prop} {D : Nat → List Nat} {I : World → Prop} {R : World → World → Prop} {k : Nat} : MergeE.AllSteps P md Q F V D I R vals0 ops [] k := trivial
theorem AllSteps.cons {vals0 : Nat → Value} {ops : Array Oper} {F : (Nat → Value) → Act} {V : Nat → (Nat → Value) → World → Prop} {D : Nat → List Nat} {I : World → Prop} {R : World → World → Prop} {k : Nat} {o : Oper} {l : List Oper} (h : MergeE.StepOf P md Q F V D I R vals0 ops o k) (hl : MergeE.AllSteps P md Q F V D I R vals0 ops l (k + 1)) : MergeE.AllSteps P md Q F V D I R vals0 ops (o :: l) k := ⟨h, hl⟩
theorem AllSteps.at {vals0 : Nat → Value} {ops : Array Oper} {F : (Nat → Value) → Act} {V : Nat → (Nat → Value) → World → Prop} {D : Nat → List Nat} {I : World → Prop} {R : World → World → Prop} : ∀ {l : List Oper} {k j : Nat} {o : Oper}, MergeE.AllSteps P md Q F V D I R vals0 ops l k → l[j]? = some o → MergeE.StepOf P md Q F V D I R vals0 ops o (k + j)
  | [], _, _, _, _, h => by simp at h
  | _ :: _, _, 0, _, hs, h => by cases h; exact hs.1
  | _ :: l, k, j + 1, o, hs, h => by
    have := MergeE.AllSteps.at (j := j) (o := o) hs.2 (by simpa using h)
    rwa [show k + 1 + j = k + (j + 1) from by omega] at this

theorem merge {vals0 : Nat → Value} {l : List Oper} {F : (Nat → Value) → Act} {V : Nat → (Nat → Value) → World → Prop} {D : Nat → List Nat} {I : World → Prop} {R : World → World → Prop}
    (hS : MergeE.AllSteps P md Q F V D I R vals0 l.toArray l 0) (hV : ∀ i vals w w', V i vals w → R w w' → V i vals w') (hloc : ∀ i vals vals' w, (∀ j, j = i ∨ j ∈ D i → vals j = vals' j) → V i vals w → V i vals' w) (hI : ∀ w w', I w → R w w' → I w')
    (hdone : ∀ vals w, I w → (∀ i, i < l.length → V i vals w) → Q .normal (F vals) w) :
    ∀ (fuel : Nat) (listed : Array Bool) (vals : Nat → Value) (w : World), listed.size = l.length → unl l.length listed ≤ fuel → I w → (∀ i, listed.getD i false = true → V i vals w ∧ ∀ d ∈ D i, listed.getD d false = true) → (∀ i, listed.getD i false = false → vals i = vals0 i) → wpAny P md l.toArray Q fuel listed (F vals) w := by
  have hend : ∀ (listed : Array Bool) (vals : Nat → Value) (w : World), listed.size = l.length → I w → (∀ i, listed.getD i false = true → V i vals w) → Region.ready md l.toArray listed = [] → Q .normal (F vals) w := by
    intro listed vals w hsz hi hv hr
    have all : ∀ i, i < l.length → listed.getD i false = true := by
      intro i
      induction i using Nat.strongRecOn with
      | _ i ih =>
        intro hlt
        cases hc : listed.getD i false with
        | true => rfl
        | false =>
          exfalso
          obtain ⟨o, ho⟩ : ∃ o, l[i]? = some o := ⟨_, List.getElem?_eq_getElem hlt⟩
          have hst := hS.at ho
          rw [Nat.zero_add] at hst
          have : i ∈ Region.ready md l.toArray listed := by
            rw [mem_ready]
            refine ⟨?_, o, by simpa using ho, fun e he _ => ?_⟩
            · have hlt' : i < listed.size := by omega
              simp [hlt'] at hc ⊢
              exact hc
            · have h1 : e.on < i := by have := List.all_eq_true.1 hst.back e (by simpa using he); simpa using this
              exact ih e.on h1 (by omega)
          rw [hr] at this
          cases this
    exact hdone vals w hi fun i h => hv i (all i h)
  intro fuel
  induction fuel with
  | zero =>
    intro listed vals w hsz hu hi hv hun
    have hr : Region.ready md l.toArray listed = [] := by
      cases hr : Region.ready md l.toArray listed with
      | nil => rfl
      | cons i rs =>
        exfalso
        have hmem : i ∈ Region.ready md l.toArray listed := by rw [hr]; exact List.mem_cons_self ..
        obtain ⟨h0, o, ho, _⟩ := mem_ready.1 hmem
        have hlt : i < l.length := by
          have := (Array.getElem?_eq_some_iff.1 ho).1
          simpa using this
        have : i ∈ (List.range l.length).filter fun i => !listed.getD i true := List.mem_filter.2 ⟨List.mem_range.2 hlt, by rw [h0]; rfl⟩
        unfold unl at hu
        have hp := List.length_pos_of_mem this
        omega
    exact ⟨hr, hend listed vals w hsz hi (fun i h => (hv i h).1) hr⟩
  | succ fuel ih =>
    intro listed vals w hsz hu hi hv hun
    refine ⟨fun hr => hend listed vals w hsz hi (fun i h => (hv i h).1) hr, fun i hmem => ?_⟩
    obtain ⟨h0, o, ho, hall⟩ := mem_ready.1 hmem
    have hol : l[i]? = some o := by simpa using ho
    have hlt : i < l.length := (List.getElem?_eq_some_iff.1 hol).1
    have hst := hS.at hol
    rw [Nat.zero_add] at hst
    have hni : listed.getD i false = false := by
      have : i < listed.size := by omega
      simp [this] at h0 ⊢
      exact h0
    have hstill : ∀ j, (i ∈ D j ∨ ∃ k ∈ D j, i ∈ D k) → vals j = vals0 j := fun j hj => by
      cases hl : listed.getD j false with
      | false => exact hun j hl
      | true =>
        exfalso
        rcases hj with h | ⟨k, h1, h2⟩
        · have := (hv j hl).2 i h
          rw [hni] at this
          cases this
        · have hk := (hv j hl).2 k h1
          have := (hv k hk).2 i h2
          rw [hni] at this
          cases this
    have key : ∀ v w', V i (upd vals i v) w' → R w w' → wpAny P md l.toArray Q fuel (listed.setIfInBounds i true) ((F vals).put o.dst v) w' := by
      intro v w' hvi hr
      rw [hst.put]
      refine ih _ (upd vals i v) w' (by simpa using hsz) ?_ (hI w w' hi hr) ?_ ?_
      · have hlt2 : unl l.length (listed.setIfInBounds i true) < unl l.length listed := by
          unfold unl
          refine filter_less _ _ ?_ (List.mem_range.2 hlt) (by rw [h0]; rfl) ?_
          · intro x hx
            by_cases hxi : i = x
            · subst hxi; rw [h0]; rfl
            · rw [getD_set_ne true hxi] at hx; exact hx
          · have : i < listed.size := by omega
            simp [this]
        omega
      · have hkeep : ∀ j, listed.getD j false = true → (listed.setIfInBounds i true).getD j false = true := fun j hj => by
          by_cases hji : j = i
          · subst hji
            have : j < listed.size := by omega
            simp [this]
          · rw [getD_set_ne false (Ne.symm hji)]
            exact hj
        intro j hj
        by_cases hji : j = i
        · subst hji
          refine ⟨hvi, fun d hd => hkeep d ?_⟩
          obtain ⟨e, he, rfl, hbd⟩ := hst.dep d hd
          exact hall e he hbd
        · rw [getD_set_ne false (Ne.symm hji)] at hj
          obtain ⟨h1, h2⟩ := hv j hj
          have hni : listed.getD i false = false := by
            have : i < listed.size := by omega
            simp [this] at h0 ⊢
            exact h0
          refine ⟨hloc j vals _ w' (fun k hk => ?_) (hV j vals w w' h1 hr), fun d hd => hkeep d (h2 d hd)⟩
          have hki : k ≠ i := by
            rcases hk with rfl | hk
            · exact hji
            · intro e
              subst e
              rw [h2 k hk] at hni
              cases hni
          rw [upd_other vals v hki]
      · intro j hj
        by_cases hji : j = i
        · subst hji
          exfalso
          have : j < listed.size := by omega
          simp [this] at hj
        · rw [upd_other vals v hji]
          exact hun j (by rw [getD_set_ne false (Ne.symm hji)] at hj; exact hj)
    have hrun := hst.run vals w hi (fun e he hb => (hv e.on (hall e he hb)).1) hstill _ key
    unfold wpOp
    rw [ho]
    simp only
    by_cases hw : Region.wanted o (yielded l.toArray (F vals).tmps) = true
    · rw [if_pos hw] at hrun ⊢
      exact .inl hrun
    · rw [if_neg hw] at hrun ⊢
      exact hrun

theorem wp_region_merge {id : Nat} {l : List Oper} {a : Act} {w : World} (hm : P.follows .mixedOrders = true) (F : (Nat → Value) → Act) (V : Nat → (Nat → Value) → World → Prop) (D : Nat → List Nat) (I : World → Prop) (R : World → World → Prop) (vals0 : Nat → Value)
    (ha : a = F vals0) (hV : ∀ i vals w w', V i vals w → R w w' → V i vals w') (hloc : ∀ i vals vals' w, (∀ j, j = i ∨ j ∈ D i → vals j = vals' j) → V i vals w → V i vals' w) (hI : ∀ w w', I w → R w w' → I w') (h0 : I w.drew) (hS : MergeE.AllSteps P .any Q F V D I R vals0 l.toArray l 0)
    (hdone : ∀ vals w, I w → (∀ i, i < l.length → V i vals w) → Q .normal (F vals) w) : (Code.region id l.toArray true).wp P Q a w := by
  subst ha
  refine wp_region_any hm ?_
  refine MergeE.merge hS hV hloc hI hdone _ _ vals0 _ (by simp) ?_ h0 ?_ (fun _ _ => rfl)
  · unfold unl
    have := List.length_filter_le (fun i => !(Array.replicate l.toArray.size false).getD i true) (List.range l.length)
    simpa using this
  · intro i hi
    exfalso
    by_cases h : i < (Array.replicate l.toArray.size false).size
    · simp at h
      simp [h] at hi
    · simp at h
      simp [h] at hi
end
end Go.Proofs.YtgdambmineeboaaGreatDoor.MergeE

/- The walk of the reference's Print. -/
namespace Go.Proofs.YtgdambmineeboaaGreatDoor.RefText
open Go.RowKit Go.Lib Go.Proofs.YtgdambmineeboaaGreatDoor.Text Go.Proofs.YtgdambmineeboaaGreatDoor.Runes Go.Proofs.YtgdambmineeboaaGreatDoor.Print Go.Proofs.YtgdambmineeboaaGreatDoor.RefNine Go.Proofs.YtgdambmineeboaaGreatDoor.RefPrint Go.Proofs.YtgdambmineeboaaGreatDoor.Format Go.Proofs.YtgdambmineeboaaGreatDoor.Tell Go.Proofs.YtgdambmineeboaaGreatDoor.Given Go.Proofs.YtgdambmineeboaaGreatDoor.Mem Go.Proofs.YtgdambmineeboaaGreatDoor.Book Go.Proofs.YtgdambmineeboaaGreatDoor.Fine Go.Proofs.YtgdambmineeboaaGreatDoor.Long Go.Proofs.YtgdambmineeboaaGreatDoor.WholeRef Go.Proofs.YtgdambmineeboaaGreatDoor.Told Go.Proofs.YtgdambmineeboaaGreatDoor.Listed Go.Proofs.YtgdambmineeboaaGreatDoor.CheckRef Go.Proofs.YtgdambmineeboaaGreatDoor.Lines10 Go.Proofs.YtgdambmineeboaaGreatDoor.Dirs Go.Proofs.YtgdambmineeboaaGreatDoor.CheckAll Go.Proofs.YtgdambmineeboaaGreatDoor.Touch
def part (B : Mem.Book) : Nat → List UInt8
  | 0 => B.status.flatMap staT
  | 1 => B.maps.flatMap (listT kMapped)
  | 2 => B.cls.flatMap (valT kClass fun n => Lib.decDigits n.toNat)
  | 3 => B.decomp.flatMap (listT kDecomposed)
  | 4 => B.excl.flatMap (spnT kExcluded)
  | 5 => B.bidi.flatMap (valT kBidi (nameAt dirs))
  | 6 => B.join.flatMap (valT kJoining (nameAt joins))
  | 7 => B.marks.flatMap (spnT kMark)
  | 8 => B.script.flatMap (valT kScript fun n => nameAt B.names (n - 1))
  | 9 => B.like.flatMap (listT kLike)
  | _ => []
/-- The text of a book, up to a list. -/
def txt (B : Mem.Book) : Nat → List UInt8
  | 0 => []
  | k + 1 => txt B k ++ part B k

theorem dec_le (n : Nat) (h : n < 1000) : (⟨(Lib.decDigits n).toArray⟩ : ByteArray).size ≤ 100 := by
  show (Lib.decDigits n).length ≤ 100
  rw [Lib.decDigits]
  split
  · simp
  · rw [Lib.decDigits]
    split
    · simp
    · rw [Lib.decDigits]
      split
      · simp
      · omega
theorem dirs_small : ∀ d ∈ dirs, d.size ≤ 100 := by decide
theorem joins_small : ∀ d ∈ joins, d.size ≤ 100 := by decide
theorem name_small {l : List ByteArray} (h : NamesAll.OkNames l) {i : Nat} {s : ByteArray} (hs : l[i]? = some s) : s.size ≤ 100 := by
  obtain ⟨t, ht, hb, _⟩ := h.2 i (List.getElem?_eq_some_iff.1 hs).1
  rw [hs] at ht
  cases ht
  unfold Names.nameB at hb
  simp only [Bool.and_eq_true, decide_eq_true_eq] at hb
  omega
abbrev VV := (Nat → Value) → World → Prop
/-- The four kinds of a status, as the program lays them. -/
def kinds : Obj := .cells #[.string ⟨#[]⟩, .string ⟨#[118, 97, 108, 105, 100]⟩, .string ⟨#[105, 103, 110, 111, 114, 101, 100]⟩, .string ⟨#[100, 101, 118, 105, 97, 116, 105, 111, 110]⟩] 9 (0, 0)
def vC (i : Nat) (x : Value) : VV := fun vs _ => vs i = x
def vT (i : Nat) (l : List UInt8) : VV := fun vs _ => ∃ s : ByteArray, vs i = .string s ∧ s.data.toList = l
def vA (i : Nat) : VV := fun vs W => ∃ g, vs i = .slice (some ⟨g, 0, none⟩) 4 4 ∧ W.heap[g]? = some kinds
def vP (i n : Nat) : VV := fun vs W => ∃ g, vs i = .pointer (some ⟨g, n, none⟩) ∧ W.heap[g]? = some kinds
def Keeps (R : World → World → Prop) (i : Nat) (v : VV) : Prop := (∀ vs W W', v vs W → R W W' → v vs W') ∧ ∀ vs vs' W, (∀ j, j = i ∨ j ∈ ([] : List Nat) → vs j = vs' j) → v vs W → v vs' W
section
variable {R : World → World → Prop}
theorem gC (i : Nat) (x : Value) : Keeps R i (vC i x) := ⟨fun _ _ _ h _ => h, fun vs vs' _ h e => by unfold vC at *; rw [← h i (.inl rfl)]; exact e⟩
theorem gT (i : Nat) (l : List UInt8) : Keeps R i (vT i l) := ⟨fun _ _ _ h _ => h, fun vs vs' _ h e => by unfold vT at *; rw [← h i (.inl rfl)]; exact e⟩
theorem gA (hR : ∀ (W W' : World) (g : Nat), R W W' → W.heap[g]? = some kinds → W'.heap[g]? = some kinds) (i : Nat) : Keeps R i (vA i) := ⟨fun _ _ _ ⟨g, h1, h2⟩ hr => ⟨g, h1, hR _ _ g hr h2⟩, fun vs vs' _ h e => by unfold vA at *; rw [← h i (.inl rfl)]; exact e⟩
theorem gP (hR : ∀ (W W' : World) (g : Nat), R W W' → W.heap[g]? = some kinds → W'.heap[g]? = some kinds) (i n : Nat) : Keeps R i (vP i n) := ⟨fun _ _ _ ⟨g, h1, h2⟩ hr => ⟨g, h1, hR _ _ g hr h2⟩, fun vs vs' _ h e => by unfold vP at *; rw [← h i (.inl rfl)]; exact e⟩
def AllKeep (R : World → World → Prop) : List VV → Nat → Prop
  | [], _ => True
  | v :: l, k => Keeps R k v ∧ AllKeep R l (k + 1)
theorem keep_at : ∀ {l : List VV} {k : Nat} (i : Nat), AllKeep R l k → Keeps R (k + i) (l.getD i (fun _ _ => True))
  | [], k, i, _ => by rw [show ([] : List VV).getD i (fun _ _ => True) = fun _ _ => True from by simp]; exact ⟨fun _ _ _ _ _ => trivial, fun _ _ _ _ _ => trivial⟩
  | v :: l, k, 0, h => h.1
  | v :: l, k, i + 1, h => by
    have := keep_at i h.2
    rw [show k + 1 + i = k + (i + 1) from by omega] at this
    simpa using this
end
def dOf (i : Nat) : List Nat := if i = 15 then [14] else if i = 14 then [0] else []
def belowR (W W' : World) : Prop := Below W.heap.size W W'
theorem belowR_kinds (W W' : World) (g : Nat) (h : belowR W W') (hk : W.heap[g]? = some kinds) : W'.heap[g]? = some kinds := ((show Below W.heap.size W W' from h).block g (block_lt hk)).trans hk
def predsT (n0 n : Nat) (xa xb : Int) (s K a : List UInt8) : List VV := [
  vT 0 s, vA 1, vC 2 (.pointer (some ⟨n0, 2, none⟩)), vC 3 (.int .i64 n), vP 4 n, vT 5 K, vT 6 (K ++ [59, 32]), vC 7 (.pointer (some ⟨n0, 0, none⟩)), vC 8 (.int .i32 xa), vC 9 (.pointer (some ⟨n0, 1, none⟩)), vC 10 (.int .i32 xb), vT 11 a, vT 12 (K ++ [59, 32] ++ a), vT 13 (K ++ [59, 32] ++ a ++ [10]), vT 14 (s ++ (K ++ [59, 32] ++ a ++ [10])), vT 15 (s ++ (K ++ [59, 32] ++ a ++ [10]))]
theorem predsT_keep (n0 n : Nat) (xa xb : Int) (s K a : List UInt8) : AllKeep belowR (predsT n0 n xa xb s K a) 0 :=
  ⟨gT _ _, ⟨gA belowR_kinds _, ⟨gC _ _, ⟨gC _ _, ⟨gP belowR_kinds _ _, ⟨gT _ _, ⟨gT _ _, ⟨gC _ _, ⟨gC _ _, ⟨gC _ _, ⟨gC _ _, ⟨gT _ _, ⟨gT _ _, ⟨gT _ _, ⟨gT _ _, ⟨gT _ _, trivial⟩⟩⟩⟩⟩⟩⟩⟩⟩⟩⟩⟩⟩⟩⟩⟩

def vD (i n : Nat) (L : List ByteArray) : VV := fun vs W => ∃ b1 o1 c, vs i = .slice (some ⟨b1, o1, none⟩) n c ∧ ∀ k d, L[k]? = some d → W.cell? ⟨b1, o1 + k, none⟩ = some (.string d)
def vQ (i n : Nat) (d : ByteArray) : VV := fun vs W => ∃ b1 o1, vs i = .pointer (some ⟨b1, o1 + n, none⟩) ∧ W.cell? ⟨b1, o1 + n, none⟩ = some (.string d)
theorem gD (i n : Nat) (L : List ByteArray) : Keeps belowR i (vD i n L) := ⟨fun _ _ _ ⟨b1, o1, c, h1, h2⟩ hr => ⟨b1, o1, c, h1, fun k d hk => ((show Below _ _ _ from hr).cell (p := ⟨b1, o1 + k, none⟩) (cell_lt (h2 k d hk))).trans (h2 k d hk)⟩, fun vs vs' _ h e => by unfold vD at *; rw [← h i (.inl rfl)]; exact e⟩
theorem gQ (i n : Nat) (d : ByteArray) : Keeps belowR i (vQ i n d) := ⟨fun _ _ _ ⟨b1, o1, h1, h2⟩ hr => ⟨b1, o1, h1, ((show Below _ _ _ from hr).cell (p := ⟨b1, o1 + n, none⟩) (cell_lt h2)).trans h2⟩, fun vs vs' _ h e => by unfold vQ at *; rw [← h i (.inl rfl)]; exact e⟩
def predsD (n0 nn : Nat) (xa xb : Int) (s K a : List UInt8) (N : Nat) (L : List ByteArray) (d : ByteArray) : List VV := [
  vT 0 s, vC 1 (.pointer (some ⟨n0, 0, none⟩)), vC 2 (.int .i32 xa), vC 3 (.pointer (some ⟨n0, 1, none⟩)), vC 4 (.int .i32 xb), vT 5 a, vT 6 (K ++ a), vT 7 (K ++ a ++ [59, 32]), vD 8 N L, vC 9 (.pointer (some ⟨n0, 2, none⟩)), vC 10 (.int .i64 nn), vQ 11 nn d, vC 12 (.string d), vT 13 (K ++ a ++ [59, 32] ++ d.data.toList), vT 14 (K ++ a ++ [59, 32] ++ d.data.toList ++ [10]), vT 15 (s ++ (K ++ a ++ [59, 32] ++ d.data.toList ++ [10])), vT 16 (s ++ (K ++ a ++ [59, 32] ++ d.data.toList ++ [10]))]
theorem predsD_keep (n0 nn : Nat) (xa xb : Int) (s K a : List UInt8) (N : Nat) (L : List ByteArray) (d : ByteArray) : AllKeep belowR (predsD n0 nn xa xb s K a N L d) 0 :=
  ⟨gT _ _, ⟨gC _ _, ⟨gC _ _, ⟨gC _ _, ⟨gC _ _, ⟨gT _ _, ⟨gT _ _, ⟨gT _ _, ⟨gD _ _ _, ⟨gC _ _, ⟨gC _ _, ⟨gQ _ _ _, ⟨gC _ _, ⟨gT _ _, ⟨gT _ _, ⟨gT _ _, ⟨gT _ _, trivial⟩⟩⟩⟩⟩⟩⟩⟩⟩⟩⟩⟩⟩⟩⟩⟩⟩
def dOfD (i : Nat) : List Nat := if i = 16 then [15] else if i = 15 then [0] else []

set_option maxRecDepth 100000 in
set_option maxHeartbeats 16000000 in
theorem refText_any (B : Mem.Book) (A : Ads) (w : World) (hs : Small B) (hL : Lies w B A) (hcn : B.names.length ≤ A.nc) (hcd : B.decomp.length ≤ A.dc) :
    Calls Tryz.prog 7 #[bookV B A] w fun e w' => ((Fine B ∧ ∃ s : ByteArray, e = .returned (.tuple #[.string s, .int .i64 0]) ∧ s.data.toList = txt B 10) ∨ (¬ Fine B ∧ e = .returned (.tuple #[.string ⟨#[]⟩, .int .i64 100]))) ∧ Below w.heap.size w w' := by
  have HC := Lib.hid (fun W (hW : Below w.heap.size w W) => check_any B A W hs (hL.below hW) hcn hcd)
  have HL := Lib.hid hL
  unfold bookV at HC ⊢
  have HB0 := Lib.hid ((Below.refl w.heap.size w).alloc (Nat.le_refl _) (boxCells B A))
  have hbx0 := Lib.hid (heap_alloc_new w (boxCells B A))
  have hlw0 : Hid (w.heap.size < (w.alloc (boxCells B A)).heap.size) := Lib.hid (by simp)
  unfold boxCells at HB0 hbx0 hlw0
  clear hs hL hcn hcd
  go_enter Tryz.func7, Tryz.ntmps7
  go_wp2_with fail
  refine (HC.out _ HB0.out).mono ?_
  rintro e w1 ⟨⟨hf, rfl⟩ | ⟨hf, l, at1, rfl⟩, hb1⟩
  rotate_left
  · have hbW1 : Below w.heap.size w w1 := HB0.out.trans (hb1.mono HB0.out.size)
    have HF := Lib.hid hf
    clear hf
    go_wp2_with fail
    go_ret2
    exact ⟨.inr ⟨HF.out, rfl⟩, hbW1⟩
  · have hx1 := Lib.hid ((hb1.block _ hlw0.out).trans hbx0.out)
    have hbW1 : Below w.heap.size w w1 := HB0.out.trans (hb1.mono HB0.out.size)
    have HG := Lib.hid (good_of hf)
    have HF := Lib.hid hf
    have hlw1 : w.heap.size < w1.heap.size := Nat.lt_of_lt_of_le hlw0.out hb1.size
    have HL1 := Lib.hid (HL.out.below hbW1)
    clear hb1 hf HC HB0 hbx0 HL hlw0
    have k1 : w1.cell? ⟨w.heap.size, 1, none⟩ = some (.slice A.sa B.status.length A.sc) := (block_cell (i := 1) hx1.out).trans rfl
    have hls := HG.out.s.1
    go_wp2_with fail
    clear k1
    go_loopw [7, 33] (fun u v w' => ∃ (i : Nat) (s : ByteArray), v = .int .i64 i ∧ u = .string s ∧ i ≤ B.status.length ∧ s.size ≤ 13107200 * 0 + 200 * i ∧ Hid (s.data.toList = txt B 0 ++ (B.status.take i).flatMap staT) ∧ Below w1.heap.size w1 w') (fun _ v _ => B.status.length - (intOf v).toNat)
    case atStart => exact ⟨0, _, rfl, rfl, Nat.zero_le _, by decide, Lib.hid rfl, Below.refl _ _⟩
    case round =>
      obtain ⟨i, s, rfl, rfl, hi, hs, hh, hb⟩ := hrel
      have hsz : w1.heap.size ≤ wr.heap.size := hb.size
      by_cases hlt : i < B.status.length
      · obtain ⟨x, hx⟩ : ∃ x, B.status[i]? = some x := ⟨_, List.getElem?_eq_getElem hlt⟩
        rcases HL1.out.s.below hb with h0 | ⟨bk, o, had, hbk, hc⟩
        · rw [h0] at hlt; simp at hlt
        obtain ⟨q0, q1, q2⟩ := vals_at (hc i x hx)
        rw [had]
        obtain ⟨⟨hp1, hp2, hp3⟩, hn1, hn2⟩ := HG.out.s.2 x (List.mem_of_getElem? hx)
        have HSP := Lib.hid (fun W => spanned_any x.a x.b W ⟨by omega, by omega⟩ ⟨by omega, by omega⟩)
        have HSN := Lib.hid (flatMap_snoc staT B.status i x hx)
        have hal : (⟨(atL x.a x.b).toArray⟩ : ByteArray).size ≤ 14 := atL_le x.a x.b
        generalize hga : (⟨(atL x.a x.b).toArray⟩ : ByteArray) = at1 at *
        have HAT : Hid (at1.data.toList = atL x.a x.b) := Lib.hid (by rw [← hga])
        have hcs : x.n = 1 ∨ x.n = 2 ∨ x.n = 3 := by omega
        have hs2 : s.size ≤ 13107200 := by omega
        obtain ⟨xa, xb, xn⟩ := x
        dsimp only at q0 q1 q2 HSP HAT hcs
        have hbxr := (heap_alloc_new wr (.cells #[.int .i32 xa, .int .i32 xb, .int .i64 xn] 75 (0, 0)))
        have HB2 := Lib.hid (hb.alloc hb.size (.cells #[.int .i32 xa, .int .i32 xb, .int .i64 xn] 75 (0, 0)))
        have c0 : (wr.alloc (.cells #[.int .i32 xa, .int .i32 xb, .int .i64 xn] 75 (0, 0))).cell? ⟨wr.heap.size, 0, none⟩ = some (.int .i32 xa) := (block_cell (i := 0) hbxr).trans rfl
        have c1 : (wr.alloc (.cells #[.int .i32 xa, .int .i32 xb, .int .i64 xn] 75 (0, 0))).cell? ⟨wr.heap.size, 1, none⟩ = some (.int .i32 xb) := (block_cell (i := 1) hbxr).trans rfl
        have c2 : (wr.alloc (.cells #[.int .i32 xa, .int .i32 xb, .int .i64 xn] 75 (0, 0))).cell? ⟨wr.heap.size, 2, none⟩ = some (.int .i64 xn) := (block_cell (i := 2) hbxr).trans rfl
        clear hc hx hga hbxr hp1 hp2 hp3 hn1 hn2 hlw1
        rcases hcs with rfl | rfl | rfl
        · go_wp2_with fail
          clear q0 q1 q2
          have hbxr' : Hid ((wr.alloc (.cells #[.int .i32 xa, .int .i32 xb, .int .i64 1] 75 (0, 0))).drew.heap[wr.heap.size]? = some (.cells #[.int .i32 xa, .int .i32 xb, .int .i64 1] 75 (0, 0))) := Lib.hid (heap_alloc_new wr _)
          refine MergeE.wp_region_merge (by kernel_rfl) (fun vals => { tmps := #[.agg #[.slice A.na B.names.length A.nc, .slice (some ⟨bk, o, none⟩) B.status.length A.sc, .slice A.ma B.maps.length A.mc, .slice A.ka B.cls.length A.kc, .slice A.da B.decomp.length A.dc, .slice A.xa B.excl.length A.xc, .slice A.ba B.bidi.length A.bc, .slice A.ja B.join.length A.jc, .slice A.qa B.marks.length A.qc, .slice A.ra B.script.length A.rc, .slice A.la B.like.length A.lc], .pointer (some ⟨w.heap.size, 0, none⟩), .string ⟨#[]⟩, .int .i64 0, .int .i64 0, .int .i64 0, .int .i64 0, vals 15, undef, .pointer (some ⟨wr.heap.size, 0, none⟩), undef, undef, undef, undef, undef, undef, undef, undef, undef, undef, undef, undef, .tuple #[.int .i64 0, .int .i64 0, .int .i64 0], .agg #[.slice A.na B.names.length A.nc, .slice (some ⟨bk, o, none⟩) B.status.length A.sc, .slice A.ma B.maps.length A.mc, .slice A.ka B.cls.length A.kc, .slice A.da B.decomp.length A.dc, .slice A.xa B.excl.length A.xc, .slice A.ba B.bidi.length A.bc, .slice A.ja B.join.length A.jc, .slice A.qa B.marks.length A.qc, .slice A.ra B.script.length A.rc, .slice A.la B.like.length A.lc], .tuple #[.int .i64 0, .int .i64 0, .int .i64 0], .int .i64 0, .int .i64 0, .int .i64 0, .int .i64 0, .bool false, .pointer (some ⟨w.heap.size, 1, none⟩), .slice (some ⟨bk, o, none⟩) B.status.length A.sc, .int .i64 B.status.length, .int .i64 i, .bool true, .pointer (some ⟨bk, o + i * 3, none⟩), .agg #[.int .i32 xa, .int .i32 xb, .int .i64 1], vals 0, vals 1, vals 2, vals 3, vals 4, vals 5, vals 6, vals 7, vals 8, vals 9, vals 10, vals 11, vals 12, vals 13, vals 14, u52, undef, undef, undef, undef, undef, undef, undef, undef, undef, undef, undef, undef, undef, undef, undef, undef, undef, undef, undef, undef, undef, undef, undef, undef, undef, undef, undef, undef, undef, undef, undef, undef, undef, undef, undef, undef, undef, undef, undef, undef, undef, undef, undef, undef, undef, undef, undef, undef, undef, undef, undef, undef, undef, undef, undef, undef, undef, undef, undef, undef, undef, undef, undef, undef, undef, undef, undef, undef, undef, undef, undef, undef, undef, undef, undef, undef, undef, undef, undef, undef, undef, undef, undef, undef, undef, undef, undef, undef, undef, undef, undef, undef, undef, undef, undef, undef, undef, undef, undef, undef, undef, undef, undef, undef, undef, undef, undef, undef, undef, undef, undef, undef, undef, undef, undef, undef, undef, undef, undef, undef, undef, undef, undef, undef, undef, undef, undef, undef, undef, undef, undef, undef, undef, undef, undef, undef, undef, undef, undef, undef, undef, undef, undef, undef, undef], defers := [] }) (fun j => (predsT wr.heap.size 1 xa xb s.data.toList [118, 97, 108, 105, 100] (atL xa xb)).getD j (fun _ _ => True)) dOf (fun W => Below w1.heap.size w1 W ∧ W.heap[wr.heap.size]? = some (.cells #[.int .i32 xa, .int .i32 xb, .int .i64 1] 75 (0, 0))) belowR (fun j => [u37, u38, u39, u40, u41, u42, u43, u44, u45, u46, u47, u48, u49, u50, u51, .string s].getD j undef) rfl
            (fun j vs W W' hh hb => by have := (keep_at j (predsT_keep wr.heap.size 1 xa xb s.data.toList [118, 97, 108, 105, 100] (atL xa xb))).1 vs W W'; exact this hh hb)
            (fun j vs vs' W hh hv => by have := (keep_at j (predsT_keep wr.heap.size 1 xa xb s.data.toList [118, 97, 108, 105, 100] (atL xa xb))).2 vs vs' W; rw [Nat.zero_add] at this; exact this (fun k hk => hh k (by rcases hk with h | h; exact .inl h; cases h)) hv)
            (fun W W' hh hb => ⟨hh.1.trans (hb.mono hh.1.size), (hb.block _ (block_lt hh.2)).trans hh.2⟩) ⟨HB2.out.drew, hbxr'.out⟩ ?hS ?hD
          case hS =>
            refine MergeE.AllSteps.cons ⟨by rfl, by intro d hd; simp [dOf] at hd, fun _ _ => rfl, fun vals W hi hd hu K hK => ?_⟩ ?_
            · rw [if_pos (by rfl)]
              have e15 : vals 15 = .string s := (hu 15 (.inr ⟨14, by simp [dOf], by simp [dOf]⟩)).trans rfl
              simp only [e15] at hK
              go_simp
              exact hK _ _ ⟨s, Merge.upd_same _ _ _, rfl⟩ (Below.refl _ _)
            refine MergeE.AllSteps.cons ⟨by rfl, by intro d hd; simp [dOf] at hd, fun _ _ => rfl, fun vals W hi hd hu K hK => ?_⟩ ?_
            · rw [if_pos (by rfl)]
              go_simp
              exact hK _ _ ⟨W.heap.size, Merge.upd_same _ _ _, heap_alloc_new W _⟩ ((Below.refl _ _).alloc (Nat.le_refl _) _)
            refine MergeE.AllSteps.cons ⟨by rfl, by intro d hd; simp [dOf] at hd, fun _ _ => rfl, fun vals W hi hd hu K hK => ?_⟩ ?_
            · rw [if_pos (by rfl)]
              go_simp
              exact hK _ _ (Merge.upd_same _ _ _) (Below.refl _ _)
            refine MergeE.AllSteps.cons ⟨by rfl, by intro d hd; simp [dOf] at hd, fun _ _ => rfl, fun vals W hi hd hu K hK => ?_⟩ ?_
            · rw [if_pos (by rfl)]
              have e2 : vals 2 = .pointer (some ⟨wr.heap.size, 2, none⟩) := hd ⟨2, .data⟩ (by simp) rfl
              have kk : W.cell? ⟨wr.heap.size, 2, none⟩ = some (.int .i64 1) := (block_cell (i := 2) hi.2).trans rfl
              simp only [e2] at hK
              go_simp
              exact hK _ _ (Merge.upd_same _ _ _) (Below.refl _ _)
            refine MergeE.AllSteps.cons ⟨by rfl, by intro d hd; simp [dOf] at hd, fun _ _ => rfl, fun vals W hi hd hu K hK => ?_⟩ ?_
            · rw [if_pos (by rfl)]
              obtain ⟨g, e1, hg⟩ := hd ⟨1, .data⟩ (by simp) rfl
              have e3 : vals 3 = .int .i64 1 := hd ⟨3, .data⟩ (by simp) rfl
              simp only [e1, e3] at hK
              go_simp
              exact hK _ _ ⟨g, Merge.upd_same _ _ _, hg⟩ (Below.refl _ _)
            refine MergeE.AllSteps.cons ⟨by rfl, by intro d hd; simp [dOf] at hd, fun _ _ => rfl, fun vals W hi hd hu K hK => ?_⟩ ?_
            · rw [if_pos (by rfl)]
              obtain ⟨g, e4, hg⟩ := hd ⟨4, .data⟩ (by simp) rfl
              have kk : W.cell? ⟨g, 1, none⟩ = some (.string ⟨#[118, 97, 108, 105, 100]⟩) := (block_cell (i := 1) hg).trans rfl
              simp only [e4] at hK
              go_simp
              exact hK _ _ ⟨⟨#[118, 97, 108, 105, 100]⟩, Merge.upd_same _ _ _, rfl⟩ (Below.refl _ _)
            refine MergeE.AllSteps.cons ⟨by rfl, by intro d hd; simp [dOf] at hd, fun _ _ => rfl, fun vals W hi hd hu K hK => ?_⟩ ?_
            · rw [if_pos (by rfl)]
              obtain ⟨s5, e5, h5⟩ := hd ⟨5, .data⟩ (by simp) rfl
              have z5 : s5.size ≤ 20 := by have := size_data s5; rw [h5] at this; simp at this; omega
              simp only [e5] at hK
              go_simp
              try rw [if_neg (show ¬ 9223372036854775807 < s5.size + 2 by omega)]
              try go_simp
              exact hK _ _ ⟨s5 ++ ⟨#[59, 32]⟩, Merge.upd_same _ _ _, by have h := Go.Joins.data_append s5 ⟨#[59, 32]⟩; rw [h5] at h; exact h⟩ (Below.refl _ _)
            refine MergeE.AllSteps.cons ⟨by rfl, by intro d hd; simp [dOf] at hd, fun _ _ => rfl, fun vals W hi hd hu K hK => ?_⟩ ?_
            · rw [if_pos (by rfl)]
              go_simp
              exact hK _ _ (Merge.upd_same _ _ _) (Below.refl _ _)
            refine MergeE.AllSteps.cons ⟨by rfl, by intro d hd; simp [dOf] at hd, fun _ _ => rfl, fun vals W hi hd hu K hK => ?_⟩ ?_
            · rw [if_pos (by rfl)]
              have e7 : vals 7 = .pointer (some ⟨wr.heap.size, 0, none⟩) := hd ⟨7, .data⟩ (by simp) rfl
              have kk : W.cell? ⟨wr.heap.size, 0, none⟩ = some (.int .i32 xa) := (block_cell (i := 0) hi.2).trans rfl
              simp only [e7] at hK
              go_simp
              exact hK _ _ (Merge.upd_same _ _ _) (Below.refl _ _)
            refine MergeE.AllSteps.cons ⟨by rfl, by intro d hd; simp [dOf] at hd, fun _ _ => rfl, fun vals W hi hd hu K hK => ?_⟩ ?_
            · rw [if_pos (by rfl)]
              go_simp
              exact hK _ _ (Merge.upd_same _ _ _) (Below.refl _ _)
            refine MergeE.AllSteps.cons ⟨by rfl, by intro d hd; simp [dOf] at hd, fun _ _ => rfl, fun vals W hi hd hu K hK => ?_⟩ ?_
            · rw [if_pos (by rfl)]
              have e9 : vals 9 = .pointer (some ⟨wr.heap.size, 1, none⟩) := hd ⟨9, .data⟩ (by simp) rfl
              have kk : W.cell? ⟨wr.heap.size, 1, none⟩ = some (.int .i32 xb) := (block_cell (i := 1) hi.2).trans rfl
              simp only [e9] at hK
              go_simp
              exact hK _ _ (Merge.upd_same _ _ _) (Below.refl _ _)
            refine MergeE.AllSteps.cons ⟨by rfl, by intro d hd; simp [dOf] at hd, fun _ _ => rfl, fun vals W hi hd hu K hK => ?_⟩ ?_
            · rw [if_pos (by rfl)]
              have e8 : vals 8 = .int .i32 xa := hd ⟨8, .data⟩ (by simp) rfl
              have e10 : vals 10 = .int .i32 xb := hd ⟨10, .data⟩ (by simp) rfl
              simp only [e8, e10] at hK
              go_simp
              refine (HSP.out _).mono ?_
              rintro e wn ⟨rfl, hbn⟩
              exact hK _ _ ⟨at1, Merge.upd_same _ _ _, HAT.out⟩ hbn
            refine MergeE.AllSteps.cons ⟨by rfl, by intro d hd; simp [dOf] at hd, fun _ _ => rfl, fun vals W hi hd hu K hK => ?_⟩ ?_
            · rw [if_pos (by rfl)]
              obtain ⟨s6, e6, h6⟩ := hd ⟨6, .data⟩ (by simp) rfl
              obtain ⟨s11, e11, h11⟩ := hd ⟨11, .data⟩ (by simp) rfl
              have z6 : s6.size ≤ 30 := by have := size_data s6; rw [h6] at this; simp at this; omega
              have z11 : s11.size ≤ 14 := by have := size_data s11; have h := size_data at1; rw [h11, ← HAT.out] at this; omega
              simp only [e6, e11] at hK
              go_simp
              try rw [if_neg (show ¬ 9223372036854775807 < s6.size + s11.size by omega)]
              try go_simp
              exact hK _ _ ⟨s6 ++ s11, Merge.upd_same _ _ _, by have h := Go.Joins.data_append s6 s11; rw [h6, h11] at h; exact h⟩ (Below.refl _ _)
            refine MergeE.AllSteps.cons ⟨by rfl, by intro d hd; simp [dOf] at hd, fun _ _ => rfl, fun vals W hi hd hu K hK => ?_⟩ ?_
            · rw [if_pos (by rfl)]
              obtain ⟨s12, e12, h12⟩ := hd ⟨12, .data⟩ (by simp) rfl
              have z12 : s12.size ≤ 60 := by have := size_data s12; have h := size_data at1; rw [HAT.out] at h; rw [h12] at this; simp at this; omega
              simp only [e12] at hK
              go_simp
              try rw [if_neg (show ¬ 9223372036854775807 < s12.size + 1 by omega)]
              try go_simp
              exact hK _ _ ⟨s12 ++ ⟨#[10]⟩, Merge.upd_same _ _ _, by have h := Go.Joins.data_append s12 ⟨#[10]⟩; rw [h12] at h; exact h⟩ (Below.refl _ _)
            refine MergeE.AllSteps.cons ⟨by rfl, by intro d hd; simp [dOf] at hd; subst hd; exact ⟨⟨0, .data⟩, by simp, rfl, rfl⟩, fun _ _ => rfl, fun vals W hi hd hu K hK => ?_⟩ ?_
            · rw [if_pos (by rfl)]
              obtain ⟨s0, e0, h0⟩ := hd ⟨0, .data⟩ (by simp) rfl
              obtain ⟨s13, e13, h13⟩ := hd ⟨13, .data⟩ (by simp) rfl
              have z13 : s13.size ≤ 70 := by have := size_data s13; have h := size_data at1; rw [HAT.out] at h; rw [h13] at this; simp at this; omega
              have z0 : s0.size ≤ 13107200 := by have := size_data s0; have h := size_data s; rw [h0] at this; omega
              simp only [e0, e13] at hK
              go_simp
              try rw [if_neg (show ¬ 9223372036854775807 < s0.size + s13.size by omega)]
              try go_simp
              exact hK _ _ ⟨s0 ++ s13, Merge.upd_same _ _ _, by have h := Go.Joins.data_append s0 s13; rw [h0, h13] at h; exact h⟩ (Below.refl _ _)
            refine MergeE.AllSteps.cons ⟨by rfl, by intro d hd; simp [dOf] at hd; subst hd; exact ⟨⟨14, .data⟩, by simp, rfl, rfl⟩, fun _ _ => rfl, fun vals W hi hd hu K hK => ?_⟩ ?_
            · rw [if_pos (by rfl)]
              obtain ⟨s14, e14, h14⟩ := hd ⟨14, .data⟩ (by simp) rfl
              simp only [e14] at hK
              go_simp
              exact hK _ _ ⟨s14, Merge.upd_same _ _ _, h14⟩ (Below.refl _ _)
            exact MergeE.AllSteps.nil
          case hD =>
            intro vals W hi hv
            obtain ⟨s15, e15, h15⟩ := hv 15 (by simp)
            have HI := Lib.hid hi.1
            have HT15 := Lib.hid h15
            have hat14 := hal
            clear hv h15 hi
            simp only [e15]
            go_wp2_with fail
            go_roundw
            case rel =>
              have z15 : s15.size = s.size + (5 + 2 + (atL xa xb).length + 1) := by
                rw [← size_data s15, HT15.out, ← size_data s]
                simp only [List.length_append, List.length_cons, List.length_nil]
              have za : at1.size = (atL xa xb).length := by rw [← size_data at1, HAT.out]
              exact ⟨i + 1, s15, by go_num, rfl, by omega, by omega, Lib.hid (by
                rw [HT15.out, hh.out, HSN.out, List.append_assoc]
                rfl), HI.out⟩
            case measure => simp [intOf]; omega
        · go_wp2_with fail
          clear q0 q1 q2
          have hbxr' : Hid ((wr.alloc (.cells #[.int .i32 xa, .int .i32 xb, .int .i64 2] 75 (0, 0))).drew.heap[wr.heap.size]? = some (.cells #[.int .i32 xa, .int .i32 xb, .int .i64 2] 75 (0, 0))) := Lib.hid (heap_alloc_new wr _)
          refine MergeE.wp_region_merge (by kernel_rfl) (fun vals => { tmps := #[.agg #[.slice A.na B.names.length A.nc, .slice (some ⟨bk, o, none⟩) B.status.length A.sc, .slice A.ma B.maps.length A.mc, .slice A.ka B.cls.length A.kc, .slice A.da B.decomp.length A.dc, .slice A.xa B.excl.length A.xc, .slice A.ba B.bidi.length A.bc, .slice A.ja B.join.length A.jc, .slice A.qa B.marks.length A.qc, .slice A.ra B.script.length A.rc, .slice A.la B.like.length A.lc], .pointer (some ⟨w.heap.size, 0, none⟩), .string ⟨#[]⟩, .int .i64 0, .int .i64 0, .int .i64 0, .int .i64 0, vals 15, undef, .pointer (some ⟨wr.heap.size, 0, none⟩), undef, undef, undef, undef, undef, undef, undef, undef, undef, undef, undef, undef, .tuple #[.int .i64 0, .int .i64 0, .int .i64 0], .agg #[.slice A.na B.names.length A.nc, .slice (some ⟨bk, o, none⟩) B.status.length A.sc, .slice A.ma B.maps.length A.mc, .slice A.ka B.cls.length A.kc, .slice A.da B.decomp.length A.dc, .slice A.xa B.excl.length A.xc, .slice A.ba B.bidi.length A.bc, .slice A.ja B.join.length A.jc, .slice A.qa B.marks.length A.qc, .slice A.ra B.script.length A.rc, .slice A.la B.like.length A.lc], .tuple #[.int .i64 0, .int .i64 0, .int .i64 0], .int .i64 0, .int .i64 0, .int .i64 0, .int .i64 0, .bool false, .pointer (some ⟨w.heap.size, 1, none⟩), .slice (some ⟨bk, o, none⟩) B.status.length A.sc, .int .i64 B.status.length, .int .i64 i, .bool true, .pointer (some ⟨bk, o + i * 3, none⟩), .agg #[.int .i32 xa, .int .i32 xb, .int .i64 2], vals 0, vals 1, vals 2, vals 3, vals 4, vals 5, vals 6, vals 7, vals 8, vals 9, vals 10, vals 11, vals 12, vals 13, vals 14, u52, undef, undef, undef, undef, undef, undef, undef, undef, undef, undef, undef, undef, undef, undef, undef, undef, undef, undef, undef, undef, undef, undef, undef, undef, undef, undef, undef, undef, undef, undef, undef, undef, undef, undef, undef, undef, undef, undef, undef, undef, undef, undef, undef, undef, undef, undef, undef, undef, undef, undef, undef, undef, undef, undef, undef, undef, undef, undef, undef, undef, undef, undef, undef, undef, undef, undef, undef, undef, undef, undef, undef, undef, undef, undef, undef, undef, undef, undef, undef, undef, undef, undef, undef, undef, undef, undef, undef, undef, undef, undef, undef, undef, undef, undef, undef, undef, undef, undef, undef, undef, undef, undef, undef, undef, undef, undef, undef, undef, undef, undef, undef, undef, undef, undef, undef, undef, undef, undef, undef, undef, undef, undef, undef, undef, undef, undef, undef, undef, undef, undef, undef, undef, undef, undef, undef, undef, undef, undef, undef, undef, undef, undef, undef, undef, undef], defers := [] }) (fun j => (predsT wr.heap.size 2 xa xb s.data.toList [105, 103, 110, 111, 114, 101, 100] (atL xa xb)).getD j (fun _ _ => True)) dOf (fun W => Below w1.heap.size w1 W ∧ W.heap[wr.heap.size]? = some (.cells #[.int .i32 xa, .int .i32 xb, .int .i64 2] 75 (0, 0))) belowR (fun j => [u37, u38, u39, u40, u41, u42, u43, u44, u45, u46, u47, u48, u49, u50, u51, .string s].getD j undef) rfl
            (fun j vs W W' hh hb => by have := (keep_at j (predsT_keep wr.heap.size 2 xa xb s.data.toList [105, 103, 110, 111, 114, 101, 100] (atL xa xb))).1 vs W W'; exact this hh hb)
            (fun j vs vs' W hh hv => by have := (keep_at j (predsT_keep wr.heap.size 2 xa xb s.data.toList [105, 103, 110, 111, 114, 101, 100] (atL xa xb))).2 vs vs' W; rw [Nat.zero_add] at this; exact this (fun k hk => hh k (by rcases hk with h | h; exact .inl h; cases h)) hv)
            (fun W W' hh hb => ⟨hh.1.trans (hb.mono hh.1.size), (hb.block _ (block_lt hh.2)).trans hh.2⟩) ⟨HB2.out.drew, hbxr'.out⟩ ?hS ?hD
          case hS =>
            refine MergeE.AllSteps.cons ⟨by rfl, by intro d hd; simp [dOf] at hd, fun _ _ => rfl, fun vals W hi hd hu K hK => ?_⟩ ?_
            · rw [if_pos (by rfl)]
              have e15 : vals 15 = .string s := (hu 15 (.inr ⟨14, by simp [dOf], by simp [dOf]⟩)).trans rfl
              simp only [e15] at hK
              go_simp
              exact hK _ _ ⟨s, Merge.upd_same _ _ _, rfl⟩ (Below.refl _ _)
            refine MergeE.AllSteps.cons ⟨by rfl, by intro d hd; simp [dOf] at hd, fun _ _ => rfl, fun vals W hi hd hu K hK => ?_⟩ ?_
            · rw [if_pos (by rfl)]
              go_simp
              exact hK _ _ ⟨W.heap.size, Merge.upd_same _ _ _, heap_alloc_new W _⟩ ((Below.refl _ _).alloc (Nat.le_refl _) _)
            refine MergeE.AllSteps.cons ⟨by rfl, by intro d hd; simp [dOf] at hd, fun _ _ => rfl, fun vals W hi hd hu K hK => ?_⟩ ?_
            · rw [if_pos (by rfl)]
              go_simp
              exact hK _ _ (Merge.upd_same _ _ _) (Below.refl _ _)
            refine MergeE.AllSteps.cons ⟨by rfl, by intro d hd; simp [dOf] at hd, fun _ _ => rfl, fun vals W hi hd hu K hK => ?_⟩ ?_
            · rw [if_pos (by rfl)]
              have e2 : vals 2 = .pointer (some ⟨wr.heap.size, 2, none⟩) := hd ⟨2, .data⟩ (by simp) rfl
              have kk : W.cell? ⟨wr.heap.size, 2, none⟩ = some (.int .i64 2) := (block_cell (i := 2) hi.2).trans rfl
              simp only [e2] at hK
              go_simp
              exact hK _ _ (Merge.upd_same _ _ _) (Below.refl _ _)
            refine MergeE.AllSteps.cons ⟨by rfl, by intro d hd; simp [dOf] at hd, fun _ _ => rfl, fun vals W hi hd hu K hK => ?_⟩ ?_
            · rw [if_pos (by rfl)]
              obtain ⟨g, e1, hg⟩ := hd ⟨1, .data⟩ (by simp) rfl
              have e3 : vals 3 = .int .i64 2 := hd ⟨3, .data⟩ (by simp) rfl
              simp only [e1, e3] at hK
              go_simp
              exact hK _ _ ⟨g, Merge.upd_same _ _ _, hg⟩ (Below.refl _ _)
            refine MergeE.AllSteps.cons ⟨by rfl, by intro d hd; simp [dOf] at hd, fun _ _ => rfl, fun vals W hi hd hu K hK => ?_⟩ ?_
            · rw [if_pos (by rfl)]
              obtain ⟨g, e4, hg⟩ := hd ⟨4, .data⟩ (by simp) rfl
              have kk : W.cell? ⟨g, 2, none⟩ = some (.string ⟨#[105, 103, 110, 111, 114, 101, 100]⟩) := (block_cell (i := 2) hg).trans rfl
              simp only [e4] at hK
              go_simp
              exact hK _ _ ⟨⟨#[105, 103, 110, 111, 114, 101, 100]⟩, Merge.upd_same _ _ _, rfl⟩ (Below.refl _ _)
            refine MergeE.AllSteps.cons ⟨by rfl, by intro d hd; simp [dOf] at hd, fun _ _ => rfl, fun vals W hi hd hu K hK => ?_⟩ ?_
            · rw [if_pos (by rfl)]
              obtain ⟨s5, e5, h5⟩ := hd ⟨5, .data⟩ (by simp) rfl
              have z5 : s5.size ≤ 20 := by have := size_data s5; rw [h5] at this; simp at this; omega
              simp only [e5] at hK
              go_simp
              try rw [if_neg (show ¬ 9223372036854775807 < s5.size + 2 by omega)]
              try go_simp
              exact hK _ _ ⟨s5 ++ ⟨#[59, 32]⟩, Merge.upd_same _ _ _, by have h := Go.Joins.data_append s5 ⟨#[59, 32]⟩; rw [h5] at h; exact h⟩ (Below.refl _ _)
            refine MergeE.AllSteps.cons ⟨by rfl, by intro d hd; simp [dOf] at hd, fun _ _ => rfl, fun vals W hi hd hu K hK => ?_⟩ ?_
            · rw [if_pos (by rfl)]
              go_simp
              exact hK _ _ (Merge.upd_same _ _ _) (Below.refl _ _)
            refine MergeE.AllSteps.cons ⟨by rfl, by intro d hd; simp [dOf] at hd, fun _ _ => rfl, fun vals W hi hd hu K hK => ?_⟩ ?_
            · rw [if_pos (by rfl)]
              have e7 : vals 7 = .pointer (some ⟨wr.heap.size, 0, none⟩) := hd ⟨7, .data⟩ (by simp) rfl
              have kk : W.cell? ⟨wr.heap.size, 0, none⟩ = some (.int .i32 xa) := (block_cell (i := 0) hi.2).trans rfl
              simp only [e7] at hK
              go_simp
              exact hK _ _ (Merge.upd_same _ _ _) (Below.refl _ _)
            refine MergeE.AllSteps.cons ⟨by rfl, by intro d hd; simp [dOf] at hd, fun _ _ => rfl, fun vals W hi hd hu K hK => ?_⟩ ?_
            · rw [if_pos (by rfl)]
              go_simp
              exact hK _ _ (Merge.upd_same _ _ _) (Below.refl _ _)
            refine MergeE.AllSteps.cons ⟨by rfl, by intro d hd; simp [dOf] at hd, fun _ _ => rfl, fun vals W hi hd hu K hK => ?_⟩ ?_
            · rw [if_pos (by rfl)]
              have e9 : vals 9 = .pointer (some ⟨wr.heap.size, 1, none⟩) := hd ⟨9, .data⟩ (by simp) rfl
              have kk : W.cell? ⟨wr.heap.size, 1, none⟩ = some (.int .i32 xb) := (block_cell (i := 1) hi.2).trans rfl
              simp only [e9] at hK
              go_simp
              exact hK _ _ (Merge.upd_same _ _ _) (Below.refl _ _)
            refine MergeE.AllSteps.cons ⟨by rfl, by intro d hd; simp [dOf] at hd, fun _ _ => rfl, fun vals W hi hd hu K hK => ?_⟩ ?_
            · rw [if_pos (by rfl)]
              have e8 : vals 8 = .int .i32 xa := hd ⟨8, .data⟩ (by simp) rfl
              have e10 : vals 10 = .int .i32 xb := hd ⟨10, .data⟩ (by simp) rfl
              simp only [e8, e10] at hK
              go_simp
              refine (HSP.out _).mono ?_
              rintro e wn ⟨rfl, hbn⟩
              exact hK _ _ ⟨at1, Merge.upd_same _ _ _, HAT.out⟩ hbn
            refine MergeE.AllSteps.cons ⟨by rfl, by intro d hd; simp [dOf] at hd, fun _ _ => rfl, fun vals W hi hd hu K hK => ?_⟩ ?_
            · rw [if_pos (by rfl)]
              obtain ⟨s6, e6, h6⟩ := hd ⟨6, .data⟩ (by simp) rfl
              obtain ⟨s11, e11, h11⟩ := hd ⟨11, .data⟩ (by simp) rfl
              have z6 : s6.size ≤ 30 := by have := size_data s6; rw [h6] at this; simp at this; omega
              have z11 : s11.size ≤ 14 := by have := size_data s11; have h := size_data at1; rw [h11, ← HAT.out] at this; omega
              simp only [e6, e11] at hK
              go_simp
              try rw [if_neg (show ¬ 9223372036854775807 < s6.size + s11.size by omega)]
              try go_simp
              exact hK _ _ ⟨s6 ++ s11, Merge.upd_same _ _ _, by have h := Go.Joins.data_append s6 s11; rw [h6, h11] at h; exact h⟩ (Below.refl _ _)
            refine MergeE.AllSteps.cons ⟨by rfl, by intro d hd; simp [dOf] at hd, fun _ _ => rfl, fun vals W hi hd hu K hK => ?_⟩ ?_
            · rw [if_pos (by rfl)]
              obtain ⟨s12, e12, h12⟩ := hd ⟨12, .data⟩ (by simp) rfl
              have z12 : s12.size ≤ 60 := by have := size_data s12; have h := size_data at1; rw [HAT.out] at h; rw [h12] at this; simp at this; omega
              simp only [e12] at hK
              go_simp
              try rw [if_neg (show ¬ 9223372036854775807 < s12.size + 1 by omega)]
              try go_simp
              exact hK _ _ ⟨s12 ++ ⟨#[10]⟩, Merge.upd_same _ _ _, by have h := Go.Joins.data_append s12 ⟨#[10]⟩; rw [h12] at h; exact h⟩ (Below.refl _ _)
            refine MergeE.AllSteps.cons ⟨by rfl, by intro d hd; simp [dOf] at hd; subst hd; exact ⟨⟨0, .data⟩, by simp, rfl, rfl⟩, fun _ _ => rfl, fun vals W hi hd hu K hK => ?_⟩ ?_
            · rw [if_pos (by rfl)]
              obtain ⟨s0, e0, h0⟩ := hd ⟨0, .data⟩ (by simp) rfl
              obtain ⟨s13, e13, h13⟩ := hd ⟨13, .data⟩ (by simp) rfl
              have z13 : s13.size ≤ 70 := by have := size_data s13; have h := size_data at1; rw [HAT.out] at h; rw [h13] at this; simp at this; omega
              have z0 : s0.size ≤ 13107200 := by have := size_data s0; have h := size_data s; rw [h0] at this; omega
              simp only [e0, e13] at hK
              go_simp
              try rw [if_neg (show ¬ 9223372036854775807 < s0.size + s13.size by omega)]
              try go_simp
              exact hK _ _ ⟨s0 ++ s13, Merge.upd_same _ _ _, by have h := Go.Joins.data_append s0 s13; rw [h0, h13] at h; exact h⟩ (Below.refl _ _)
            refine MergeE.AllSteps.cons ⟨by rfl, by intro d hd; simp [dOf] at hd; subst hd; exact ⟨⟨14, .data⟩, by simp, rfl, rfl⟩, fun _ _ => rfl, fun vals W hi hd hu K hK => ?_⟩ ?_
            · rw [if_pos (by rfl)]
              obtain ⟨s14, e14, h14⟩ := hd ⟨14, .data⟩ (by simp) rfl
              simp only [e14] at hK
              go_simp
              exact hK _ _ ⟨s14, Merge.upd_same _ _ _, h14⟩ (Below.refl _ _)
            exact MergeE.AllSteps.nil
          case hD =>
            intro vals W hi hv
            obtain ⟨s15, e15, h15⟩ := hv 15 (by simp)
            have HI := Lib.hid hi.1
            have HT15 := Lib.hid h15
            have hat14 := hal
            clear hv h15 hi
            simp only [e15]
            go_wp2_with fail
            go_roundw
            case rel =>
              have z15 : s15.size = s.size + (7 + 2 + (atL xa xb).length + 1) := by
                rw [← size_data s15, HT15.out, ← size_data s]
                simp only [List.length_append, List.length_cons, List.length_nil]
              have za : at1.size = (atL xa xb).length := by rw [← size_data at1, HAT.out]
              exact ⟨i + 1, s15, by go_num, rfl, by omega, by omega, Lib.hid (by
                rw [HT15.out, hh.out, HSN.out, List.append_assoc]
                rfl), HI.out⟩
            case measure => simp [intOf]; omega
        · go_wp2_with fail
          clear q0 q1 q2
          have hbxr' : Hid ((wr.alloc (.cells #[.int .i32 xa, .int .i32 xb, .int .i64 3] 75 (0, 0))).drew.heap[wr.heap.size]? = some (.cells #[.int .i32 xa, .int .i32 xb, .int .i64 3] 75 (0, 0))) := Lib.hid (heap_alloc_new wr _)
          refine MergeE.wp_region_merge (by kernel_rfl) (fun vals => { tmps := #[.agg #[.slice A.na B.names.length A.nc, .slice (some ⟨bk, o, none⟩) B.status.length A.sc, .slice A.ma B.maps.length A.mc, .slice A.ka B.cls.length A.kc, .slice A.da B.decomp.length A.dc, .slice A.xa B.excl.length A.xc, .slice A.ba B.bidi.length A.bc, .slice A.ja B.join.length A.jc, .slice A.qa B.marks.length A.qc, .slice A.ra B.script.length A.rc, .slice A.la B.like.length A.lc], .pointer (some ⟨w.heap.size, 0, none⟩), .string ⟨#[]⟩, .int .i64 0, .int .i64 0, .int .i64 0, .int .i64 0, vals 15, undef, .pointer (some ⟨wr.heap.size, 0, none⟩), undef, undef, undef, undef, undef, undef, undef, undef, undef, undef, undef, undef, .tuple #[.int .i64 0, .int .i64 0, .int .i64 0], .agg #[.slice A.na B.names.length A.nc, .slice (some ⟨bk, o, none⟩) B.status.length A.sc, .slice A.ma B.maps.length A.mc, .slice A.ka B.cls.length A.kc, .slice A.da B.decomp.length A.dc, .slice A.xa B.excl.length A.xc, .slice A.ba B.bidi.length A.bc, .slice A.ja B.join.length A.jc, .slice A.qa B.marks.length A.qc, .slice A.ra B.script.length A.rc, .slice A.la B.like.length A.lc], .tuple #[.int .i64 0, .int .i64 0, .int .i64 0], .int .i64 0, .int .i64 0, .int .i64 0, .int .i64 0, .bool false, .pointer (some ⟨w.heap.size, 1, none⟩), .slice (some ⟨bk, o, none⟩) B.status.length A.sc, .int .i64 B.status.length, .int .i64 i, .bool true, .pointer (some ⟨bk, o + i * 3, none⟩), .agg #[.int .i32 xa, .int .i32 xb, .int .i64 3], vals 0, vals 1, vals 2, vals 3, vals 4, vals 5, vals 6, vals 7, vals 8, vals 9, vals 10, vals 11, vals 12, vals 13, vals 14, u52, undef, undef, undef, undef, undef, undef, undef, undef, undef, undef, undef, undef, undef, undef, undef, undef, undef, undef, undef, undef, undef, undef, undef, undef, undef, undef, undef, undef, undef, undef, undef, undef, undef, undef, undef, undef, undef, undef, undef, undef, undef, undef, undef, undef, undef, undef, undef, undef, undef, undef, undef, undef, undef, undef, undef, undef, undef, undef, undef, undef, undef, undef, undef, undef, undef, undef, undef, undef, undef, undef, undef, undef, undef, undef, undef, undef, undef, undef, undef, undef, undef, undef, undef, undef, undef, undef, undef, undef, undef, undef, undef, undef, undef, undef, undef, undef, undef, undef, undef, undef, undef, undef, undef, undef, undef, undef, undef, undef, undef, undef, undef, undef, undef, undef, undef, undef, undef, undef, undef, undef, undef, undef, undef, undef, undef, undef, undef, undef, undef, undef, undef, undef, undef, undef, undef, undef, undef, undef, undef, undef, undef, undef, undef, undef, undef], defers := [] }) (fun j => (predsT wr.heap.size 3 xa xb s.data.toList [100, 101, 118, 105, 97, 116, 105, 111, 110] (atL xa xb)).getD j (fun _ _ => True)) dOf (fun W => Below w1.heap.size w1 W ∧ W.heap[wr.heap.size]? = some (.cells #[.int .i32 xa, .int .i32 xb, .int .i64 3] 75 (0, 0))) belowR (fun j => [u37, u38, u39, u40, u41, u42, u43, u44, u45, u46, u47, u48, u49, u50, u51, .string s].getD j undef) rfl
            (fun j vs W W' hh hb => by have := (keep_at j (predsT_keep wr.heap.size 3 xa xb s.data.toList [100, 101, 118, 105, 97, 116, 105, 111, 110] (atL xa xb))).1 vs W W'; exact this hh hb)
            (fun j vs vs' W hh hv => by have := (keep_at j (predsT_keep wr.heap.size 3 xa xb s.data.toList [100, 101, 118, 105, 97, 116, 105, 111, 110] (atL xa xb))).2 vs vs' W; rw [Nat.zero_add] at this; exact this (fun k hk => hh k (by rcases hk with h | h; exact .inl h; cases h)) hv)
            (fun W W' hh hb => ⟨hh.1.trans (hb.mono hh.1.size), (hb.block _ (block_lt hh.2)).trans hh.2⟩) ⟨HB2.out.drew, hbxr'.out⟩ ?hS ?hD
          case hS =>
            refine MergeE.AllSteps.cons ⟨by rfl, by intro d hd; simp [dOf] at hd, fun _ _ => rfl, fun vals W hi hd hu K hK => ?_⟩ ?_
            · rw [if_pos (by rfl)]
              have e15 : vals 15 = .string s := (hu 15 (.inr ⟨14, by simp [dOf], by simp [dOf]⟩)).trans rfl
              simp only [e15] at hK
              go_simp
              exact hK _ _ ⟨s, Merge.upd_same _ _ _, rfl⟩ (Below.refl _ _)
            refine MergeE.AllSteps.cons ⟨by rfl, by intro d hd; simp [dOf] at hd, fun _ _ => rfl, fun vals W hi hd hu K hK => ?_⟩ ?_
            · rw [if_pos (by rfl)]
              go_simp
              exact hK _ _ ⟨W.heap.size, Merge.upd_same _ _ _, heap_alloc_new W _⟩ ((Below.refl _ _).alloc (Nat.le_refl _) _)
            refine MergeE.AllSteps.cons ⟨by rfl, by intro d hd; simp [dOf] at hd, fun _ _ => rfl, fun vals W hi hd hu K hK => ?_⟩ ?_
            · rw [if_pos (by rfl)]
              go_simp
              exact hK _ _ (Merge.upd_same _ _ _) (Below.refl _ _)
            refine MergeE.AllSteps.cons ⟨by rfl, by intro d hd; simp [dOf] at hd, fun _ _ => rfl, fun vals W hi hd hu K hK => ?_⟩ ?_
            · rw [if_pos (by rfl)]
              have e2 : vals 2 = .pointer (some ⟨wr.heap.size, 2, none⟩) := hd ⟨2, .data⟩ (by simp) rfl
              have kk : W.cell? ⟨wr.heap.size, 2, none⟩ = some (.int .i64 3) := (block_cell (i := 2) hi.2).trans rfl
              simp only [e2] at hK
              go_simp
              exact hK _ _ (Merge.upd_same _ _ _) (Below.refl _ _)
            refine MergeE.AllSteps.cons ⟨by rfl, by intro d hd; simp [dOf] at hd, fun _ _ => rfl, fun vals W hi hd hu K hK => ?_⟩ ?_
            · rw [if_pos (by rfl)]
              obtain ⟨g, e1, hg⟩ := hd ⟨1, .data⟩ (by simp) rfl
              have e3 : vals 3 = .int .i64 3 := hd ⟨3, .data⟩ (by simp) rfl
              simp only [e1, e3] at hK
              go_simp
              exact hK _ _ ⟨g, Merge.upd_same _ _ _, hg⟩ (Below.refl _ _)
            refine MergeE.AllSteps.cons ⟨by rfl, by intro d hd; simp [dOf] at hd, fun _ _ => rfl, fun vals W hi hd hu K hK => ?_⟩ ?_
            · rw [if_pos (by rfl)]
              obtain ⟨g, e4, hg⟩ := hd ⟨4, .data⟩ (by simp) rfl
              have kk : W.cell? ⟨g, 3, none⟩ = some (.string ⟨#[100, 101, 118, 105, 97, 116, 105, 111, 110]⟩) := (block_cell (i := 3) hg).trans rfl
              simp only [e4] at hK
              go_simp
              exact hK _ _ ⟨⟨#[100, 101, 118, 105, 97, 116, 105, 111, 110]⟩, Merge.upd_same _ _ _, rfl⟩ (Below.refl _ _)
            refine MergeE.AllSteps.cons ⟨by rfl, by intro d hd; simp [dOf] at hd, fun _ _ => rfl, fun vals W hi hd hu K hK => ?_⟩ ?_
            · rw [if_pos (by rfl)]
              obtain ⟨s5, e5, h5⟩ := hd ⟨5, .data⟩ (by simp) rfl
              have z5 : s5.size ≤ 20 := by have := size_data s5; rw [h5] at this; simp at this; omega
              simp only [e5] at hK
              go_simp
              try rw [if_neg (show ¬ 9223372036854775807 < s5.size + 2 by omega)]
              try go_simp
              exact hK _ _ ⟨s5 ++ ⟨#[59, 32]⟩, Merge.upd_same _ _ _, by have h := Go.Joins.data_append s5 ⟨#[59, 32]⟩; rw [h5] at h; exact h⟩ (Below.refl _ _)
            refine MergeE.AllSteps.cons ⟨by rfl, by intro d hd; simp [dOf] at hd, fun _ _ => rfl, fun vals W hi hd hu K hK => ?_⟩ ?_
            · rw [if_pos (by rfl)]
              go_simp
              exact hK _ _ (Merge.upd_same _ _ _) (Below.refl _ _)
            refine MergeE.AllSteps.cons ⟨by rfl, by intro d hd; simp [dOf] at hd, fun _ _ => rfl, fun vals W hi hd hu K hK => ?_⟩ ?_
            · rw [if_pos (by rfl)]
              have e7 : vals 7 = .pointer (some ⟨wr.heap.size, 0, none⟩) := hd ⟨7, .data⟩ (by simp) rfl
              have kk : W.cell? ⟨wr.heap.size, 0, none⟩ = some (.int .i32 xa) := (block_cell (i := 0) hi.2).trans rfl
              simp only [e7] at hK
              go_simp
              exact hK _ _ (Merge.upd_same _ _ _) (Below.refl _ _)
            refine MergeE.AllSteps.cons ⟨by rfl, by intro d hd; simp [dOf] at hd, fun _ _ => rfl, fun vals W hi hd hu K hK => ?_⟩ ?_
            · rw [if_pos (by rfl)]
              go_simp
              exact hK _ _ (Merge.upd_same _ _ _) (Below.refl _ _)
            refine MergeE.AllSteps.cons ⟨by rfl, by intro d hd; simp [dOf] at hd, fun _ _ => rfl, fun vals W hi hd hu K hK => ?_⟩ ?_
            · rw [if_pos (by rfl)]
              have e9 : vals 9 = .pointer (some ⟨wr.heap.size, 1, none⟩) := hd ⟨9, .data⟩ (by simp) rfl
              have kk : W.cell? ⟨wr.heap.size, 1, none⟩ = some (.int .i32 xb) := (block_cell (i := 1) hi.2).trans rfl
              simp only [e9] at hK
              go_simp
              exact hK _ _ (Merge.upd_same _ _ _) (Below.refl _ _)
            refine MergeE.AllSteps.cons ⟨by rfl, by intro d hd; simp [dOf] at hd, fun _ _ => rfl, fun vals W hi hd hu K hK => ?_⟩ ?_
            · rw [if_pos (by rfl)]
              have e8 : vals 8 = .int .i32 xa := hd ⟨8, .data⟩ (by simp) rfl
              have e10 : vals 10 = .int .i32 xb := hd ⟨10, .data⟩ (by simp) rfl
              simp only [e8, e10] at hK
              go_simp
              refine (HSP.out _).mono ?_
              rintro e wn ⟨rfl, hbn⟩
              exact hK _ _ ⟨at1, Merge.upd_same _ _ _, HAT.out⟩ hbn
            refine MergeE.AllSteps.cons ⟨by rfl, by intro d hd; simp [dOf] at hd, fun _ _ => rfl, fun vals W hi hd hu K hK => ?_⟩ ?_
            · rw [if_pos (by rfl)]
              obtain ⟨s6, e6, h6⟩ := hd ⟨6, .data⟩ (by simp) rfl
              obtain ⟨s11, e11, h11⟩ := hd ⟨11, .data⟩ (by simp) rfl
              have z6 : s6.size ≤ 30 := by have := size_data s6; rw [h6] at this; simp at this; omega
              have z11 : s11.size ≤ 14 := by have := size_data s11; have h := size_data at1; rw [h11, ← HAT.out] at this; omega
              simp only [e6, e11] at hK
              go_simp
              try rw [if_neg (show ¬ 9223372036854775807 < s6.size + s11.size by omega)]
              try go_simp
              exact hK _ _ ⟨s6 ++ s11, Merge.upd_same _ _ _, by have h := Go.Joins.data_append s6 s11; rw [h6, h11] at h; exact h⟩ (Below.refl _ _)
            refine MergeE.AllSteps.cons ⟨by rfl, by intro d hd; simp [dOf] at hd, fun _ _ => rfl, fun vals W hi hd hu K hK => ?_⟩ ?_
            · rw [if_pos (by rfl)]
              obtain ⟨s12, e12, h12⟩ := hd ⟨12, .data⟩ (by simp) rfl
              have z12 : s12.size ≤ 60 := by have := size_data s12; have h := size_data at1; rw [HAT.out] at h; rw [h12] at this; simp at this; omega
              simp only [e12] at hK
              go_simp
              try rw [if_neg (show ¬ 9223372036854775807 < s12.size + 1 by omega)]
              try go_simp
              exact hK _ _ ⟨s12 ++ ⟨#[10]⟩, Merge.upd_same _ _ _, by have h := Go.Joins.data_append s12 ⟨#[10]⟩; rw [h12] at h; exact h⟩ (Below.refl _ _)
            refine MergeE.AllSteps.cons ⟨by rfl, by intro d hd; simp [dOf] at hd; subst hd; exact ⟨⟨0, .data⟩, by simp, rfl, rfl⟩, fun _ _ => rfl, fun vals W hi hd hu K hK => ?_⟩ ?_
            · rw [if_pos (by rfl)]
              obtain ⟨s0, e0, h0⟩ := hd ⟨0, .data⟩ (by simp) rfl
              obtain ⟨s13, e13, h13⟩ := hd ⟨13, .data⟩ (by simp) rfl
              have z13 : s13.size ≤ 70 := by have := size_data s13; have h := size_data at1; rw [HAT.out] at h; rw [h13] at this; simp at this; omega
              have z0 : s0.size ≤ 13107200 := by have := size_data s0; have h := size_data s; rw [h0] at this; omega
              simp only [e0, e13] at hK
              go_simp
              try rw [if_neg (show ¬ 9223372036854775807 < s0.size + s13.size by omega)]
              try go_simp
              exact hK _ _ ⟨s0 ++ s13, Merge.upd_same _ _ _, by have h := Go.Joins.data_append s0 s13; rw [h0, h13] at h; exact h⟩ (Below.refl _ _)
            refine MergeE.AllSteps.cons ⟨by rfl, by intro d hd; simp [dOf] at hd; subst hd; exact ⟨⟨14, .data⟩, by simp, rfl, rfl⟩, fun _ _ => rfl, fun vals W hi hd hu K hK => ?_⟩ ?_
            · rw [if_pos (by rfl)]
              obtain ⟨s14, e14, h14⟩ := hd ⟨14, .data⟩ (by simp) rfl
              simp only [e14] at hK
              go_simp
              exact hK _ _ ⟨s14, Merge.upd_same _ _ _, h14⟩ (Below.refl _ _)
            exact MergeE.AllSteps.nil
          case hD =>
            intro vals W hi hv
            obtain ⟨s15, e15, h15⟩ := hv 15 (by simp)
            have HI := Lib.hid hi.1
            have HT15 := Lib.hid h15
            have hat14 := hal
            clear hv h15 hi
            simp only [e15]
            go_wp2_with fail
            go_roundw
            case rel =>
              have z15 : s15.size = s.size + (9 + 2 + (atL xa xb).length + 1) := by
                rw [← size_data s15, HT15.out, ← size_data s]
                simp only [List.length_append, List.length_cons, List.length_nil]
              have za : at1.size = (atL xa xb).length := by rw [← size_data at1, HAT.out]
              exact ⟨i + 1, s15, by go_num, rfl, by omega, by omega, Lib.hid (by
                rw [HT15.out, hh.out, HSN.out, List.append_assoc]
                rfl), HI.out⟩
            case measure => simp [intOf]; omega
      · obtain rfl : i = B.status.length := by omega
        have hh2 : Hid (s.data.toList = txt B 1) := Lib.hid (by rw [hh.out, List.take_length]; rfl)
        have hs2 : s.size ≤ 13107200 * 1 := by omega
        clear hh hs hi hlt
        have hh := hh2
        clear hh2
        have kk2 : wr.cell? ⟨w.heap.size, 2, none⟩ = some (.slice A.ma B.maps.length A.mc) := (block_cell (i := 2) ((hb.block _ hlw1).trans hx1.out)).trans rfl
        have HLD := Lib.hid (listed_any ⟨#[109, 97, 112, 112, 101, 100]⟩ A.ma B.maps A.mc wr (by decide) HG.out.m.1 (pts_of HG.out.m) (HL1.out.m.below hb))
        go_wp2_with fail
        refine HLD.out.mono ?_
        rintro e w2 ⟨tM, rfl, ht, hb2⟩
        have hts : tM.size ≤ 13107200 := by
          rw [← size_data, ht]
          have h1 := flatMap_le (listT (⟨#[109, 97, 112, 112, 101, 100]⟩ : ByteArray).data.toList) 200 B.maps (fun x hx => listT_le _ _ (by decide) (pts_of HG.out.m x hx).2.2.1)
          have h2 := HG.out.m.1
          exact Nat.le_trans h1 (by omega)
        have HT : Hid (tM.data.toList = part B 1) := Lib.hid ht
        have hbn := hb.trans (hb2.mono hb.size)
        clear ht hb2 hb HLD kk2
        have hb := hbn
        clear hbn
        have kk3 : w2.cell? ⟨w.heap.size, 3, none⟩ = some (.slice A.ka B.cls.length A.kc) := (block_cell (i := 3) ((hb.block _ hlw1).trans hx1.out)).trans rfl
        have hls := HG.out.k.1
        go_wp2_with fail
        clear kk3
        go_loopw [7, 61] (fun u v w' => ∃ (i : Nat) (s : ByteArray), v = .int .i64 i ∧ u = .string s ∧ i ≤ B.cls.length ∧ s.size ≤ 13107200 * 2 + 200 * i ∧ Hid (s.data.toList = txt B 2 ++ (B.cls.take i).flatMap (valT kClass fun n => Lib.decDigits n.toNat)) ∧ Below w1.heap.size w1 w') (fun _ v _ => B.cls.length - (intOf v).toNat)
        case atStart => exact ⟨0, _, rfl, rfl, Nat.zero_le _, by rw [ByteArray.size_append]; omega, Lib.hid (by rw [Go.Joins.data_append, hh.out, HT.out]; simp [txt]), hb⟩
        case round =>
          clear hh hb HT
          obtain ⟨i, sC, rfl, rfl, hi, hs, hh, hb⟩ := hrel
          have hsz : w1.heap.size ≤ wr.heap.size := hb.size
          by_cases hlt : i < B.cls.length
          · obtain ⟨x, hx⟩ : ∃ x, B.cls[i]? = some x := ⟨_, List.getElem?_eq_getElem hlt⟩
            rcases HL1.out.k.below hb with h0 | ⟨bk, o, had, hbk, hc⟩
            · rw [h0] at hlt; simp at hlt
            obtain ⟨q0, q1, q2⟩ := vals_at (hc i x hx)
            rw [had]
            obtain ⟨⟨hp1, hp2, hp3⟩, hn1, hn2⟩ := HG.out.k.2 x (List.mem_of_getElem? hx)
            have HSP := Lib.hid (fun W => spanned_any x.a x.b W ⟨by omega, by omega⟩ ⟨by omega, by omega⟩)
            have HSN := Lib.hid (flatMap_snoc (valT kClass fun n => Lib.decDigits n.toNat) B.cls i x hx)
            have hal : (⟨(atL x.a x.b).toArray⟩ : ByteArray).size ≤ 14 := atL_le x.a x.b
            generalize hga : (⟨(atL x.a x.b).toArray⟩ : ByteArray) = at1 at *
            have HAT : Hid (at1.data.toList = atL x.a x.b) := Lib.hid (by rw [← hga])
            have hs2 : sC.size ≤ 13107200 * 10 := by omega
            obtain ⟨nn, hnn⟩ : ∃ nn : Nat, x.n = nn := ⟨x.n.toNat, by omega⟩
            have HDC := Lib.hid (fun W => decimal_any nn W (by omega))
            have hdl : (⟨(Lib.decDigits nn).toArray⟩ : ByteArray).size ≤ 100 := dec_le nn (by omega)
            generalize hgd : (⟨(Lib.decDigits nn).toArray⟩ : ByteArray) = dt at *
            have HDT : Hid (dt.data.toList = Lib.decDigits nn) := Lib.hid (by rw [← hgd])
            clear hgd
            obtain ⟨xa, xb, xn⟩ := x
            dsimp only at q0 q1 q2 HSP HAT hnn
            subst hnn
            have hbxr := (heap_alloc_new wr (.cells #[.int .i32 xa, .int .i32 xb, .int .i64 (nn : Int)] 75 (0, 0)))
            have HB2 := Lib.hid (hb.alloc hb.size (.cells #[.int .i32 xa, .int .i32 xb, .int .i64 (nn : Int)] 75 (0, 0)))
            have c0 : (wr.alloc (.cells #[.int .i32 xa, .int .i32 xb, .int .i64 (nn : Int)] 75 (0, 0))).cell? ⟨wr.heap.size, 0, none⟩ = some (.int .i32 xa) := (block_cell (i := 0) hbxr).trans rfl
            have c1 : (wr.alloc (.cells #[.int .i32 xa, .int .i32 xb, .int .i64 (nn : Int)] 75 (0, 0))).cell? ⟨wr.heap.size, 1, none⟩ = some (.int .i32 xb) := (block_cell (i := 1) hbxr).trans rfl
            have c2 : (wr.alloc (.cells #[.int .i32 xa, .int .i32 xb, .int .i64 (nn : Int)] 75 (0, 0))).cell? ⟨wr.heap.size, 2, none⟩ = some (.int .i64 (nn : Int)) := (block_cell (i := 2) hbxr).trans rfl
            clear hc hx hga hbxr hp1 hp2 hp3 hn1 hn2
            go_wp2_with fail
            clear q0 q1 q2
            go_region_held_law (fun w' => w'.cell? ⟨wr.heap.size, 0, none⟩ = some (.int .i32 xa) ∧ w'.cell? ⟨wr.heap.size, 1, none⟩ = some (.int .i32 xb) ∧ w'.cell? ⟨wr.heap.size, 2, none⟩ = some (.int .i64 (nn : Int)))
              (first | exact ⟨d0, d1, d2⟩ | exact ⟨c0', c1', c2'⟩ | exact ⟨c0, c1, c2⟩ | go_keep)
              ((first | (go_at_call 29; refine (HSP.out _).mono ?_; rintro e w5 ⟨rfl, hb5⟩; have c0' := (hb5.cell (p := ⟨wr.heap.size, 0, none⟩) (by simp; try omega)).trans c0; have c1' := (hb5.cell (p := ⟨wr.heap.size, 1, none⟩) (by simp; try omega)).trans c1; have c2' := (hb5.cell (p := ⟨wr.heap.size, 2, none⟩) (by simp; try omega)).trans c2; have hw5 := HB2.out.drew.trans (hb5.mono HB2.out.size); clear hb5) | (go_at_call 31; refine (HDC.out _).mono ?_; rintro e w6 ⟨rfl, hb6⟩; have d0 := (hb6.cell (p := ⟨wr.heap.size, 0, none⟩) (cell_lt c0')).trans c0'; have d1 := (hb6.cell (p := ⟨wr.heap.size, 1, none⟩) (cell_lt c1')).trans c1'; have d2 := (hb6.cell (p := ⟨wr.heap.size, 2, none⟩) (cell_lt c2')).trans c2'; have hw6 := hw5.trans (hb6.mono hw5.size); clear hb6)))
            all_goals
              go_wp2_with fail
              go_roundw
              case rel => exact ⟨i + 1, _, by go_num, rfl, by omega, by simp only [ByteArray.size_append]; show _ + (((7 + _) + 2) + _ + 1) ≤ _; omega, Lib.hid (by
                rw [HSN.out, ← List.append_assoc, ← hh.out]
                simp only [Go.Joins.data_append, HAT.out, HDT.out]
                rfl), hw6⟩
              case measure => simp [intOf]; omega
          · obtain rfl : i = B.cls.length := by omega
            have hh2 : Hid (sC.data.toList = txt B 3) := Lib.hid (by rw [hh.out, List.take_length]; rfl)
            have hs2 : sC.size ≤ 13107200 * 3 := by omega
            clear hh hs hi hlt
            have hh := hh2
            clear hh2
            have kk4 : wr.cell? ⟨w.heap.size, 4, none⟩ = some (.slice A.da B.decomp.length A.dc) := (block_cell (i := 4) ((hb.block _ hlw1).trans hx1.out)).trans rfl
            have HLD := Lib.hid (listed_any ⟨#[100, 101, 99, 111, 109, 112, 111, 115, 101, 100]⟩ A.da B.decomp A.dc wr (by decide) HG.out.d.1 (pts_of HG.out.d) (HL1.out.d.below hb))
            go_wp2_with fail
            refine HLD.out.mono ?_
            rintro e w2 ⟨tD, rfl, ht, hb2⟩
            have hts : tD.size ≤ 13107200 := by
              rw [← size_data, ht]
              have h1 := flatMap_le (listT (⟨#[100, 101, 99, 111, 109, 112, 111, 115, 101, 100]⟩ : ByteArray).data.toList) 200 B.decomp (fun x hx => listT_le _ _ (by decide) (pts_of HG.out.d x hx).2.2.1)
              have h2 := HG.out.d.1
              exact Nat.le_trans h1 (by omega)
            have HT : Hid (tD.data.toList = part B 3) := Lib.hid ht
            have hbn := hb.trans (hb2.mono hb.size)
            clear ht hb2 hb HLD kk4
            have hb := hbn
            clear hbn
            have kk5 : w2.cell? ⟨w.heap.size, 5, none⟩ = some (.slice A.xa B.excl.length A.xc) := (block_cell (i := 5) ((hb.block _ hlw1).trans hx1.out)).trans rfl
            have hls := HG.out.x.1
            go_wp2_with fail
            clear kk5
            go_loopw [7, 88] (fun u v w' => ∃ (i : Nat) (sC : ByteArray), v = .int .i64 i ∧ u = .string sC ∧ i ≤ B.excl.length ∧ sC.size ≤ 13107200 * 4 + 200 * i ∧ Hid (sC.data.toList = txt B 4 ++ (B.excl.take i).flatMap (spnT kExcluded)) ∧ Below w1.heap.size w1 w') (fun _ v _ => B.excl.length - (intOf v).toNat)
            case atStart => exact ⟨0, _, rfl, rfl, Nat.zero_le _, by rw [ByteArray.size_append]; omega, Lib.hid (by rw [Go.Joins.data_append, hh.out, HT.out]; simp [txt]), hb⟩
            case round =>
              clear hh hb HT
              obtain ⟨i, sX, rfl, rfl, hi, hs, hh, hb⟩ := hrel
              have hsz : w1.heap.size ≤ wr.heap.size := hb.size
              by_cases hlt : i < B.excl.length
              · obtain ⟨x, hx⟩ : ∃ x, B.excl[i]? = some x := ⟨_, List.getElem?_eq_getElem hlt⟩
                rcases HL1.out.x.below hb with h0 | ⟨bk, o, had, hbk, hc⟩
                · rw [h0] at hlt; simp at hlt
                obtain ⟨q0, q1⟩ := spns_at (hc i x hx)
                rw [had]
                obtain ⟨hp1, hp2, hp3⟩ := HG.out.x.2 x (List.mem_of_getElem? hx)
                have HSP := Lib.hid (fun W => spanned_any x.a x.b W ⟨by omega, by omega⟩ ⟨by omega, by omega⟩)
                have HSN := Lib.hid (flatMap_snoc (spnT kExcluded) B.excl i x hx)
                have hal : (⟨(atL x.a x.b).toArray⟩ : ByteArray).size ≤ 14 := atL_le x.a x.b
                generalize hga : (⟨(atL x.a x.b).toArray⟩ : ByteArray) = at1 at *
                have HAT : Hid (at1.data.toList = atL x.a x.b) := Lib.hid (by rw [← hga])
                have hs2 : sX.size ≤ 13107200 * 10 := by omega
                obtain ⟨xa, xb⟩ := x
                dsimp only at q0 q1 HSP HAT
                have hbxr := (heap_alloc_new wr (.cells #[.int .i32 xa, .int .i32 xb] 78 (0, 0)))
                have HB2 := Lib.hid (hb.alloc hb.size (.cells #[.int .i32 xa, .int .i32 xb] 78 (0, 0)))
                have c0 : (wr.alloc (.cells #[.int .i32 xa, .int .i32 xb] 78 (0, 0))).cell? ⟨wr.heap.size, 0, none⟩ = some (.int .i32 xa) := (block_cell (i := 0) hbxr).trans rfl
                have c1 : (wr.alloc (.cells #[.int .i32 xa, .int .i32 xb] 78 (0, 0))).cell? ⟨wr.heap.size, 1, none⟩ = some (.int .i32 xb) := (block_cell (i := 1) hbxr).trans rfl
                clear hc hx hga hbxr hp1 hp2 hp3
                go_wp2_with fail
                clear q0 q1
                refine (HSP.out _).mono ?_
                rintro e w5 ⟨rfl, hb5⟩
                have hw5 := HB2.out.trans (hb5.mono HB2.out.size)
                clear hb5
                go_wp2_with fail
                go_roundw
                case rel => exact ⟨i + 1, _, by go_num, rfl, by omega, by simp only [ByteArray.size_append]; show _ + ((10 + _) + 1) ≤ _; omega, Lib.hid (by
                  rw [HSN.out, ← List.append_assoc, ← hh.out]
                  simp only [Go.Joins.data_append, HAT.out]
                  rfl), hw5⟩
                case measure => simp [intOf]; omega
              · obtain rfl : i = B.excl.length := by omega
                have hh2 : Hid (sX.data.toList = txt B 5) := Lib.hid (by rw [hh.out, List.take_length]; rfl)
                have hs2 : sX.size ≤ 13107200 * 5 := by omega
                clear hh hs hi hlt
                have hh := hh2
                clear hh2
                have kk6 : wr.cell? ⟨w.heap.size, 6, none⟩ = some (.slice A.ba B.bidi.length A.bc) := (block_cell (i := 6) ((hb.block _ hlw1).trans hx1.out)).trans rfl
                have hls := HG.out.b.1
                go_wp2_with fail
                clear kk6
                go_loopw [7, 105] (fun u v w' => ∃ (i : Nat) (sX : ByteArray), v = .int .i64 i ∧ u = .string sX ∧ i ≤ B.bidi.length ∧ sX.size ≤ 13107200 * 5 + 200 * i ∧ Hid (sX.data.toList = txt B 5 ++ (B.bidi.take i).flatMap (valT kBidi (nameAt dirs))) ∧ Below w1.heap.size w1 w') (fun _ v _ => B.bidi.length - (intOf v).toNat)
                case atStart => exact ⟨0, sX, rfl, rfl, Nat.zero_le _, by omega, Lib.hid (by rw [hh.out]; simp), hb⟩
                case round =>
                  clear hh hb
                  obtain ⟨i, sB, rfl, rfl, hi, hs, hh, hb⟩ := hrel
                  have hsz : w1.heap.size ≤ wr.heap.size := hb.size
                  by_cases hlt : i < B.bidi.length
                  · obtain ⟨x, hx⟩ : ∃ x, B.bidi[i]? = some x := ⟨_, List.getElem?_eq_getElem hlt⟩
                    rcases HL1.out.b.below hb with h0 | ⟨bk, o, had, hbk, hc⟩
                    · rw [h0] at hlt; simp at hlt
                    obtain ⟨q0, q1, q2⟩ := vals_at (hc i x hx)
                    rw [had]
                    obtain ⟨⟨hp1, hp2, hp3⟩, hn1, hn2⟩ := HG.out.b.2 x (List.mem_of_getElem? hx)
                    have HSP := Lib.hid (fun W => spanned_any x.a x.b W ⟨by omega, by omega⟩ ⟨by omega, by omega⟩)
                    have HSN := Lib.hid (flatMap_snoc (valT kBidi (nameAt dirs)) B.bidi i x hx)
                    have hal : (⟨(atL x.a x.b).toArray⟩ : ByteArray).size ≤ 14 := atL_le x.a x.b
                    generalize hga : (⟨(atL x.a x.b).toArray⟩ : ByteArray) = at1 at *
                    have HAT : Hid (at1.data.toList = atL x.a x.b) := Lib.hid (by rw [← hga])
                    have hs2 : sB.size ≤ 13107200 * 10 := by omega
                    obtain ⟨nn, hnn⟩ : ∃ nn : Nat, x.n = nn := ⟨x.n.toNat, by omega⟩
                    have hn23 : nn < 23 := by omega
                    obtain ⟨dt, hdt⟩ : ∃ dt, dirs[nn]? = some dt := ⟨_, List.getElem?_eq_getElem (by show nn < 23; exact hn23)⟩
                    have hdl : dt.size ≤ 100 := dirs_small dt (List.mem_of_getElem? hdt)
                    have HDT : Hid (dt.data.toList = nameAt dirs nn) := Lib.hid (by unfold nameAt; rw [Int.toNat_natCast, List.getD_eq_getElem?_getD, hdt]; rfl)
                    have HDI := Lib.hid hdt
                    clear hdt
                    obtain ⟨xa, xb, xn⟩ := x
                    dsimp only at q0 q1 q2 HSP HAT hnn
                    subst hnn
                    have hbxr := (heap_alloc_new wr (.cells #[.int .i32 xa, .int .i32 xb, .int .i64 (nn : Int)] 75 (0, 0)))
                    have HB2 := Lib.hid (hb.alloc hb.size (.cells #[.int .i32 xa, .int .i32 xb, .int .i64 (nn : Int)] 75 (0, 0)))
                    have c0 : (wr.alloc (.cells #[.int .i32 xa, .int .i32 xb, .int .i64 (nn : Int)] 75 (0, 0))).cell? ⟨wr.heap.size, 0, none⟩ = some (.int .i32 xa) := (block_cell (i := 0) hbxr).trans rfl
                    have c1 : (wr.alloc (.cells #[.int .i32 xa, .int .i32 xb, .int .i64 (nn : Int)] 75 (0, 0))).cell? ⟨wr.heap.size, 1, none⟩ = some (.int .i32 xb) := (block_cell (i := 1) hbxr).trans rfl
                    have c2 : (wr.alloc (.cells #[.int .i32 xa, .int .i32 xb, .int .i64 (nn : Int)] 75 (0, 0))).cell? ⟨wr.heap.size, 2, none⟩ = some (.int .i64 (nn : Int)) := (block_cell (i := 2) hbxr).trans rfl
                    clear hc hx hga hbxr hp1 hp2 hp3 hn1 hn2
                    go_wp2_with fail
                    clear q0 q1 q2
                    have hbxr' : Hid ((wr.alloc (.cells #[.int .i32 xa, .int .i32 xb, .int .i64 (nn : Int)] 75 (0, 0))).drew.heap[wr.heap.size]? = some (.cells #[.int .i32 xa, .int .i32 xb, .int .i64 (nn : Int)] 75 (0, 0))) := Lib.hid (heap_alloc_new wr _)
                    refine MergeE.wp_region_merge (by kernel_rfl) (fun vals => { tmps := #[Value.agg #[Value.slice A.na B.names.length A.nc, Value.slice A.sa B.status.length A.sc, Value.slice A.ma B.maps.length A.mc, Value.slice A.ka B.cls.length A.kc, Value.slice A.da B.decomp.length A.dc, Value.slice A.xa B.excl.length A.xc, Value.slice (some { block := bk, off := o }) B.bidi.length A.bc, Value.slice A.ja B.join.length A.jc, Value.slice A.qa B.marks.length A.qc, Value.slice A.ra B.script.length A.rc, Value.slice A.la B.like.length A.lc], Value.pointer (some { block := w.heap.size, off := 0 }), Value.string { data := #[] }, Value.int IntKind.i64 0, Value.int IntKind.i64 0, Value.int IntKind.i64 0, Value.int IntKind.i64 0, vals 16, undef, u9, undef, u11, undef, u13, undef, Value.pointer (some { block := wr.heap.size, off := 0 }), undef, undef, undef, undef, undef, undef, Value.tuple #[Value.int IntKind.i64 0, Value.int IntKind.i64 0, Value.int IntKind.i64 0], Value.agg #[Value.slice A.na B.names.length A.nc, Value.slice A.sa B.status.length A.sc, Value.slice A.ma B.maps.length A.mc, Value.slice A.ka B.cls.length A.kc, Value.slice A.da B.decomp.length A.dc, Value.slice A.xa B.excl.length A.xc, Value.slice (some { block := bk, off := o }) B.bidi.length A.bc, Value.slice A.ja B.join.length A.jc, Value.slice A.qa B.marks.length A.qc, Value.slice A.ra B.script.length A.rc, Value.slice A.la B.like.length A.lc], Value.tuple #[Value.int IntKind.i64 0, Value.int IntKind.i64 0, Value.int IntKind.i64 0], Value.int IntKind.i64 0, Value.int IntKind.i64 0, Value.int IntKind.i64 0, Value.int IntKind.i64 0, Value.bool false, Value.pointer (some { block := w.heap.size, off := 1 }), Value.slice A.sa B.status.length A.sc, Value.int IntKind.i64 B.status.length, Value.int IntKind.i64 B.status.length, Value.bool false, u35, u36, u37, u38, u39, u40, u41, u42, u43, u44, u45, u46, u47, u48, u49, u50, u51, u52, Value.string s, Value.pointer (some { block := w.heap.size, off := 2 }), Value.slice A.ma B.maps.length A.mc, Value.string tM, Value.string (s ++ tM), Value.pointer (some { block := w.heap.size, off := 3 }), Value.slice A.ka B.cls.length A.kc, Value.int IntKind.i64 B.cls.length, Value.int IntKind.i64 B.cls.length, Value.bool false, u63, u64, u65, u66, u67, u68, u69, u70, u71, u72, u73, u74, u75, u76, u77, u78, u79, Value.string sC, Value.pointer (some { block := w.heap.size, off := 4 }), Value.slice A.da B.decomp.length A.dc, Value.string tD, Value.string (sC ++ tD), Value.pointer (some { block := w.heap.size, off := 5 }), Value.slice A.xa B.excl.length A.xc, Value.int IntKind.i64 B.excl.length, Value.int IntKind.i64 B.excl.length, Value.bool false, u90, u91, u92, u93, u94, u95, u96, u97, u98, u99, u100, u101, Value.pointer (some { block := w.heap.size, off := 6 }), Value.slice (some { block := bk, off := o }) B.bidi.length A.bc, Value.int IntKind.i64 B.bidi.length, Value.int IntKind.i64 i, Value.bool true, Value.pointer (some { block := bk, off := o + i * 3 }), Value.agg #[Value.int IntKind.i32 xa, Value.int IntKind.i32 xb, Value.int IntKind.i64 nn], vals 0, vals 1, vals 2, vals 3, vals 4, vals 5, vals 6, vals 7, vals 8, vals 9, vals 10, vals 11, vals 12, vals 13, vals 14, vals 15, u125, undef, undef, undef, undef, undef, undef, undef, undef, undef, undef, undef, undef, undef, undef, undef, undef, undef, undef, undef, undef, undef, undef, undef, undef, undef, undef, undef, undef, undef, undef, undef, undef, undef, undef, undef, undef, undef, undef, undef, undef, undef, undef, undef, undef, undef, undef, undef, undef, undef, undef, undef, undef, undef, undef, undef, undef, undef, undef, undef, undef, undef, undef, undef, undef, undef, undef, undef, undef, undef, undef, undef, undef], defers := [] }) (fun j => (predsD wr.heap.size nn xa xb sB.data.toList [98, 105, 100, 105, 59, 32] (atL xa xb) 23 dirs dt).getD j (fun _ _ => True)) dOfD (fun W => Below w1.heap.size w1 W ∧ W.heap[wr.heap.size]? = some (.cells #[.int .i32 xa, .int .i32 xb, .int .i64 (nn : Int)] 75 (0, 0))) belowR (fun j => [u109, u110, u111, u112, u113, u114, u115, u116, u117, u118, u119, u120, u121, u122, u123, u124, Value.string sB].getD j undef) rfl
                      (fun j vs W W' hh hb => by have := (keep_at j (predsD_keep wr.heap.size nn xa xb sB.data.toList [98, 105, 100, 105, 59, 32] (atL xa xb) 23 dirs dt)).1 vs W W'; exact this hh hb)
                      (fun j vs vs' W hh hv => by have := (keep_at j (predsD_keep wr.heap.size nn xa xb sB.data.toList [98, 105, 100, 105, 59, 32] (atL xa xb) 23 dirs dt)).2 vs vs' W; rw [Nat.zero_add] at this; exact this (fun k hk => hh k (by rcases hk with h | h; exact .inl h; cases h)) hv)
                      (fun W W' hh hb => ⟨hh.1.trans (hb.mono hh.1.size), (hb.block _ (block_lt hh.2)).trans hh.2⟩) ⟨HB2.out.drew, hbxr'.out⟩ ?hS ?hD
                    case hS =>
                      refine MergeE.AllSteps.cons ⟨by rfl, by intro d hd; simp [dOfD] at hd, fun _ _ => rfl, fun vals W hi hd hu K hK => ?_⟩ ?_
                      · rw [if_pos (by rfl)]
                        have e16 : vals 16 = .string sB := (hu 16 (.inr ⟨15, by simp [dOfD], by simp [dOfD]⟩)).trans rfl
                        simp only [e16] at hK
                        go_simp
                        exact hK _ _ ⟨sB, Merge.upd_same _ _ _, rfl⟩ (Below.refl _ _)
                      refine MergeE.AllSteps.cons ⟨by rfl, by intro d hd; simp [dOfD] at hd, fun _ _ => rfl, fun vals W hi hd hu K hK => ?_⟩ ?_
                      · rw [if_pos (by rfl)]
                        go_simp
                        exact hK _ _ (Merge.upd_same _ _ _) (Below.refl _ _)
                      refine MergeE.AllSteps.cons ⟨by rfl, by intro d hd; simp [dOfD] at hd, fun _ _ => rfl, fun vals W hi hd hu K hK => ?_⟩ ?_
                      · rw [if_pos (by rfl)]
                        have e1 : vals 1 = .pointer (some ⟨wr.heap.size, 0, none⟩) := hd ⟨1, .data⟩ (by simp) rfl
                        have kk : W.cell? ⟨wr.heap.size, 0, none⟩ = some (.int .i32 xa) := (block_cell (i := 0) hi.2).trans rfl
                        simp only [e1] at hK
                        go_simp
                        exact hK _ _ (Merge.upd_same _ _ _) (Below.refl _ _)
                      refine MergeE.AllSteps.cons ⟨by rfl, by intro d hd; simp [dOfD] at hd, fun _ _ => rfl, fun vals W hi hd hu K hK => ?_⟩ ?_
                      · rw [if_pos (by rfl)]
                        go_simp
                        exact hK _ _ (Merge.upd_same _ _ _) (Below.refl _ _)
                      refine MergeE.AllSteps.cons ⟨by rfl, by intro d hd; simp [dOfD] at hd, fun _ _ => rfl, fun vals W hi hd hu K hK => ?_⟩ ?_
                      · rw [if_pos (by rfl)]
                        have e3 : vals 3 = .pointer (some ⟨wr.heap.size, 1, none⟩) := hd ⟨3, .data⟩ (by simp) rfl
                        have kk : W.cell? ⟨wr.heap.size, 1, none⟩ = some (.int .i32 xb) := (block_cell (i := 1) hi.2).trans rfl
                        simp only [e3] at hK
                        go_simp
                        exact hK _ _ (Merge.upd_same _ _ _) (Below.refl _ _)
                      refine MergeE.AllSteps.cons ⟨by rfl, by intro d hd; simp [dOfD] at hd, fun _ _ => rfl, fun vals W hi hd hu K hK => ?_⟩ ?_
                      · rw [if_pos (by rfl)]
                        have e2 : vals 2 = .int .i32 xa := hd ⟨2, .data⟩ (by simp) rfl
                        have e4 : vals 4 = .int .i32 xb := hd ⟨4, .data⟩ (by simp) rfl
                        simp only [e2, e4] at hK
                        go_simp
                        refine (HSP.out _).mono ?_
                        rintro e wn ⟨rfl, hbn⟩
                        exact hK _ _ ⟨at1, Merge.upd_same _ _ _, HAT.out⟩ hbn
                      refine MergeE.AllSteps.cons ⟨by rfl, by intro d hd; simp [dOfD] at hd, fun _ _ => rfl, fun vals W hi hd hu K hK => ?_⟩ ?_
                      · rw [if_pos (by rfl)]
                        obtain ⟨s5, e5, h5⟩ := hd ⟨5, .data⟩ (by simp) rfl
                        have ha1 := size_data at1; rw [HAT.out] at ha1
                        have z5 := size_data s5
                        rw [h5] at z5
                        simp only [e5] at hK
                        go_simp
                        try rw [if_neg (show ¬ 9223372036854775807 < 6 + s5.size by omega)]
                        try go_simp
                        exact hK _ _ ⟨⟨#[98, 105, 100, 105, 59, 32]⟩ ++ s5, Merge.upd_same _ _ _, by have h := Go.Joins.data_append (⟨#[98, 105, 100, 105, 59, 32]⟩) (s5); rw [h5] at h; exact h⟩ (Below.refl _ _)
                      refine MergeE.AllSteps.cons ⟨by rfl, by intro d hd; simp [dOfD] at hd, fun _ _ => rfl, fun vals W hi hd hu K hK => ?_⟩ ?_
                      · rw [if_pos (by rfl)]
                        obtain ⟨s6, e6, h6⟩ := hd ⟨6, .data⟩ (by simp) rfl
                        have ha1 := size_data at1; rw [HAT.out] at ha1
                        have z6 := size_data s6
                        rw [h6] at z6
                        simp only [List.length_append, List.length_cons, List.length_nil] at z6
                        simp only [e6] at hK
                        go_simp
                        try rw [if_neg (show ¬ 9223372036854775807 < s6.size + 2 by omega)]
                        try go_simp
                        exact hK _ _ ⟨s6 ++ ⟨#[59, 32]⟩, Merge.upd_same _ _ _, by have h := Go.Joins.data_append (s6) (⟨#[59, 32]⟩); rw [h6] at h; exact h⟩ (Below.refl _ _)
                      refine MergeE.AllSteps.cons ⟨by rfl, by intro d hd; simp [dOfD] at hd, fun _ _ => rfl, fun vals W hi hd hu K hK => ?_⟩ ?_
                      · rw [if_pos (by rfl)]
                        go_simp
                        refine (refDirs_any _).mono ?_
                        rintro e wn ⟨da, dc, rfl, hds, hbn, _⟩
                        obtain ⟨b1, o1, rfl, _, hc1⟩ := hds.resolve_left (by decide)
                        exact hK _ _ ⟨b1, o1, dc, Merge.upd_same _ _ _, hc1⟩ hbn
                      refine MergeE.AllSteps.cons ⟨by rfl, by intro d hd; simp [dOfD] at hd, fun _ _ => rfl, fun vals W hi hd hu K hK => ?_⟩ ?_
                      · rw [if_pos (by rfl)]
                        go_simp
                        exact hK _ _ (Merge.upd_same _ _ _) (Below.refl _ _)
                      refine MergeE.AllSteps.cons ⟨by rfl, by intro d hd; simp [dOfD] at hd, fun _ _ => rfl, fun vals W hi hd hu K hK => ?_⟩ ?_
                      · rw [if_pos (by rfl)]
                        have e9 : vals 9 = .pointer (some ⟨wr.heap.size, 2, none⟩) := hd ⟨9, .data⟩ (by simp) rfl
                        have kk : W.cell? ⟨wr.heap.size, 2, none⟩ = some (.int .i64 (nn : Int)) := (block_cell (i := 2) hi.2).trans rfl
                        simp only [e9] at hK
                        go_simp
                        exact hK _ _ (Merge.upd_same _ _ _) (Below.refl _ _)
                      refine MergeE.AllSteps.cons ⟨by rfl, by intro d hd; simp [dOfD] at hd, fun _ _ => rfl, fun vals W hi hd hu K hK => ?_⟩ ?_
                      · rw [if_pos (by rfl)]
                        obtain ⟨b1, o1, dc, e8, hc1⟩ := hd ⟨8, .data⟩ (by simp) rfl
                        have e10 : vals 10 = .int .i64 nn := hd ⟨10, .data⟩ (by simp) rfl
                        simp only [e8, e10] at hK
                        go_simp
                        try rw [if_pos (show (nn : Int) < 23 by omega)]
                        try go_simp
                        exact hK _ _ ⟨b1, o1, Merge.upd_same _ _ _, hc1 nn dt HDI.out⟩ (Below.refl _ _)
                      refine MergeE.AllSteps.cons ⟨by rfl, by intro d hd; simp [dOfD] at hd, fun _ _ => rfl, fun vals W hi hd hu K hK => ?_⟩ ?_
                      · rw [if_pos (by rfl)]
                        obtain ⟨b1, o1, e11, hc1⟩ := hd ⟨11, .data⟩ (by simp) rfl
                        simp only [e11] at hK
                        go_simp
                        exact hK _ _ (Merge.upd_same _ _ _) (Below.refl _ _)
                      refine MergeE.AllSteps.cons ⟨by rfl, by intro d hd; simp [dOfD] at hd, fun _ _ => rfl, fun vals W hi hd hu K hK => ?_⟩ ?_
                      · rw [if_pos (by rfl)]
                        obtain ⟨s7, e7, h7⟩ := hd ⟨7, .data⟩ (by simp) rfl
                        have e12 : vals 12 = .string dt := hd ⟨12, .data⟩ (by simp) rfl
                        have ha1 := size_data at1; rw [HAT.out] at ha1
                        have hd1 := size_data dt
                        have z7 := size_data s7
                        rw [h7] at z7
                        simp only [List.length_append, List.length_cons, List.length_nil] at z7
                        simp only [e7, e12] at hK
                        go_simp
                        try rw [if_neg (show ¬ 9223372036854775807 < s7.size + dt.size by omega)]
                        try go_simp
                        exact hK _ _ ⟨s7 ++ dt, Merge.upd_same _ _ _, by have h := Go.Joins.data_append (s7) (dt); rw [h7] at h; exact h⟩ (Below.refl _ _)
                      refine MergeE.AllSteps.cons ⟨by rfl, by intro d hd; simp [dOfD] at hd, fun _ _ => rfl, fun vals W hi hd hu K hK => ?_⟩ ?_
                      · rw [if_pos (by rfl)]
                        obtain ⟨s13, e13, h13⟩ := hd ⟨13, .data⟩ (by simp) rfl
                        have ha1 := size_data at1; rw [HAT.out] at ha1
                        have hd1 := size_data dt
                        have z13 := size_data s13
                        rw [h13] at z13
                        simp only [List.length_append, List.length_cons, List.length_nil] at z13
                        simp only [e13] at hK
                        go_simp
                        try rw [if_neg (show ¬ 9223372036854775807 < s13.size + 1 by omega)]
                        try go_simp
                        exact hK _ _ ⟨s13 ++ ⟨#[10]⟩, Merge.upd_same _ _ _, by have h := Go.Joins.data_append (s13) (⟨#[10]⟩); rw [h13] at h; exact h⟩ (Below.refl _ _)
                      refine MergeE.AllSteps.cons ⟨by rfl, by intro d hd; simp [dOfD] at hd; subst hd; exact ⟨⟨0, .data⟩, by simp, rfl, rfl⟩, fun _ _ => rfl, fun vals W hi hd hu K hK => ?_⟩ ?_
                      · rw [if_pos (by rfl)]
                        obtain ⟨s0, e0, h0⟩ := hd ⟨0, .data⟩ (by simp) rfl
                        obtain ⟨s14, e14, h14⟩ := hd ⟨14, .data⟩ (by simp) rfl
                        have ha1 := size_data at1; rw [HAT.out] at ha1
                        have hd1 := size_data dt
                        have z14 := size_data s14
                        rw [h14] at z14
                        simp only [List.length_append, List.length_cons, List.length_nil] at z14
                        have z0 := size_data s0
                        have zs := size_data sB
                        rw [h0] at z0
                        simp only [e0, e14] at hK
                        go_simp
                        try rw [if_neg (show ¬ 9223372036854775807 < s0.size + s14.size by omega)]
                        try go_simp
                        exact hK _ _ ⟨s0 ++ s14, Merge.upd_same _ _ _, by have h := Go.Joins.data_append (s0) (s14); rw [h0, h14] at h; exact h⟩ (Below.refl _ _)
                      refine MergeE.AllSteps.cons ⟨by rfl, by intro d hd; simp [dOfD] at hd; subst hd; exact ⟨⟨15, .data⟩, by simp, rfl, rfl⟩, fun _ _ => rfl, fun vals W hi hd hu K hK => ?_⟩ ?_
                      · rw [if_pos (by rfl)]
                        obtain ⟨s15, e15, h15⟩ := hd ⟨15, .data⟩ (by simp) rfl
                        simp only [e15] at hK
                        go_simp
                        exact hK _ _ ⟨s15, Merge.upd_same _ _ _, h15⟩ (Below.refl _ _)
                      exact MergeE.AllSteps.nil
                    case hD =>
                      intro vals W hi hv
                      obtain ⟨s16, e16, h16⟩ := hv 16 (by simp)
                      have HI := Lib.hid hi.1
                      have HT16 := Lib.hid h16
                      clear hv h16 hi
                      simp only [e16]
                      go_wp2_with fail
                      go_roundw
                      case rel =>
                        have z16 : s16.size = sB.size + (6 + (atL xa xb).length + 2 + dt.size + 1) := by
                          rw [← size_data s16, HT16.out, ← size_data sB, ← size_data dt]
                          simp only [List.length_append, List.length_cons, List.length_nil]
                        have za : at1.size = (atL xa xb).length := by rw [← size_data at1, HAT.out]
                        exact ⟨i + 1, s16, by go_num, rfl, by omega, by omega, Lib.hid (by
                          rw [HT16.out, hh.out, HSN.out, List.append_assoc, HDT.out]
                          rfl), HI.out⟩
                      case measure => simp [intOf]; omega
                  · obtain rfl : i = B.bidi.length := by omega
                    have hh2 : Hid (sB.data.toList = txt B 6) := Lib.hid (by rw [hh.out, List.take_length]; rfl)
                    have hs2 : sB.size ≤ 13107200 * 6 := by omega
                    clear hh hs hi hlt
                    have hh := hh2
                    clear hh2
                    have kk7 : wr.cell? ⟨w.heap.size, 7, none⟩ = some (.slice A.ja B.join.length A.jc) := (block_cell (i := 7) ((hb.block _ hlw1).trans hx1.out)).trans rfl
                    have hls := HG.out.j.1
                    go_wp2_with fail
                    clear kk7
                    go_loopw [7, 129] (fun u v w' => ∃ (i : Nat) (sB : ByteArray), v = .int .i64 i ∧ u = .string sB ∧ i ≤ B.join.length ∧ sB.size ≤ 13107200 * 6 + 200 * i ∧ Hid (sB.data.toList = txt B 6 ++ (B.join.take i).flatMap (valT kJoining (nameAt joins))) ∧ Below w1.heap.size w1 w') (fun _ v _ => B.join.length - (intOf v).toNat)
                    case atStart => exact ⟨0, sB, rfl, rfl, Nat.zero_le _, by omega, Lib.hid (by rw [hh.out]; simp), hb⟩
                    case round =>
                      clear hh hb
                      obtain ⟨i, sJ, rfl, rfl, hi, hs, hh, hb⟩ := hrel
                      have hsz : w1.heap.size ≤ wr.heap.size := hb.size
                      by_cases hlt : i < B.join.length
                      · obtain ⟨x, hx⟩ : ∃ x, B.join[i]? = some x := ⟨_, List.getElem?_eq_getElem hlt⟩
                        rcases HL1.out.j.below hb with h0 | ⟨bk, o, had, hbk, hc⟩
                        · rw [h0] at hlt; simp at hlt
                        obtain ⟨q0, q1, q2⟩ := vals_at (hc i x hx)
                        rw [had]
                        obtain ⟨⟨hp1, hp2, hp3⟩, hn1, hn2⟩ := HG.out.j.2 x (List.mem_of_getElem? hx)
                        have HSP := Lib.hid (fun W => spanned_any x.a x.b W ⟨by omega, by omega⟩ ⟨by omega, by omega⟩)
                        have HSN := Lib.hid (flatMap_snoc (valT kJoining (nameAt joins)) B.join i x hx)
                        have hal : (⟨(atL x.a x.b).toArray⟩ : ByteArray).size ≤ 14 := atL_le x.a x.b
                        generalize hga : (⟨(atL x.a x.b).toArray⟩ : ByteArray) = at1 at *
                        have HAT : Hid (at1.data.toList = atL x.a x.b) := Lib.hid (by rw [← hga])
                        have hs2 : sJ.size ≤ 13107200 * 10 := by omega
                        obtain ⟨nn, hnn⟩ : ∃ nn : Nat, x.n = nn := ⟨x.n.toNat, by omega⟩
                        have hn23 : nn < 6 := by omega
                        obtain ⟨dt, hdt⟩ : ∃ dt, joins[nn]? = some dt := ⟨_, List.getElem?_eq_getElem (by show nn < 6; exact hn23)⟩
                        have hdl : dt.size ≤ 100 := joins_small dt (List.mem_of_getElem? hdt)
                        have HDT : Hid (dt.data.toList = nameAt joins nn) := Lib.hid (by unfold nameAt; rw [Int.toNat_natCast, List.getD_eq_getElem?_getD, hdt]; rfl)
                        have HDI := Lib.hid hdt
                        clear hdt
                        obtain ⟨xa, xb, xn⟩ := x
                        dsimp only at q0 q1 q2 HSP HAT hnn
                        subst hnn
                        have hbxr := (heap_alloc_new wr (.cells #[.int .i32 xa, .int .i32 xb, .int .i64 (nn : Int)] 75 (0, 0)))
                        have HB2 := Lib.hid (hb.alloc hb.size (.cells #[.int .i32 xa, .int .i32 xb, .int .i64 (nn : Int)] 75 (0, 0)))
                        have c0 : (wr.alloc (.cells #[.int .i32 xa, .int .i32 xb, .int .i64 (nn : Int)] 75 (0, 0))).cell? ⟨wr.heap.size, 0, none⟩ = some (.int .i32 xa) := (block_cell (i := 0) hbxr).trans rfl
                        have c1 : (wr.alloc (.cells #[.int .i32 xa, .int .i32 xb, .int .i64 (nn : Int)] 75 (0, 0))).cell? ⟨wr.heap.size, 1, none⟩ = some (.int .i32 xb) := (block_cell (i := 1) hbxr).trans rfl
                        have c2 : (wr.alloc (.cells #[.int .i32 xa, .int .i32 xb, .int .i64 (nn : Int)] 75 (0, 0))).cell? ⟨wr.heap.size, 2, none⟩ = some (.int .i64 (nn : Int)) := (block_cell (i := 2) hbxr).trans rfl
                        clear hc hx hga hbxr hp1 hp2 hp3 hn1 hn2
                        go_wp2_with fail
                        clear q0 q1 q2
                        have hbxr' : Hid ((wr.alloc (.cells #[.int .i32 xa, .int .i32 xb, .int .i64 (nn : Int)] 75 (0, 0))).drew.heap[wr.heap.size]? = some (.cells #[.int .i32 xa, .int .i32 xb, .int .i64 (nn : Int)] 75 (0, 0))) := Lib.hid (heap_alloc_new wr _)
                        refine MergeE.wp_region_merge (by kernel_rfl) (fun vals => { tmps := #[Value.agg #[Value.slice A.na B.names.length A.nc, Value.slice A.sa B.status.length A.sc, Value.slice A.ma B.maps.length A.mc, Value.slice A.ka B.cls.length A.kc, Value.slice A.da B.decomp.length A.dc, Value.slice A.xa B.excl.length A.xc, Value.slice A.ba B.bidi.length A.bc, Value.slice (some { block := bk, off := o }) B.join.length A.jc, Value.slice A.qa B.marks.length A.qc, Value.slice A.ra B.script.length A.rc, Value.slice A.la B.like.length A.lc], Value.pointer (some { block := w.heap.size, off := 0 }), Value.string { data := #[] }, Value.int IntKind.i64 0, Value.int IntKind.i64 0, Value.int IntKind.i64 0, Value.int IntKind.i64 0, vals 16, undef, u9, undef, u11, undef, u13, undef, u15, undef, Value.pointer (some { block := wr.heap.size, off := 0 }), undef, undef, undef, undef, Value.tuple #[Value.int IntKind.i64 0, Value.int IntKind.i64 0, Value.int IntKind.i64 0], Value.agg #[Value.slice A.na B.names.length A.nc, Value.slice A.sa B.status.length A.sc, Value.slice A.ma B.maps.length A.mc, Value.slice A.ka B.cls.length A.kc, Value.slice A.da B.decomp.length A.dc, Value.slice A.xa B.excl.length A.xc, Value.slice A.ba B.bidi.length A.bc, Value.slice (some { block := bk, off := o }) B.join.length A.jc, Value.slice A.qa B.marks.length A.qc, Value.slice A.ra B.script.length A.rc, Value.slice A.la B.like.length A.lc], Value.tuple #[Value.int IntKind.i64 0, Value.int IntKind.i64 0, Value.int IntKind.i64 0], Value.int IntKind.i64 0, Value.int IntKind.i64 0, Value.int IntKind.i64 0, Value.int IntKind.i64 0, Value.bool false, Value.pointer (some { block := w.heap.size, off := 1 }), Value.slice A.sa B.status.length A.sc, Value.int IntKind.i64 B.status.length, Value.int IntKind.i64 B.status.length, Value.bool false, u35, u36, u37, u38, u39, u40, u41, u42, u43, u44, u45, u46, u47, u48, u49, u50, u51, u52, Value.string s, Value.pointer (some { block := w.heap.size, off := 2 }), Value.slice A.ma B.maps.length A.mc, Value.string tM, Value.string (s ++ tM), Value.pointer (some { block := w.heap.size, off := 3 }), Value.slice A.ka B.cls.length A.kc, Value.int IntKind.i64 B.cls.length, Value.int IntKind.i64 B.cls.length, Value.bool false, u63, u64, u65, u66, u67, u68, u69, u70, u71, u72, u73, u74, u75, u76, u77, u78, u79, Value.string sC, Value.pointer (some { block := w.heap.size, off := 4 }), Value.slice A.da B.decomp.length A.dc, Value.string tD, Value.string (sC ++ tD), Value.pointer (some { block := w.heap.size, off := 5 }), Value.slice A.xa B.excl.length A.xc, Value.int IntKind.i64 B.excl.length, Value.int IntKind.i64 B.excl.length, Value.bool false, u90, u91, u92, u93, u94, u95, u96, u97, u98, u99, u100, u101, Value.pointer (some { block := w.heap.size, off := 6 }), Value.slice A.ba B.bidi.length A.bc, Value.int IntKind.i64 B.bidi.length, Value.int IntKind.i64 B.bidi.length, Value.bool false, u107, u108, u109, u110, u111, u112, u113, u114, u115, u116, u117, u118, u119, u120, u121, u122, u123, u124, u125, Value.pointer (some { block := w.heap.size, off := 7 }), Value.slice (some { block := bk, off := o }) B.join.length A.jc, Value.int IntKind.i64 B.join.length, Value.int IntKind.i64 i, Value.bool true, Value.pointer (some { block := bk, off := o + i * 3 }), Value.agg #[Value.int IntKind.i32 xa, Value.int IntKind.i32 xb, Value.int IntKind.i64 nn], vals 0, vals 1, vals 2, vals 3, vals 4, vals 5, vals 6, vals 7, vals 8, vals 9, vals 10, vals 11, vals 12, vals 13, vals 14, vals 15, u149, undef, undef, undef, undef, undef, undef, undef, undef, undef, undef, undef, undef, undef, undef, undef, undef, undef, undef, undef, undef, undef, undef, undef, undef, undef, undef, undef, undef, undef, undef, undef, undef, undef, undef, undef, undef, undef, undef, undef, undef, undef, undef, undef, undef, undef, undef, undef, undef], defers := [] }) (fun j => (predsD wr.heap.size nn xa xb sJ.data.toList [106, 111, 105, 110, 105, 110, 103, 59, 32] (atL xa xb) 6 joins dt).getD j (fun _ _ => True)) dOfD (fun W => Below w1.heap.size w1 W ∧ W.heap[wr.heap.size]? = some (.cells #[.int .i32 xa, .int .i32 xb, .int .i64 (nn : Int)] 75 (0, 0))) belowR (fun j => [u133, u134, u135, u136, u137, u138, u139, u140, u141, u142, u143, u144, u145, u146, u147, u148, Value.string sJ].getD j undef) rfl
                          (fun j vs W W' hh hb => by have := (keep_at j (predsD_keep wr.heap.size nn xa xb sJ.data.toList [106, 111, 105, 110, 105, 110, 103, 59, 32] (atL xa xb) 6 joins dt)).1 vs W W'; exact this hh hb)
                          (fun j vs vs' W hh hv => by have := (keep_at j (predsD_keep wr.heap.size nn xa xb sJ.data.toList [106, 111, 105, 110, 105, 110, 103, 59, 32] (atL xa xb) 6 joins dt)).2 vs vs' W; rw [Nat.zero_add] at this; exact this (fun k hk => hh k (by rcases hk with h | h; exact .inl h; cases h)) hv)
                          (fun W W' hh hb => ⟨hh.1.trans (hb.mono hh.1.size), (hb.block _ (block_lt hh.2)).trans hh.2⟩) ⟨HB2.out.drew, hbxr'.out⟩ ?hS ?hD
                        case hS =>
                          refine MergeE.AllSteps.cons ⟨by rfl, by intro d hd; simp [dOfD] at hd, fun _ _ => rfl, fun vals W hi hd hu K hK => ?_⟩ ?_
                          · rw [if_pos (by rfl)]
                            have e16 : vals 16 = .string sJ := (hu 16 (.inr ⟨15, by simp [dOfD], by simp [dOfD]⟩)).trans rfl
                            simp only [e16] at hK
                            go_simp
                            exact hK _ _ ⟨sJ, Merge.upd_same _ _ _, rfl⟩ (Below.refl _ _)
                          refine MergeE.AllSteps.cons ⟨by rfl, by intro d hd; simp [dOfD] at hd, fun _ _ => rfl, fun vals W hi hd hu K hK => ?_⟩ ?_
                          · rw [if_pos (by rfl)]
                            go_simp
                            exact hK _ _ (Merge.upd_same _ _ _) (Below.refl _ _)
                          refine MergeE.AllSteps.cons ⟨by rfl, by intro d hd; simp [dOfD] at hd, fun _ _ => rfl, fun vals W hi hd hu K hK => ?_⟩ ?_
                          · rw [if_pos (by rfl)]
                            have e1 : vals 1 = .pointer (some ⟨wr.heap.size, 0, none⟩) := hd ⟨1, .data⟩ (by simp) rfl
                            have kk : W.cell? ⟨wr.heap.size, 0, none⟩ = some (.int .i32 xa) := (block_cell (i := 0) hi.2).trans rfl
                            simp only [e1] at hK
                            go_simp
                            exact hK _ _ (Merge.upd_same _ _ _) (Below.refl _ _)
                          refine MergeE.AllSteps.cons ⟨by rfl, by intro d hd; simp [dOfD] at hd, fun _ _ => rfl, fun vals W hi hd hu K hK => ?_⟩ ?_
                          · rw [if_pos (by rfl)]
                            go_simp
                            exact hK _ _ (Merge.upd_same _ _ _) (Below.refl _ _)
                          refine MergeE.AllSteps.cons ⟨by rfl, by intro d hd; simp [dOfD] at hd, fun _ _ => rfl, fun vals W hi hd hu K hK => ?_⟩ ?_
                          · rw [if_pos (by rfl)]
                            have e3 : vals 3 = .pointer (some ⟨wr.heap.size, 1, none⟩) := hd ⟨3, .data⟩ (by simp) rfl
                            have kk : W.cell? ⟨wr.heap.size, 1, none⟩ = some (.int .i32 xb) := (block_cell (i := 1) hi.2).trans rfl
                            simp only [e3] at hK
                            go_simp
                            exact hK _ _ (Merge.upd_same _ _ _) (Below.refl _ _)
                          refine MergeE.AllSteps.cons ⟨by rfl, by intro d hd; simp [dOfD] at hd, fun _ _ => rfl, fun vals W hi hd hu K hK => ?_⟩ ?_
                          · rw [if_pos (by rfl)]
                            have e2 : vals 2 = .int .i32 xa := hd ⟨2, .data⟩ (by simp) rfl
                            have e4 : vals 4 = .int .i32 xb := hd ⟨4, .data⟩ (by simp) rfl
                            simp only [e2, e4] at hK
                            go_simp
                            refine (HSP.out _).mono ?_
                            rintro e wn ⟨rfl, hbn⟩
                            exact hK _ _ ⟨at1, Merge.upd_same _ _ _, HAT.out⟩ hbn
                          refine MergeE.AllSteps.cons ⟨by rfl, by intro d hd; simp [dOfD] at hd, fun _ _ => rfl, fun vals W hi hd hu K hK => ?_⟩ ?_
                          · rw [if_pos (by rfl)]
                            obtain ⟨s5, e5, h5⟩ := hd ⟨5, .data⟩ (by simp) rfl
                            have ha1 := size_data at1; rw [HAT.out] at ha1
                            have z5 := size_data s5
                            rw [h5] at z5
                            simp only [e5] at hK
                            go_simp
                            try rw [if_neg (show ¬ 9223372036854775807 < 9 + s5.size by omega)]
                            try go_simp
                            exact hK _ _ ⟨⟨#[106, 111, 105, 110, 105, 110, 103, 59, 32]⟩ ++ s5, Merge.upd_same _ _ _, by have h := Go.Joins.data_append (⟨#[106, 111, 105, 110, 105, 110, 103, 59, 32]⟩) (s5); rw [h5] at h; exact h⟩ (Below.refl _ _)
                          refine MergeE.AllSteps.cons ⟨by rfl, by intro d hd; simp [dOfD] at hd, fun _ _ => rfl, fun vals W hi hd hu K hK => ?_⟩ ?_
                          · rw [if_pos (by rfl)]
                            obtain ⟨s6, e6, h6⟩ := hd ⟨6, .data⟩ (by simp) rfl
                            have ha1 := size_data at1; rw [HAT.out] at ha1
                            have z6 := size_data s6
                            rw [h6] at z6
                            simp only [List.length_append, List.length_cons, List.length_nil] at z6
                            simp only [e6] at hK
                            go_simp
                            try rw [if_neg (show ¬ 9223372036854775807 < s6.size + 2 by omega)]
                            try go_simp
                            exact hK _ _ ⟨s6 ++ ⟨#[59, 32]⟩, Merge.upd_same _ _ _, by have h := Go.Joins.data_append (s6) (⟨#[59, 32]⟩); rw [h6] at h; exact h⟩ (Below.refl _ _)
                          refine MergeE.AllSteps.cons ⟨by rfl, by intro d hd; simp [dOfD] at hd, fun _ _ => rfl, fun vals W hi hd hu K hK => ?_⟩ ?_
                          · rw [if_pos (by rfl)]
                            go_simp
                            refine (refJoins_any _).mono ?_
                            rintro e wn ⟨da, dc, rfl, hds, hbn, _⟩
                            obtain ⟨b1, o1, rfl, _, hc1⟩ := hds.resolve_left (by decide)
                            exact hK _ _ ⟨b1, o1, dc, Merge.upd_same _ _ _, hc1⟩ hbn
                          refine MergeE.AllSteps.cons ⟨by rfl, by intro d hd; simp [dOfD] at hd, fun _ _ => rfl, fun vals W hi hd hu K hK => ?_⟩ ?_
                          · rw [if_pos (by rfl)]
                            go_simp
                            exact hK _ _ (Merge.upd_same _ _ _) (Below.refl _ _)
                          refine MergeE.AllSteps.cons ⟨by rfl, by intro d hd; simp [dOfD] at hd, fun _ _ => rfl, fun vals W hi hd hu K hK => ?_⟩ ?_
                          · rw [if_pos (by rfl)]
                            have e9 : vals 9 = .pointer (some ⟨wr.heap.size, 2, none⟩) := hd ⟨9, .data⟩ (by simp) rfl
                            have kk : W.cell? ⟨wr.heap.size, 2, none⟩ = some (.int .i64 (nn : Int)) := (block_cell (i := 2) hi.2).trans rfl
                            simp only [e9] at hK
                            go_simp
                            exact hK _ _ (Merge.upd_same _ _ _) (Below.refl _ _)
                          refine MergeE.AllSteps.cons ⟨by rfl, by intro d hd; simp [dOfD] at hd, fun _ _ => rfl, fun vals W hi hd hu K hK => ?_⟩ ?_
                          · rw [if_pos (by rfl)]
                            obtain ⟨b1, o1, dc, e8, hc1⟩ := hd ⟨8, .data⟩ (by simp) rfl
                            have e10 : vals 10 = .int .i64 nn := hd ⟨10, .data⟩ (by simp) rfl
                            simp only [e8, e10] at hK
                            go_simp
                            try rw [if_pos (show (nn : Int) < 6 by omega)]
                            try go_simp
                            exact hK _ _ ⟨b1, o1, Merge.upd_same _ _ _, hc1 nn dt HDI.out⟩ (Below.refl _ _)
                          refine MergeE.AllSteps.cons ⟨by rfl, by intro d hd; simp [dOfD] at hd, fun _ _ => rfl, fun vals W hi hd hu K hK => ?_⟩ ?_
                          · rw [if_pos (by rfl)]
                            obtain ⟨b1, o1, e11, hc1⟩ := hd ⟨11, .data⟩ (by simp) rfl
                            simp only [e11] at hK
                            go_simp
                            exact hK _ _ (Merge.upd_same _ _ _) (Below.refl _ _)
                          refine MergeE.AllSteps.cons ⟨by rfl, by intro d hd; simp [dOfD] at hd, fun _ _ => rfl, fun vals W hi hd hu K hK => ?_⟩ ?_
                          · rw [if_pos (by rfl)]
                            obtain ⟨s7, e7, h7⟩ := hd ⟨7, .data⟩ (by simp) rfl
                            have e12 : vals 12 = .string dt := hd ⟨12, .data⟩ (by simp) rfl
                            have ha1 := size_data at1; rw [HAT.out] at ha1
                            have hd1 := size_data dt
                            have z7 := size_data s7
                            rw [h7] at z7
                            simp only [List.length_append, List.length_cons, List.length_nil] at z7
                            simp only [e7, e12] at hK
                            go_simp
                            try rw [if_neg (show ¬ 9223372036854775807 < s7.size + dt.size by omega)]
                            try go_simp
                            exact hK _ _ ⟨s7 ++ dt, Merge.upd_same _ _ _, by have h := Go.Joins.data_append (s7) (dt); rw [h7] at h; exact h⟩ (Below.refl _ _)
                          refine MergeE.AllSteps.cons ⟨by rfl, by intro d hd; simp [dOfD] at hd, fun _ _ => rfl, fun vals W hi hd hu K hK => ?_⟩ ?_
                          · rw [if_pos (by rfl)]
                            obtain ⟨s13, e13, h13⟩ := hd ⟨13, .data⟩ (by simp) rfl
                            have ha1 := size_data at1; rw [HAT.out] at ha1
                            have hd1 := size_data dt
                            have z13 := size_data s13
                            rw [h13] at z13
                            simp only [List.length_append, List.length_cons, List.length_nil] at z13
                            simp only [e13] at hK
                            go_simp
                            try rw [if_neg (show ¬ 9223372036854775807 < s13.size + 1 by omega)]
                            try go_simp
                            exact hK _ _ ⟨s13 ++ ⟨#[10]⟩, Merge.upd_same _ _ _, by have h := Go.Joins.data_append (s13) (⟨#[10]⟩); rw [h13] at h; exact h⟩ (Below.refl _ _)
                          refine MergeE.AllSteps.cons ⟨by rfl, by intro d hd; simp [dOfD] at hd; subst hd; exact ⟨⟨0, .data⟩, by simp, rfl, rfl⟩, fun _ _ => rfl, fun vals W hi hd hu K hK => ?_⟩ ?_
                          · rw [if_pos (by rfl)]
                            obtain ⟨s0, e0, h0⟩ := hd ⟨0, .data⟩ (by simp) rfl
                            obtain ⟨s14, e14, h14⟩ := hd ⟨14, .data⟩ (by simp) rfl
                            have ha1 := size_data at1; rw [HAT.out] at ha1
                            have hd1 := size_data dt
                            have z14 := size_data s14
                            rw [h14] at z14
                            simp only [List.length_append, List.length_cons, List.length_nil] at z14
                            have z0 := size_data s0
                            have zs := size_data sJ
                            rw [h0] at z0
                            simp only [e0, e14] at hK
                            go_simp
                            try rw [if_neg (show ¬ 9223372036854775807 < s0.size + s14.size by omega)]
                            try go_simp
                            exact hK _ _ ⟨s0 ++ s14, Merge.upd_same _ _ _, by have h := Go.Joins.data_append (s0) (s14); rw [h0, h14] at h; exact h⟩ (Below.refl _ _)
                          refine MergeE.AllSteps.cons ⟨by rfl, by intro d hd; simp [dOfD] at hd; subst hd; exact ⟨⟨15, .data⟩, by simp, rfl, rfl⟩, fun _ _ => rfl, fun vals W hi hd hu K hK => ?_⟩ ?_
                          · rw [if_pos (by rfl)]
                            obtain ⟨s15, e15, h15⟩ := hd ⟨15, .data⟩ (by simp) rfl
                            simp only [e15] at hK
                            go_simp
                            exact hK _ _ ⟨s15, Merge.upd_same _ _ _, h15⟩ (Below.refl _ _)
                          exact MergeE.AllSteps.nil
                        case hD =>
                          intro vals W hi hv
                          obtain ⟨s16, e16, h16⟩ := hv 16 (by simp)
                          have HI := Lib.hid hi.1
                          have HT16 := Lib.hid h16
                          clear hv h16 hi
                          simp only [e16]
                          go_wp2_with fail
                          go_roundw
                          case rel =>
                            have z16 : s16.size = sJ.size + (9 + (atL xa xb).length + 2 + dt.size + 1) := by
                              rw [← size_data s16, HT16.out, ← size_data sJ, ← size_data dt]
                              simp only [List.length_append, List.length_cons, List.length_nil]
                            have za : at1.size = (atL xa xb).length := by rw [← size_data at1, HAT.out]
                            exact ⟨i + 1, s16, by go_num, rfl, by omega, by omega, Lib.hid (by
                              rw [HT16.out, hh.out, HSN.out, List.append_assoc, HDT.out]
                              rfl), HI.out⟩
                          case measure => simp [intOf]; omega
                      · obtain rfl : i = B.join.length := by omega
                        have hh2 : Hid (sJ.data.toList = txt B 7) := Lib.hid (by rw [hh.out, List.take_length]; rfl)
                        have hs2 : sJ.size ≤ 13107200 * 7 := by omega
                        clear hh hs hi hlt
                        have hh := hh2
                        clear hh2
                        have kk8 : wr.cell? ⟨w.heap.size, 8, none⟩ = some (.slice A.qa B.marks.length A.qc) := (block_cell (i := 8) ((hb.block _ hlw1).trans hx1.out)).trans rfl
                        have hls := HG.out.q.1
                        go_wp2_with fail
                        clear kk8
                        go_loopw [7, 153] (fun u v w' => ∃ (i : Nat) (sJ : ByteArray), v = .int .i64 i ∧ u = .string sJ ∧ i ≤ B.marks.length ∧ sJ.size ≤ 13107200 * 7 + 200 * i ∧ Hid (sJ.data.toList = txt B 7 ++ (B.marks.take i).flatMap (spnT kMark)) ∧ Below w1.heap.size w1 w') (fun _ v _ => B.marks.length - (intOf v).toNat)
                        case atStart => exact ⟨0, sJ, rfl, rfl, Nat.zero_le _, by omega, Lib.hid (by rw [hh.out]; simp), hb⟩
                        case round =>
                          clear hh hb
                          obtain ⟨i, sM, rfl, rfl, hi, hs, hh, hb⟩ := hrel
                          have hsz : w1.heap.size ≤ wr.heap.size := hb.size
                          by_cases hlt : i < B.marks.length
                          · obtain ⟨x, hx⟩ : ∃ x, B.marks[i]? = some x := ⟨_, List.getElem?_eq_getElem hlt⟩
                            rcases HL1.out.q.below hb with h0 | ⟨bk, o, had, hbk, hc⟩
                            · rw [h0] at hlt; simp at hlt
                            obtain ⟨q0, q1⟩ := spns_at (hc i x hx)
                            rw [had]
                            obtain ⟨hp1, hp2, hp3⟩ := HG.out.q.2 x (List.mem_of_getElem? hx)
                            have HSP := Lib.hid (fun W => spanned_any x.a x.b W ⟨by omega, by omega⟩ ⟨by omega, by omega⟩)
                            have HSN := Lib.hid (flatMap_snoc (spnT kMark) B.marks i x hx)
                            have hal : (⟨(atL x.a x.b).toArray⟩ : ByteArray).size ≤ 14 := atL_le x.a x.b
                            generalize hga : (⟨(atL x.a x.b).toArray⟩ : ByteArray) = at1 at *
                            have HAT : Hid (at1.data.toList = atL x.a x.b) := Lib.hid (by rw [← hga])
                            have hs2 : sM.size ≤ 13107200 * 10 := by omega
                            obtain ⟨xa, xb⟩ := x
                            dsimp only at q0 q1 HSP HAT
                            have hbxr := (heap_alloc_new wr (.cells #[.int .i32 xa, .int .i32 xb] 78 (0, 0)))
                            have HB2 := Lib.hid (hb.alloc hb.size (.cells #[.int .i32 xa, .int .i32 xb] 78 (0, 0)))
                            have c0 : (wr.alloc (.cells #[.int .i32 xa, .int .i32 xb] 78 (0, 0))).cell? ⟨wr.heap.size, 0, none⟩ = some (.int .i32 xa) := (block_cell (i := 0) hbxr).trans rfl
                            have c1 : (wr.alloc (.cells #[.int .i32 xa, .int .i32 xb] 78 (0, 0))).cell? ⟨wr.heap.size, 1, none⟩ = some (.int .i32 xb) := (block_cell (i := 1) hbxr).trans rfl
                            clear hc hx hga hbxr hp1 hp2 hp3
                            go_wp2_with fail
                            clear q0 q1
                            refine (HSP.out _).mono ?_
                            rintro e w5 ⟨rfl, hb5⟩
                            have hw5 := HB2.out.trans (hb5.mono HB2.out.size)
                            clear hb5
                            go_wp2_with fail
                            go_roundw
                            case rel => exact ⟨i + 1, _, by go_num, rfl, by omega, by simp only [ByteArray.size_append]; show _ + ((6 + _) + 1) ≤ _; omega, Lib.hid (by
                              rw [HSN.out, ← List.append_assoc, ← hh.out]
                              simp only [Go.Joins.data_append, HAT.out]
                              rfl), hw5⟩
                            case measure => simp [intOf]; omega
                          · obtain rfl : i = B.marks.length := by omega
                            have hh2 : Hid (sM.data.toList = txt B 8) := Lib.hid (by rw [hh.out, List.take_length]; rfl)
                            have hs2 : sM.size ≤ 13107200 * 8 := by omega
                            clear hh hs hi hlt
                            have hh := hh2
                            clear hh2
                            have kk9 : wr.cell? ⟨w.heap.size, 9, none⟩ = some (.slice A.ra B.script.length A.rc) := (block_cell (i := 9) ((hb.block _ hlw1).trans hx1.out)).trans rfl
                            have hls := HG.out.r.1
                            go_wp2_with fail
                            clear kk9
                            go_loopw [7, 170] (fun u v w' => ∃ (i : Nat) (sM : ByteArray), v = .int .i64 i ∧ u = .string sM ∧ i ≤ B.script.length ∧ sM.size ≤ 13107200 * 8 + 200 * i ∧ Hid (sM.data.toList = txt B 8 ++ (B.script.take i).flatMap (valT kScript fun n => nameAt B.names (n - 1))) ∧ Below w1.heap.size w1 w') (fun _ v _ => B.script.length - (intOf v).toNat)
                            case atStart => exact ⟨0, sM, rfl, rfl, Nat.zero_le _, by omega, Lib.hid (by rw [hh.out]; simp), hb⟩
                            case round =>
                              clear hh hb
                              obtain ⟨i, sS, rfl, rfl, hi, hs, hh, hb⟩ := hrel
                              have hsz : w1.heap.size ≤ wr.heap.size := hb.size
                              by_cases hlt : i < B.script.length
                              · obtain ⟨x, hx⟩ : ∃ x, B.script[i]? = some x := ⟨_, List.getElem?_eq_getElem hlt⟩
                                rcases HL1.out.r.below hb with h0 | ⟨bk, o, had, hbk, hc⟩
                                · rw [h0] at hlt; simp at hlt
                                obtain ⟨q0, q1, q2⟩ := vals_at (hc i x hx)
                                rw [had]
                                obtain ⟨⟨hp1, hp2, hp3⟩, hn1, hn2⟩ := HG.out.r.2 x (List.mem_of_getElem? hx)
                                have HSP := Lib.hid (fun W => spanned_any x.a x.b W ⟨by omega, by omega⟩ ⟨by omega, by omega⟩)
                                have HSN := Lib.hid (flatMap_snoc (valT kScript fun n => nameAt B.names (n - 1)) B.script i x hx)
                                have hal : (⟨(atL x.a x.b).toArray⟩ : ByteArray).size ≤ 14 := atL_le x.a x.b
                                generalize hga : (⟨(atL x.a x.b).toArray⟩ : ByteArray) = at1 at *
                                have HAT : Hid (at1.data.toList = atL x.a x.b) := Lib.hid (by rw [← hga])
                                have hs2 : sS.size ≤ 13107200 * 10 := by omega
                                obtain ⟨m, hnn⟩ : ∃ m : Nat, x.n = (m : Int) + 1 := ⟨(x.n - 1).toNat, by omega⟩
                                have hml : m < B.names.length := by omega
                                have hnl : B.names.length ≤ 64 := HG.out.n.1
                                have hmi : (m : Int) < (B.names.length : Int) := by omega
                                have hm0 : (0 : Int) ≤ (m : Int) := by omega
                                have e6 : IntKind.i64.wrap ((m : Int) + 1 - 1) = (m : Int) := by rw [show (m : Int) + 1 - 1 = m from by omega]; exact IntWalk.i64_in _ (by omega)
                                have e7 : IntKind.i64.wrap (m : Int) = (m : Int) := IntWalk.i64_in _ (by omega)
                                obtain ⟨dt, hdt⟩ : ∃ dt, B.names[m]? = some dt := ⟨_, List.getElem?_eq_getElem hml⟩
                                have hdl : dt.size ≤ 100 := name_small HG.out.n hdt
                                have HDT : Hid (dt.data.toList = nameAt B.names ((m : Int) + 1 - 1)) := Lib.hid (by unfold nameAt; rw [show ((m : Int) + 1 - 1).toNat = m from by omega, List.getD_eq_getElem?_getD, hdt]; rfl)
                                rcases HL1.out.n.below hb with h0 | ⟨nb, no, hna, hnbk, hnc⟩
                                · rw [h0] at hml; simp at hml
                                have n1 := hnc m dt hdt
                                have n0 : wr.cell? ⟨w.heap.size, 0, none⟩ = some (.slice (some ⟨nb, no, none⟩) B.names.length A.nc) := (block_cell (i := 0) ((hb.block _ hlw1).trans hx1.out)).trans (by rw [hna]; rfl)
                                clear hdt hnc hna
                                obtain ⟨xa, xb, xn⟩ := x
                                dsimp only at q0 q1 q2 HSP HAT hnn
                                subst hnn
                                have hbxr := (heap_alloc_new wr (.cells #[.int .i32 xa, .int .i32 xb, .int .i64 ((m : Int) + 1)] 75 (0, 0)))
                                have HB2 := Lib.hid (hb.alloc hb.size (.cells #[.int .i32 xa, .int .i32 xb, .int .i64 ((m : Int) + 1)] 75 (0, 0)))
                                have c0 : (wr.alloc (.cells #[.int .i32 xa, .int .i32 xb, .int .i64 ((m : Int) + 1)] 75 (0, 0))).cell? ⟨wr.heap.size, 0, none⟩ = some (.int .i32 xa) := (block_cell (i := 0) hbxr).trans rfl
                                have c1 : (wr.alloc (.cells #[.int .i32 xa, .int .i32 xb, .int .i64 ((m : Int) + 1)] 75 (0, 0))).cell? ⟨wr.heap.size, 1, none⟩ = some (.int .i32 xb) := (block_cell (i := 1) hbxr).trans rfl
                                have c2 : (wr.alloc (.cells #[.int .i32 xa, .int .i32 xb, .int .i64 ((m : Int) + 1)] 75 (0, 0))).cell? ⟨wr.heap.size, 2, none⟩ = some (.int .i64 ((m : Int) + 1)) := (block_cell (i := 2) hbxr).trans rfl
                                clear hc hx hga hbxr hp1 hp2 hp3 hn1 hn2
                                go_wp2_with fail
                                clear q0 q1 q2
                                have HL9 : Hid True := Lib.hid trivial
                                have m0 : (wr.alloc (.cells #[.int .i32 xa, .int .i32 xb, .int .i64 ((m : Int) + 1)] 75 (0, 0))).cell? ⟨w.heap.size, 0, none⟩ = some (.slice (some ⟨nb, no, none⟩) B.names.length A.nc) := (World.cell?_alloc_lt _ _ _ (cell_lt n0)).trans n0
                                have m1 : (wr.alloc (.cells #[.int .i32 xa, .int .i32 xb, .int .i64 ((m : Int) + 1)] 75 (0, 0))).cell? ⟨nb, no + m, none⟩ = some (.string dt) := (World.cell?_alloc_lt _ _ _ (cell_lt n1)).trans n1
                                go_region_held_law (fun w' => w'.cell? ⟨wr.heap.size, 0, none⟩ = some (.int .i32 xa) ∧ w'.cell? ⟨wr.heap.size, 1, none⟩ = some (.int .i32 xb) ∧ w'.cell? ⟨wr.heap.size, 2, none⟩ = some (.int .i64 ((m : Int) + 1)) ∧ w'.cell? ⟨w.heap.size, 0, none⟩ = some (.slice (some ⟨nb, no, none⟩) B.names.length A.nc) ∧ w'.cell? ⟨nb, no + m, none⟩ = some (.string dt))
                                  (first | exact ⟨c0', c1', c2', m0', m1'⟩ | exact ⟨c0, c1, c2, m0, m1⟩ | go_keep)
                                  ((first | (go_at_call 29; refine (HSP.out _).mono ?_; rintro e w5 ⟨rfl, hb5⟩; have c0' := (hb5.cell (p := ⟨wr.heap.size, 0, none⟩) (by simp; try omega)).trans c0; have c1' := (hb5.cell (p := ⟨wr.heap.size, 1, none⟩) (by simp; try omega)).trans c1; have c2' := (hb5.cell (p := ⟨wr.heap.size, 2, none⟩) (by simp; try omega)).trans c2; have m0' := (hb5.cell (p := ⟨w.heap.size, 0, none⟩) (cell_lt m0)).trans m0; have m1' := (hb5.cell (p := ⟨nb, no + m, none⟩) (cell_lt m1)).trans m1; have hw5 := HB2.out.drew.trans (hb5.mono HB2.out.size); clear hb5)))
                                all_goals
                                  go_wp2_with fail
                                  go_roundw
                                  case rel => exact ⟨i + 1, _, by go_num, rfl, by omega, by simp only [ByteArray.size_append]; show _ + (((8 + _) + 2) + _ + 1) ≤ _; omega, Lib.hid (by
                                    rw [HSN.out, ← List.append_assoc, ← hh.out]
                                    simp only [Go.Joins.data_append, HAT.out, HDT.out]
                                    rfl), hw5⟩
                                  case measure => simp [intOf]; omega
                              · obtain rfl : i = B.script.length := by omega
                                have hh2 : Hid (sS.data.toList = txt B 9) := Lib.hid (by rw [hh.out, List.take_length]; rfl)
                                have hs2 : sS.size ≤ 13107200 * 9 := by omega
                                clear hh hs hi hlt
                                have hh := hh2
                                clear hh2
                                have kk10 : wr.cell? ⟨w.heap.size, 10, none⟩ = some (.slice A.la B.like.length A.lc) := (block_cell (i := 10) ((hb.block _ hlw1).trans hx1.out)).trans rfl
                                have HLD := Lib.hid (listed_any ⟨#[108, 105, 107, 101]⟩ A.la B.like A.lc wr (by decide) HG.out.l.1 (pts_of HG.out.l) (HL1.out.l.below hb))
                                go_wp2_with fail
                                refine HLD.out.mono ?_
                                rintro e w2 ⟨t, rfl, ht, hb2⟩
                                have hts : t.size ≤ 13107200 := by
                                  rw [← size_data, ht]
                                  have h1 := flatMap_le (listT (⟨#[108, 105, 107, 101]⟩ : ByteArray).data.toList) 200 B.like (fun x hx => listT_le _ _ (by decide) (pts_of HG.out.l x hx).2.2.1)
                                  have h2 := HG.out.l.1
                                  exact Nat.le_trans h1 (by omega)
                                have HT : Hid (t.data.toList = part B 9) := Lib.hid ht
                                have hbn := hb.trans (hb2.mono hb.size)
                                clear ht hb2 hb HLD kk10
                                have hb := hbn
                                clear hbn
                                go_wp2_with fail
                                go_ret2
                                refine ⟨.inl ⟨HF.out, _, rfl, by rw [Go.Joins.data_append, hh.out, HT.out]; rfl⟩, hbW1.trans (hb.mono hbW1.size)⟩

end Go.Proofs.YtgdambmineeboaaGreatDoor.RefText
