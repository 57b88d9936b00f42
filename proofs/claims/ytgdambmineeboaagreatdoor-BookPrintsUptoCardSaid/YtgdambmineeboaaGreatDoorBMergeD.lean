/- A region that draws its order, each operation shown but once: what each operation gives is said by a predicate on its value and the world, which later operations keep; so no order is branched over. A law of my own over the kit's wpAny. -/
import Derived.Orders
import Derived.Deep.RegionWith
set_option linter.unusedSimpArgs false
set_option linter.unusedVariables false
namespace Go.Proofs.YtgdambmineeboaaGreatDoor.Merge
open Go

def upd (vals : Nat → Value) (i : Nat) (v : Value) : Nat → Value := fun j => if j = i then v else vals j
theorem upd_same (vals : Nat → Value) (i : Nat) (v : Value) : upd vals i v i = v := by unfold upd; rw [if_pos rfl]
theorem upd_other (vals : Nat → Value) {i j : Nat} (v : Value) (h : j ≠ i) : upd vals i v j = vals j := by unfold upd; rw [if_neg h]

section
variable {P : Program} {Q : Exit → Act → World → Prop} {md : Region.Mode}

/-- What is asked of one operation. -/
structure StepOf (P : Program) (md : Region.Mode) (Q : Exit → Act → World → Prop) (F : (Nat → Value) → Act) (V : Nat → Value → World → Prop) (I : World → Prop) (R : World → World → Prop) (o : Oper) (i : Nat) : Prop where
  free : o.guard = none
  back : (o.after.toList.all fun e => decide (e.on < i)) = true
  put : ∀ vals v, (F vals).put o.dst v = F (upd vals i v)
  run : ∀ vals w, I w → (∀ e ∈ o.after, Region.binds md e = true → V e.on (vals e.on) w) → ∀ K : Act → World → Prop, (∀ v w', V i v w' → R w w' → K ((F vals).put o.dst v) w') → o.wp P (F vals) w K Q

def AllSteps (P : Program) (md : Region.Mode) (Q : Exit → Act → World → Prop) (F : (Nat → Value) → Act) (V : Nat → Value → World → Prop) (I : World → Prop) (R : World → World → Prop) : List Oper → Nat → Prop
  | [], _ => True
  | o :: l, k => StepOf P md Q F V I R o k ∧ AllSteps P md Q F V I R l (k + 1)
theorem AllSteps.nil {F : (Nat → Value) → Act} {V : Nat → Value → World → Prop} {I : World → Prop} {R : World → World → Prop} {k : Nat} : AllSteps P md Q F V I R [] k := trivial
theorem AllSteps.cons {F : (Nat → Value) → Act} {V : Nat → Value → World → Prop} {I : World → Prop} {R : World → World → Prop} {k : Nat} {o : Oper} {l : List Oper} (h : StepOf P md Q F V I R o k) (hl : AllSteps P md Q F V I R l (k + 1)) : AllSteps P md Q F V I R (o :: l) k := ⟨h, hl⟩
theorem AllSteps.at {F : (Nat → Value) → Act} {V : Nat → Value → World → Prop} {I : World → Prop} {R : World → World → Prop} : ∀ {l : List Oper} {k j : Nat} {o : Oper}, AllSteps P md Q F V I R l k → l[j]? = some o → StepOf P md Q F V I R o (k + j)
  | [], _, _, _, _, h => by simp at h
  | _ :: _, _, 0, _, hs, h => by cases h; exact hs.1
  | _ :: l, k, j + 1, o, hs, h => by
    have := AllSteps.at (j := j) (o := o) hs.2 (by simpa using h)
    rwa [show k + 1 + j = k + (j + 1) from by omega] at this

def unl (n : Nat) (listed : Array Bool) : Nat := ((List.range n).filter fun i => !listed.getD i true).length
theorem filter_less {α : Type} [DecidableEq α] (p q : α → Bool) (hpq : ∀ x, p x = true → q x = true) {i : α} : ∀ {l : List α}, i ∈ l → q i = true → p i = false → (l.filter p).length < (l.filter q).length
  | [], h, _, _ => by cases h
  | y :: l, h, hq, hp => by
    have hle : (l.filter p).length ≤ (l.filter q).length := by
      clear h
      induction l with
      | nil => exact Nat.le_refl _
      | cons z l ih =>
        cases hz : p z with
        | true => rw [List.filter_cons_of_pos hz, List.filter_cons_of_pos (hpq z hz)]; simpa using ih
        | false =>
          rw [List.filter_cons_of_neg (by rw [hz]; decide)]
          cases hz2 : q z with
          | true => rw [List.filter_cons_of_pos hz2]; simp only [List.length_cons]; omega
          | false => rw [List.filter_cons_of_neg (by rw [hz2]; decide)]; exact ih
    by_cases hy : y = i
    · subst hy
      rw [List.filter_cons_of_neg (by rw [hp]; decide), List.filter_cons_of_pos hq]
      simp only [List.length_cons]
      omega
    · have hi : i ∈ l := by
        rcases List.mem_cons.1 h with h | h
        · exact absurd h.symm hy
        · exact h
      have ih := filter_less p q hpq hi hq hp
      cases hz : p y with
      | true => rw [List.filter_cons_of_pos hz, List.filter_cons_of_pos (hpq y hz)]; simpa using ih
      | false =>
        rw [List.filter_cons_of_neg (by rw [hz]; decide)]
        cases hz2 : q y with
        | true => rw [List.filter_cons_of_pos hz2]; simp only [List.length_cons]; omega
        | false => rw [List.filter_cons_of_neg (by rw [hz2]; decide)]; exact ih

theorem merge {l : List Oper} {F : (Nat → Value) → Act} {V : Nat → Value → World → Prop} {I : World → Prop} {R : World → World → Prop}
    (hS : AllSteps P md Q F V I R l 0) (hV : ∀ i v w w', V i v w → R w w' → V i v w') (hI : ∀ w w', I w → R w w' → I w')
    (hdone : ∀ vals w, I w → (∀ i, i < l.length → V i (vals i) w) → Q .normal (F vals) w) :
    ∀ (fuel : Nat) (listed : Array Bool) (vals : Nat → Value) (w : World), listed.size = l.length → unl l.length listed ≤ fuel → I w → (∀ i, listed.getD i false = true → V i (vals i) w) → wpAny P md l.toArray Q fuel listed (F vals) w := by
  have hend : ∀ (listed : Array Bool) (vals : Nat → Value) (w : World), listed.size = l.length → I w → (∀ i, listed.getD i false = true → V i (vals i) w) → Region.ready md l.toArray listed = [] → Q .normal (F vals) w := by
    intro listed vals w hsz hi hv hr
    have all : ∀ i, i < l.length → listed.getD i false = true := by
      intro i
      induction i using Nat.strongRecOn with
      | _ i ih =>
        intro hlt
        cases hc : listed.getD i false with
        | true => rfl
        | false =>
          exfalso
          obtain ⟨o, ho⟩ : ∃ o, l[i]? = some o := ⟨_, List.getElem?_eq_getElem hlt⟩
          have hst := hS.at ho
          rw [Nat.zero_add] at hst
          have : i ∈ Region.ready md l.toArray listed := by
            rw [mem_ready]
            refine ⟨?_, o, by simpa using ho, fun e he _ => ?_⟩
            · have hlt' : i < listed.size := by omega
              simp [hlt'] at hc ⊢
              exact hc
            · have h1 : e.on < i := by have := List.all_eq_true.1 hst.back e (by simpa using he); simpa using this
              exact ih e.on h1 (by omega)
          rw [hr] at this
          cases this
    exact hdone vals w hi fun i h => hv i (all i h)
  intro fuel
  induction fuel with
  | zero =>
    intro listed vals w hsz hu hi hv
    have hr : Region.ready md l.toArray listed = [] := by
      cases hr : Region.ready md l.toArray listed with
      | nil => rfl
      | cons i rs =>
        exfalso
        have hmem : i ∈ Region.ready md l.toArray listed := by rw [hr]; exact List.mem_cons_self ..
        obtain ⟨h0, o, ho, _⟩ := mem_ready.1 hmem
        have hlt : i < l.length := by
          have := (Array.getElem?_eq_some_iff.1 ho).1
          simpa using this
        have : i ∈ (List.range l.length).filter fun i => !listed.getD i true := List.mem_filter.2 ⟨List.mem_range.2 hlt, by rw [h0]; rfl⟩
        unfold unl at hu
        have hp := List.length_pos_of_mem this
        omega
    exact ⟨hr, hend listed vals w hsz hi hv hr⟩
  | succ fuel ih =>
    intro listed vals w hsz hu hi hv
    refine ⟨fun hr => hend listed vals w hsz hi hv hr, fun i hmem => ?_⟩
    obtain ⟨h0, o, ho, hall⟩ := mem_ready.1 hmem
    have hol : l[i]? = some o := by simpa using ho
    have hlt : i < l.length := (List.getElem?_eq_some_iff.1 hol).1
    have hst := hS.at hol
    rw [Nat.zero_add] at hst
    have hw : Region.wanted o (yielded l.toArray (F vals).tmps) = true := by simp [Region.wanted, hst.free]
    unfold wpOp
    rw [ho]
    simp only [hw, if_true]
    refine .inl (hst.run vals w hi (fun e he hb => hv e.on (hall e he hb)) _ fun v w' hvi hr => ?_)
    rw [hst.put]
    refine ih _ (upd vals i v) w' (by simpa using hsz) ?_ (hI w w' hi hr) ?_
    · have hlt2 : unl l.length (listed.setIfInBounds i true) < unl l.length listed := by
        unfold unl
        refine filter_less _ _ ?_ (List.mem_range.2 hlt) (by rw [h0]; rfl) ?_
        · intro x hx
          by_cases hxi : i = x
          · subst hxi; rw [h0]; rfl
          · rw [getD_set_ne true hxi] at hx; exact hx
        · have : i < listed.size := by omega
          simp [this]
      omega
    · intro j hj
      by_cases hji : j = i
      · subst hji
        rw [upd_same]
        exact hvi
      · rw [upd_other vals v hji]
        rw [getD_set_ne false (Ne.symm hji)] at hj
        exact hV j _ w w' (hv j hj) hr

theorem wp_region_merge {id : Nat} {l : List Oper} {a : Act} {w : World} (hm : P.follows .mixedOrders = true) (F : (Nat → Value) → Act) (V : Nat → Value → World → Prop) (I : World → Prop) (R : World → World → Prop) (vals0 : Nat → Value)
    (ha : a = F vals0) (hV : ∀ i v w w', V i v w → R w w' → V i v w') (hI : ∀ w w', I w → R w w' → I w') (h0 : I w.drew) (hS : AllSteps P .any Q F V I R l 0)
    (hdone : ∀ vals w, I w → (∀ i, i < l.length → V i (vals i) w) → Q .normal (F vals) w) : (Code.region id l.toArray true).wp P Q a w := by
  subst ha
  refine wp_region_any hm ?_
  refine merge hS hV hI hdone _ _ vals0 _ (by simp) ?_ h0 ?_
  · unfold unl
    have := List.length_filter_le (fun i => !(Array.replicate l.toArray.size false).getD i true) (List.range l.length)
    simpa using this
  · intro i hi
    exfalso
    by_cases h : i < (Array.replicate l.toArray.size false).size
    · simp at h
      simp [h] at hi
    · simp at h
      simp [h] at hi
end
end Go.Proofs.YtgdambmineeboaaGreatDoor.Merge

/- As BMergeD, and operations may be guarded: one that is not wanted gives the undefined value. -/
namespace Go.Proofs.YtgdambmineeboaaGreatDoor.MergeG
open Go Go.Proofs.YtgdambmineeboaaGreatDoor.Merge

section
variable {P : Program} {Q : Exit → Act → World → Prop} {md : Region.Mode}

/-- What is asked of one operation. -/
structure StepOf (P : Program) (md : Region.Mode) (Q : Exit → Act → World → Prop) (F : (Nat → Value) → Act) (V : Nat → (Nat → Value) → World → Prop) (D : Nat → List Nat) (I : World → Prop) (R : World → World → Prop) (ops : Array Oper) (o : Oper) (i : Nat) : Prop where
  back : (o.after.toList.all fun e => decide (e.on < i)) = true
  dep : ∀ d ∈ D i, ∃ e ∈ o.after, e.on = d ∧ Region.binds md e = true
  put : ∀ vals v, (F vals).put o.dst v = F (upd vals i v)
  run : ∀ vals w, I w → (∀ e ∈ o.after, Region.binds md e = true → V e.on vals w) → ∀ K : Act → World → Prop, (∀ v w', V i (upd vals i v) w' → R w w' → K ((F vals).put o.dst v) w') → if Region.wanted o (yielded ops (F vals).tmps) then o.wp P (F vals) w K Q else K ((F vals).put o.dst undef) w

def AllSteps (P : Program) (md : Region.Mode) (Q : Exit → Act → World → Prop) (F : (Nat → Value) → Act) (V : Nat → (Nat → Value) → World → Prop) (D : Nat → List Nat) (I : World → Prop) (R : World → World → Prop) (ops : Array Oper) : List Oper → Nat → Prop
  | [], _ => True
  | o :: l, k => MergeG.StepOf P md Q F V D I R ops o k ∧ MergeG.AllSteps P md Q F V D I R ops l (k + 1)
theorem AllSteps.nil {ops : Array Oper} {F : (Nat → Value) → Act} {V : Nat → (Nat → Value) → World → Prop} {D : Nat → List Nat} {I : World → Prop} {R : World → World → Prop} {k : Nat} : MergeG.AllSteps P md Q F V D I R ops [] k := trivial
theorem AllSteps.cons {ops : Array Oper} {F : (Nat → Value) → Act} {V : Nat → (Nat → Value) → World → Prop} {D : Nat → List Nat} {I : World → Prop} {R : World → World → Prop} {k : Nat} {o : Oper} {l : List Oper} (h : MergeG.StepOf P md Q F V D I R ops o k) (hl : MergeG.AllSteps P md Q F V D I R ops l (k + 1)) : MergeG.AllSteps P md Q F V D I R ops (o :: l) k := ⟨h, hl⟩
theorem AllSteps.at {ops : Array Oper} {F : (Nat → Value) → Act} {V : Nat → (Nat → Value) → World → Prop} {D : Nat → List Nat} {I : World → Prop} {R : World → World → Prop} : ∀ {l : List Oper} {k j : Nat} {o : Oper}, MergeG.AllSteps P md Q F V D I R ops l k → l[j]? = some o → MergeG.StepOf P md Q F V D I R ops o (k + j)
  | [], _, _, _, _, h => by simp at h
  | _ :: _, _, 0, _, hs, h => by cases h; exact hs.1
  | _ :: l, k, j + 1, o, hs, h => by
    have := MergeG.AllSteps.at (j := j) (o := o) hs.2 (by simpa using h)
    rwa [show k + 1 + j = k + (j + 1) from by omega] at this

theorem merge {l : List Oper} {F : (Nat → Value) → Act} {V : Nat → (Nat → Value) → World → Prop} {D : Nat → List Nat} {I : World → Prop} {R : World → World → Prop}
    (hS : MergeG.AllSteps P md Q F V D I R l.toArray l 0) (hV : ∀ i vals w w', V i vals w → R w w' → V i vals w') (hloc : ∀ i vals vals' w, (∀ j, j = i ∨ j ∈ D i → vals j = vals' j) → V i vals w → V i vals' w) (hI : ∀ w w', I w → R w w' → I w')
    (hdone : ∀ vals w, I w → (∀ i, i < l.length → V i vals w) → Q .normal (F vals) w) :
    ∀ (fuel : Nat) (listed : Array Bool) (vals : Nat → Value) (w : World), listed.size = l.length → unl l.length listed ≤ fuel → I w → (∀ i, listed.getD i false = true → V i vals w ∧ ∀ d ∈ D i, listed.getD d false = true) → wpAny P md l.toArray Q fuel listed (F vals) w := by
  have hend : ∀ (listed : Array Bool) (vals : Nat → Value) (w : World), listed.size = l.length → I w → (∀ i, listed.getD i false = true → V i vals w) → Region.ready md l.toArray listed = [] → Q .normal (F vals) w := by
    intro listed vals w hsz hi hv hr
    have all : ∀ i, i < l.length → listed.getD i false = true := by
      intro i
      induction i using Nat.strongRecOn with
      | _ i ih =>
        intro hlt
        cases hc : listed.getD i false with
        | true => rfl
        | false =>
          exfalso
          obtain ⟨o, ho⟩ : ∃ o, l[i]? = some o := ⟨_, List.getElem?_eq_getElem hlt⟩
          have hst := hS.at ho
          rw [Nat.zero_add] at hst
          have : i ∈ Region.ready md l.toArray listed := by
            rw [mem_ready]
            refine ⟨?_, o, by simpa using ho, fun e he _ => ?_⟩
            · have hlt' : i < listed.size := by omega
              simp [hlt'] at hc ⊢
              exact hc
            · have h1 : e.on < i := by have := List.all_eq_true.1 hst.back e (by simpa using he); simpa using this
              exact ih e.on h1 (by omega)
          rw [hr] at this
          cases this
    exact hdone vals w hi fun i h => hv i (all i h)
  intro fuel
  induction fuel with
  | zero =>
    intro listed vals w hsz hu hi hv
    have hr : Region.ready md l.toArray listed = [] := by
      cases hr : Region.ready md l.toArray listed with
      | nil => rfl
      | cons i rs =>
        exfalso
        have hmem : i ∈ Region.ready md l.toArray listed := by rw [hr]; exact List.mem_cons_self ..
        obtain ⟨h0, o, ho, _⟩ := mem_ready.1 hmem
        have hlt : i < l.length := by
          have := (Array.getElem?_eq_some_iff.1 ho).1
          simpa using this
        have : i ∈ (List.range l.length).filter fun i => !listed.getD i true := List.mem_filter.2 ⟨List.mem_range.2 hlt, by rw [h0]; rfl⟩
        unfold unl at hu
        have hp := List.length_pos_of_mem this
        omega
    exact ⟨hr, hend listed vals w hsz hi (fun i h => (hv i h).1) hr⟩
  | succ fuel ih =>
    intro listed vals w hsz hu hi hv
    refine ⟨fun hr => hend listed vals w hsz hi (fun i h => (hv i h).1) hr, fun i hmem => ?_⟩
    obtain ⟨h0, o, ho, hall⟩ := mem_ready.1 hmem
    have hol : l[i]? = some o := by simpa using ho
    have hlt : i < l.length := (List.getElem?_eq_some_iff.1 hol).1
    have hst := hS.at hol
    rw [Nat.zero_add] at hst
    have key : ∀ v w', V i (upd vals i v) w' → R w w' → wpAny P md l.toArray Q fuel (listed.setIfInBounds i true) ((F vals).put o.dst v) w' := by
      intro v w' hvi hr
      rw [hst.put]
      refine ih _ (upd vals i v) w' (by simpa using hsz) ?_ (hI w w' hi hr) ?_
      · have hlt2 : unl l.length (listed.setIfInBounds i true) < unl l.length listed := by
          unfold unl
          refine filter_less _ _ ?_ (List.mem_range.2 hlt) (by rw [h0]; rfl) ?_
          · intro x hx
            by_cases hxi : i = x
            · subst hxi; rw [h0]; rfl
            · rw [getD_set_ne true hxi] at hx; exact hx
          · have : i < listed.size := by omega
            simp [this]
        omega
      · have hkeep : ∀ j, listed.getD j false = true → (listed.setIfInBounds i true).getD j false = true := fun j hj => by
          by_cases hji : j = i
          · subst hji
            have : j < listed.size := by omega
            simp [this]
          · rw [getD_set_ne false (Ne.symm hji)]
            exact hj
        intro j hj
        by_cases hji : j = i
        · subst hji
          refine ⟨hvi, fun d hd => hkeep d ?_⟩
          obtain ⟨e, he, rfl, hbd⟩ := hst.dep d hd
          exact hall e he hbd
        · rw [getD_set_ne false (Ne.symm hji)] at hj
          obtain ⟨h1, h2⟩ := hv j hj
          have hni : listed.getD i false = false := by
            have : i < listed.size := by omega
            simp [this] at h0 ⊢
            exact h0
          refine ⟨hloc j vals _ w' (fun k hk => ?_) (hV j vals w w' h1 hr), fun d hd => hkeep d (h2 d hd)⟩
          have hki : k ≠ i := by
            rcases hk with rfl | hk
            · exact hji
            · intro e
              subst e
              rw [h2 k hk] at hni
              cases hni
          rw [upd_other vals v hki]
    have hrun := hst.run vals w hi (fun e he hb => (hv e.on (hall e he hb)).1) _ key
    unfold wpOp
    rw [ho]
    simp only
    by_cases hw : Region.wanted o (yielded l.toArray (F vals).tmps) = true
    · rw [if_pos hw] at hrun ⊢
      exact .inl hrun
    · rw [if_neg hw] at hrun ⊢
      exact hrun

theorem wp_region_merge {id : Nat} {l : List Oper} {a : Act} {w : World} (hm : P.follows .mixedOrders = true) (F : (Nat → Value) → Act) (V : Nat → (Nat → Value) → World → Prop) (D : Nat → List Nat) (I : World → Prop) (R : World → World → Prop) (vals0 : Nat → Value)
    (ha : a = F vals0) (hV : ∀ i vals w w', V i vals w → R w w' → V i vals w') (hloc : ∀ i vals vals' w, (∀ j, j = i ∨ j ∈ D i → vals j = vals' j) → V i vals w → V i vals' w) (hI : ∀ w w', I w → R w w' → I w') (h0 : I w.drew) (hS : MergeG.AllSteps P .any Q F V D I R l.toArray l 0)
    (hdone : ∀ vals w, I w → (∀ i, i < l.length → V i vals w) → Q .normal (F vals) w) : (Code.region id l.toArray true).wp P Q a w := by
  subst ha
  refine wp_region_any hm ?_
  refine MergeG.merge hS hV hloc hI hdone _ _ vals0 _ (by simp) ?_ h0 ?_
  · unfold unl
    have := List.length_filter_le (fun i => !(Array.replicate l.toArray.size false).getD i true) (List.range l.length)
    simpa using this
  · intro i hi
    exfalso
    by_cases h : i < (Array.replicate l.toArray.size false).size
    · simp at h
      simp [h] at hi
    · simp at h
      simp [h] at hi
end
end Go.Proofs.YtgdambmineeboaaGreatDoor.MergeG

/- As BMerge, but what is said of an operation may speak of the values it comes after (a store, and where it stores). -/
namespace Go.Proofs.YtgdambmineeboaaGreatDoor.MergeD
open Go Go.Proofs.YtgdambmineeboaaGreatDoor.Merge

section
variable {P : Program} {Q : Exit → Act → World → Prop} {md : Region.Mode}

/-- What is asked of one operation. -/
structure StepOf (P : Program) (md : Region.Mode) (Q : Exit → Act → World → Prop) (F : (Nat → Value) → Act) (V : Nat → (Nat → Value) → World → Prop) (D : Nat → List Nat) (I : World → Prop) (R : World → World → Prop) (o : Oper) (i : Nat) : Prop where
  free : o.guard = none
  back : (o.after.toList.all fun e => decide (e.on < i)) = true
  dep : ∀ d ∈ D i, ∃ e ∈ o.after, e.on = d ∧ Region.binds md e = true
  put : ∀ vals v, (F vals).put o.dst v = F (upd vals i v)
  run : ∀ vals w, I w → (∀ e ∈ o.after, Region.binds md e = true → V e.on vals w) → ∀ K : Act → World → Prop, (∀ v w', V i (upd vals i v) w' → R w w' → K ((F vals).put o.dst v) w') → o.wp P (F vals) w K Q

def AllSteps (P : Program) (md : Region.Mode) (Q : Exit → Act → World → Prop) (F : (Nat → Value) → Act) (V : Nat → (Nat → Value) → World → Prop) (D : Nat → List Nat) (I : World → Prop) (R : World → World → Prop) : List Oper → Nat → Prop
  | [], _ => True
  | o :: l, k => MergeD.StepOf P md Q F V D I R o k ∧ MergeD.AllSteps P md Q F V D I R l (k + 1)
theorem AllSteps.nil {F : (Nat → Value) → Act} {V : Nat → (Nat → Value) → World → Prop} {D : Nat → List Nat} {I : World → Prop} {R : World → World → Prop} {k : Nat} : MergeD.AllSteps P md Q F V D I R [] k := trivial
theorem AllSteps.cons {F : (Nat → Value) → Act} {V : Nat → (Nat → Value) → World → Prop} {D : Nat → List Nat} {I : World → Prop} {R : World → World → Prop} {k : Nat} {o : Oper} {l : List Oper} (h : MergeD.StepOf P md Q F V D I R o k) (hl : MergeD.AllSteps P md Q F V D I R l (k + 1)) : MergeD.AllSteps P md Q F V D I R (o :: l) k := ⟨h, hl⟩
theorem AllSteps.at {F : (Nat → Value) → Act} {V : Nat → (Nat → Value) → World → Prop} {D : Nat → List Nat} {I : World → Prop} {R : World → World → Prop} : ∀ {l : List Oper} {k j : Nat} {o : Oper}, MergeD.AllSteps P md Q F V D I R l k → l[j]? = some o → MergeD.StepOf P md Q F V D I R o (k + j)
  | [], _, _, _, _, h => by simp at h
  | _ :: _, _, 0, _, hs, h => by cases h; exact hs.1
  | _ :: l, k, j + 1, o, hs, h => by
    have := MergeD.AllSteps.at (j := j) (o := o) hs.2 (by simpa using h)
    rwa [show k + 1 + j = k + (j + 1) from by omega] at this

theorem merge {l : List Oper} {F : (Nat → Value) → Act} {V : Nat → (Nat → Value) → World → Prop} {D : Nat → List Nat} {I : World → Prop} {R : World → World → Prop}
    (hS : MergeD.AllSteps P md Q F V D I R l 0) (hV : ∀ i vals w w', V i vals w → R w w' → V i vals w') (hloc : ∀ i vals vals' w, (∀ j, j = i ∨ j ∈ D i → vals j = vals' j) → V i vals w → V i vals' w) (hI : ∀ w w', I w → R w w' → I w')
    (hdone : ∀ vals w, I w → (∀ i, i < l.length → V i vals w) → Q .normal (F vals) w) :
    ∀ (fuel : Nat) (listed : Array Bool) (vals : Nat → Value) (w : World), listed.size = l.length → unl l.length listed ≤ fuel → I w → (∀ i, listed.getD i false = true → V i vals w ∧ ∀ d ∈ D i, listed.getD d false = true) → wpAny P md l.toArray Q fuel listed (F vals) w := by
  have hend : ∀ (listed : Array Bool) (vals : Nat → Value) (w : World), listed.size = l.length → I w → (∀ i, listed.getD i false = true → V i vals w) → Region.ready md l.toArray listed = [] → Q .normal (F vals) w := by
    intro listed vals w hsz hi hv hr
    have all : ∀ i, i < l.length → listed.getD i false = true := by
      intro i
      induction i using Nat.strongRecOn with
      | _ i ih =>
        intro hlt
        cases hc : listed.getD i false with
        | true => rfl
        | false =>
          exfalso
          obtain ⟨o, ho⟩ : ∃ o, l[i]? = some o := ⟨_, List.getElem?_eq_getElem hlt⟩
          have hst := hS.at ho
          rw [Nat.zero_add] at hst
          have : i ∈ Region.ready md l.toArray listed := by
            rw [mem_ready]
            refine ⟨?_, o, by simpa using ho, fun e he _ => ?_⟩
            · have hlt' : i < listed.size := by omega
              simp [hlt'] at hc ⊢
              exact hc
            · have h1 : e.on < i := by have := List.all_eq_true.1 hst.back e (by simpa using he); simpa using this
              exact ih e.on h1 (by omega)
          rw [hr] at this
          cases this
    exact hdone vals w hi fun i h => hv i (all i h)
  intro fuel
  induction fuel with
  | zero =>
    intro listed vals w hsz hu hi hv
    have hr : Region.ready md l.toArray listed = [] := by
      cases hr : Region.ready md l.toArray listed with
      | nil => rfl
      | cons i rs =>
        exfalso
        have hmem : i ∈ Region.ready md l.toArray listed := by rw [hr]; exact List.mem_cons_self ..
        obtain ⟨h0, o, ho, _⟩ := mem_ready.1 hmem
        have hlt : i < l.length := by
          have := (Array.getElem?_eq_some_iff.1 ho).1
          simpa using this
        have : i ∈ (List.range l.length).filter fun i => !listed.getD i true := List.mem_filter.2 ⟨List.mem_range.2 hlt, by rw [h0]; rfl⟩
        unfold unl at hu
        have hp := List.length_pos_of_mem this
        omega
    exact ⟨hr, hend listed vals w hsz hi (fun i h => (hv i h).1) hr⟩
  | succ fuel ih =>
    intro listed vals w hsz hu hi hv
    refine ⟨fun hr => hend listed vals w hsz hi (fun i h => (hv i h).1) hr, fun i hmem => ?_⟩
    obtain ⟨h0, o, ho, hall⟩ := mem_ready.1 hmem
    have hol : l[i]? = some o := by simpa using ho
    have hlt : i < l.length := (List.getElem?_eq_some_iff.1 hol).1
    have hst := hS.at hol
    rw [Nat.zero_add] at hst
    have hw : Region.wanted o (yielded l.toArray (F vals).tmps) = true := by simp [Region.wanted, hst.free]
    unfold wpOp
    rw [ho]
    simp only [hw, if_true]
    refine .inl (hst.run vals w hi (fun e he hb => (hv e.on (hall e he hb)).1) _ fun v w' hvi hr => ?_)
    rw [hst.put]
    refine ih _ (upd vals i v) w' (by simpa using hsz) ?_ (hI w w' hi hr) ?_
    · have hlt2 : unl l.length (listed.setIfInBounds i true) < unl l.length listed := by
        unfold unl
        refine filter_less _ _ ?_ (List.mem_range.2 hlt) (by rw [h0]; rfl) ?_
        · intro x hx
          by_cases hxi : i = x
          · subst hxi; rw [h0]; rfl
          · rw [getD_set_ne true hxi] at hx; exact hx
        · have : i < listed.size := by omega
          simp [this]
      omega
    · have hkeep : ∀ j, listed.getD j false = true → (listed.setIfInBounds i true).getD j false = true := fun j hj => by
        by_cases hji : j = i
        · subst hji
          have : j < listed.size := by omega
          simp [this]
        · rw [getD_set_ne false (Ne.symm hji)]
          exact hj
      intro j hj
      by_cases hji : j = i
      · subst hji
        refine ⟨hvi, fun d hd => hkeep d ?_⟩
        obtain ⟨e, he, rfl, hbd⟩ := hst.dep d hd
        exact hall e he hbd
      · rw [getD_set_ne false (Ne.symm hji)] at hj
        obtain ⟨h1, h2⟩ := hv j hj
        have hni : listed.getD i false = false := by
          have : i < listed.size := by omega
          simp [this] at h0 ⊢
          exact h0
        refine ⟨hloc j vals _ w' (fun k hk => ?_) (hV j vals w w' h1 hr), fun d hd => hkeep d (h2 d hd)⟩
        have hki : k ≠ i := by
          rcases hk with rfl | hk
          · exact hji
          · intro e
            subst e
            rw [h2 k hk] at hni
            cases hni
        rw [upd_other vals v hki]

theorem wp_region_merge {id : Nat} {l : List Oper} {a : Act} {w : World} (hm : P.follows .mixedOrders = true) (F : (Nat → Value) → Act) (V : Nat → (Nat → Value) → World → Prop) (D : Nat → List Nat) (I : World → Prop) (R : World → World → Prop) (vals0 : Nat → Value)
    (ha : a = F vals0) (hV : ∀ i vals w w', V i vals w → R w w' → V i vals w') (hloc : ∀ i vals vals' w, (∀ j, j = i ∨ j ∈ D i → vals j = vals' j) → V i vals w → V i vals' w) (hI : ∀ w w', I w → R w w' → I w') (h0 : I w.drew) (hS : MergeD.AllSteps P .any Q F V D I R l 0)
    (hdone : ∀ vals w, I w → (∀ i, i < l.length → V i vals w) → Q .normal (F vals) w) : (Code.region id l.toArray true).wp P Q a w := by
  subst ha
  refine wp_region_any hm ?_
  refine MergeD.merge hS hV hloc hI hdone _ _ vals0 _ (by simp) ?_ h0 ?_
  · unfold unl
    have := List.length_filter_le (fun i => !(Array.replicate l.toArray.size false).getD i true) (List.range l.length)
    simpa using this
  · intro i hi
    exfalso
    by_cases h : i < (Array.replicate l.toArray.size false).size
    · simp at h
      simp [h] at hi
    · simp at h
      simp [h] at hi
end
end Go.Proofs.YtgdambmineeboaaGreatDoor.MergeD
