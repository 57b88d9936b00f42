/- As BMergeE, and what is held of the world may hang on the values; as BMergeG, and an operation knows what stands still as it was before the region: the places of those that come after it. -/
import Derived.Test.YtgdambmineeboaaGreatDoorBMergeD
import Derived.Test.YtgdambmineeboaaGreatDoorBTexts
set_option linter.unusedSimpArgs false
set_option linter.unusedVariables false
namespace Go.Proofs.YtgdambmineeboaaGreatDoor.MergeJ
open Go Go.Proofs.YtgdambmineeboaaGreatDoor.Merge

section
variable {P : Program} {Q : Exit → Act → World → Prop} {md : Region.Mode}

/-- What is asked of one operation. -/
structure StepOf (P : Program) (md : Region.Mode) (Q : Exit → Act → World → Prop) (F : (Nat → Value) → Act) (V : Nat → (Nat → Value) → World → Prop) (D : Nat → List Nat) (I : (Nat → Bool) → (Nat → Value) → World → Prop) (R : World → World → Prop) (vals0 : Nat → Value) (ops : Array Oper) (o : Oper) (i : Nat) : Prop where
  back : (o.after.toList.all fun e => decide (e.on < i)) = true
  dep : ∀ d ∈ D i, ∃ e ∈ o.after, e.on = d ∧ Region.binds md e = true
  put : ∀ vals v, (F vals).put o.dst v = F (upd vals i v)
  run : ∀ S vals w, I S vals w → S i = false → vals i = vals0 i → (∀ e ∈ o.after, Region.binds md e = true → V e.on vals w) → (∀ j, (i ∈ D j ∨ ∃ k ∈ D j, i ∈ D k) → vals j = vals0 j) → ∀ K : Act → World → Prop, (∀ v w', V i (upd vals i v) w' → R w w' → I (fun j => if j = i then true else S j) (upd vals i v) w' → K ((F vals).put o.dst v) w') → if Region.wanted o (yielded ops (F vals).tmps) then o.wp P (F vals) w K Q else K ((F vals).put o.dst undef) w

def AllSteps (P : Program) (md : Region.Mode) (Q : Exit → Act → World → Prop) (F : (Nat → Value) → Act) (V : Nat → (Nat → Value) → World → Prop) (D : Nat → List Nat) (I : (Nat → Bool) → (Nat → Value) → World → Prop) (R : World → World → Prop) (vals0 : Nat → Value) (ops : Array Oper) : List Oper → Nat → Prop
  | [], _ => True
  | o :: l, k => MergeJ.StepOf P md Q F V D I R vals0 ops o k ∧ MergeJ.AllSteps P md Q F V D I R vals0 ops l (k + 1)
theorem AllSteps.nil {vals0 : Nat → Value} {ops : Array Oper} {F : (Nat → Value) → Act} {V : Nat → (Nat → Value) → World → Prop} {D : Nat → List Nat} {I : (Nat → Bool) → (Nat → Value) → World → Prop} {R : World → World → Prop} {k : Nat} : MergeJ.AllSteps P md Q F V D I R vals0 ops [] k := trivial
theorem AllSteps.cons {vals0 : Nat → Value} {ops : Array Oper} {F : (Nat → Value) → Act} {V : Nat → (Nat → Value) → World → Prop} {D : Nat → List Nat} {I : (Nat → Bool) → (Nat → Value) → World → Prop} {R : World → World → Prop} {k : Nat} {o : Oper} {l : List Oper} (h : MergeJ.StepOf P md Q F V D I R vals0 ops o k) (hl : MergeJ.AllSteps P md Q F V D I R vals0 ops l (k + 1)) : MergeJ.AllSteps P md Q F V D I R vals0 ops (o :: l) k := ⟨h, hl⟩
theorem AllSteps.at {vals0 : Nat → Value} {ops : Array Oper} {F : (Nat → Value) → Act} {V : Nat → (Nat → Value) → World → Prop} {D : Nat → List Nat} {I : (Nat → Bool) → (Nat → Value) → World → Prop} {R : World → World → Prop} : ∀ {l : List Oper} {k j : Nat} {o : Oper}, MergeJ.AllSteps P md Q F V D I R vals0 ops l k → l[j]? = some o → MergeJ.StepOf P md Q F V D I R vals0 ops o (k + j)
  | [], _, _, _, _, h => by simp at h
  | _ :: _, _, 0, _, hs, h => by cases h; exact hs.1
  | _ :: l, k, j + 1, o, hs, h => by
    have := MergeJ.AllSteps.at (j := j) (o := o) hs.2 (by simpa using h)
    rwa [show k + 1 + j = k + (j + 1) from by omega] at this

theorem merge {vals0 : Nat → Value} {l : List Oper} {F : (Nat → Value) → Act} {V : Nat → (Nat → Value) → World → Prop} {D : Nat → List Nat} {I : (Nat → Bool) → (Nat → Value) → World → Prop} {R : World → World → Prop}
    (hS : MergeJ.AllSteps P md Q F V D I R vals0 l.toArray l 0) (hV : ∀ i vals w w', V i vals w → R w w' → V i vals w') (hloc : ∀ i vals vals' w, (∀ j, j = i ∨ j ∈ D i → vals j = vals' j) → V i vals w → V i vals' w)
    (hdone : ∀ S vals w, (∀ i, i < l.length → S i = true) → I S vals w → (∀ i, i < l.length → V i vals w) → Q .normal (F vals) w) :
    ∀ (fuel : Nat) (listed : Array Bool) (vals : Nat → Value) (w : World), listed.size = l.length → unl l.length listed ≤ fuel → I (fun j => listed.getD j false) vals w → (∀ i, listed.getD i false = true → V i vals w ∧ ∀ d ∈ D i, listed.getD d false = true) → (∀ i, listed.getD i false = false → vals i = vals0 i) → wpAny P md l.toArray Q fuel listed (F vals) w := by
  have hend : ∀ (listed : Array Bool) (vals : Nat → Value) (w : World), listed.size = l.length → I (fun j => listed.getD j false) vals w → (∀ i, listed.getD i false = true → V i vals w) → Region.ready md l.toArray listed = [] → Q .normal (F vals) w := by
    intro listed vals w hsz hi hv hr
    have all : ∀ i, i < l.length → listed.getD i false = true := by
      intro i
      induction i using Nat.strongRecOn with
      | _ i ih =>
        intro hlt
        cases hc : listed.getD i false with
        | true => rfl
        | false =>
          exfalso
          obtain ⟨o, ho⟩ : ∃ o, l[i]? = some o := ⟨_, List.getElem?_eq_getElem hlt⟩
          have hst := hS.at ho
          rw [Nat.zero_add] at hst
          have : i ∈ Region.ready md l.toArray listed := by
            rw [mem_ready]
            refine ⟨?_, o, by simpa using ho, fun e he _ => ?_⟩
            · have hlt' : i < listed.size := by omega
              simp [hlt'] at hc ⊢
              exact hc
            · have h1 : e.on < i := by have := List.all_eq_true.1 hst.back e (by simpa using he); simpa using this
              exact ih e.on h1 (by omega)
          rw [hr] at this
          cases this
    exact hdone _ vals w all hi fun i h => hv i (all i h)
  intro fuel
  induction fuel with
  | zero =>
    intro listed vals w hsz hu hi hv hun
    have hr : Region.ready md l.toArray listed = [] := by
      cases hr : Region.ready md l.toArray listed with
      | nil => rfl
      | cons i rs =>
        exfalso
        have hmem : i ∈ Region.ready md l.toArray listed := by rw [hr]; exact List.mem_cons_self ..
        obtain ⟨h0, o, ho, _⟩ := mem_ready.1 hmem
        have hlt : i < l.length := by
          have := (Array.getElem?_eq_some_iff.1 ho).1
          simpa using this
        have : i ∈ (List.range l.length).filter fun i => !listed.getD i true := List.mem_filter.2 ⟨List.mem_range.2 hlt, by rw [h0]; rfl⟩
        unfold unl at hu
        have hp := List.length_pos_of_mem this
        omega
    exact ⟨hr, hend listed vals w hsz hi (fun i h => (hv i h).1) hr⟩
  | succ fuel ih =>
    intro listed vals w hsz hu hi hv hun
    refine ⟨fun hr => hend listed vals w hsz hi (fun i h => (hv i h).1) hr, fun i hmem => ?_⟩
    obtain ⟨h0, o, ho, hall⟩ := mem_ready.1 hmem
    have hol : l[i]? = some o := by simpa using ho
    have hlt : i < l.length := (List.getElem?_eq_some_iff.1 hol).1
    have hst := hS.at hol
    rw [Nat.zero_add] at hst
    have hni : listed.getD i false = false := by
      have : i < listed.size := by omega
      simp [this] at h0 ⊢
      exact h0
    have hstill : ∀ j, (i ∈ D j ∨ ∃ k ∈ D j, i ∈ D k) → vals j = vals0 j := fun j hj => by
      cases hl : listed.getD j false with
      | false => exact hun j hl
      | true =>
        exfalso
        rcases hj with h | ⟨k, h1, h2⟩
        · have := (hv j hl).2 i h
          rw [hni] at this
          cases this
        · have hk := (hv j hl).2 k h1
          have := (hv k hk).2 i h2
          rw [hni] at this
          cases this
    have key : ∀ v w', V i (upd vals i v) w' → R w w' → I (fun j => if j = i then true else listed.getD j false) (upd vals i v) w' → wpAny P md l.toArray Q fuel (listed.setIfInBounds i true) ((F vals).put o.dst v) w' := by
      intro v w' hvi hr hi'
      rw [hst.put]
      have hS' : (fun j => if j = i then true else listed.getD j false) = fun j => (listed.setIfInBounds i true).getD j false := by
        funext j
        by_cases hji : j = i
        · subst hji
          have : j < listed.size := by omega
          simp [this]
        · rw [if_neg hji, getD_set_ne false (Ne.symm hji)]
      rw [hS'] at hi'
      refine ih _ (upd vals i v) w' (by simpa using hsz) ?_ hi' ?_ ?_
      · have hlt2 : unl l.length (listed.setIfInBounds i true) < unl l.length listed := by
          unfold unl
          refine filter_less _ _ ?_ (List.mem_range.2 hlt) (by rw [h0]; rfl) ?_
          · intro x hx
            by_cases hxi : i = x
            · subst hxi; rw [h0]; rfl
            · rw [getD_set_ne true hxi] at hx; exact hx
          · have : i < listed.size := by omega
            simp [this]
        omega
      · have hkeep : ∀ j, listed.getD j false = true → (listed.setIfInBounds i true).getD j false = true := fun j hj => by
          by_cases hji : j = i
          · subst hji
            have : j < listed.size := by omega
            simp [this]
          · rw [getD_set_ne false (Ne.symm hji)]
            exact hj
        intro j hj
        by_cases hji : j = i
        · subst hji
          refine ⟨hvi, fun d hd => hkeep d ?_⟩
          obtain ⟨e, he, rfl, hbd⟩ := hst.dep d hd
          exact hall e he hbd
        · rw [getD_set_ne false (Ne.symm hji)] at hj
          obtain ⟨h1, h2⟩ := hv j hj
          have hni : listed.getD i false = false := by
            have : i < listed.size := by omega
            simp [this] at h0 ⊢
            exact h0
          refine ⟨hloc j vals _ w' (fun k hk => ?_) (hV j vals w w' h1 hr), fun d hd => hkeep d (h2 d hd)⟩
          have hki : k ≠ i := by
            rcases hk with rfl | hk
            · exact hji
            · intro e
              subst e
              rw [h2 k hk] at hni
              cases hni
          rw [upd_other vals v hki]
      · intro j hj
        by_cases hji : j = i
        · subst hji
          exfalso
          have : j < listed.size := by omega
          simp [this] at hj
        · rw [upd_other vals v hji]
          exact hun j (by rw [getD_set_ne false (Ne.symm hji)] at hj; exact hj)
    have hrun := hst.run _ vals w hi hni (hun i hni) (fun e he hb => (hv e.on (hall e he hb)).1) hstill _ key
    unfold wpOp
    rw [ho]
    simp only
    by_cases hw : Region.wanted o (yielded l.toArray (F vals).tmps) = true
    · rw [if_pos hw] at hrun ⊢
      exact .inl hrun
    · rw [if_neg hw] at hrun ⊢
      exact hrun

theorem wp_region_merge {id : Nat} {l : List Oper} {a : Act} {w : World} (hm : P.follows .mixedOrders = true) (F : (Nat → Value) → Act) (V : Nat → (Nat → Value) → World → Prop) (D : Nat → List Nat) (I : (Nat → Bool) → (Nat → Value) → World → Prop) (R : World → World → Prop) (vals0 : Nat → Value)
    (ha : a = F vals0) (hV : ∀ i vals w w', V i vals w → R w w' → V i vals w') (hloc : ∀ i vals vals' w, (∀ j, j = i ∨ j ∈ D i → vals j = vals' j) → V i vals w → V i vals' w) (h0 : I (fun _ => false) vals0 w.drew) (hS : MergeJ.AllSteps P .any Q F V D I R vals0 l.toArray l 0)
    (hdone : ∀ S vals w, (∀ i, i < l.length → S i = true) → I S vals w → (∀ i, i < l.length → V i vals w) → Q .normal (F vals) w) : (Code.region id l.toArray true).wp P Q a w := by
  subst ha
  refine wp_region_any hm ?_
  refine MergeJ.merge hS hV hloc hdone _ _ vals0 _ (by simp) ?_ (by have e : (fun j => (Array.replicate l.toArray.size false).getD j false) = fun _ => false := by { funext j; by_cases h : j < l.toArray.size <;> simp at h <;> simp [h] }; rw [e]; exact h0) ?_ (fun _ _ => rfl)
  · unfold unl
    have := List.length_filter_le (fun i => !(Array.replicate l.toArray.size false).getD i true) (List.range l.length)
    simpa using this
  · intro i hi
    exfalso
    by_cases h : i < (Array.replicate l.toArray.size false).size
    · simp at h
      simp [h] at hi
    · simp at h
      simp [h] at hi
end
end Go.Proofs.YtgdambmineeboaaGreatDoor.MergeJ

/- The walk of book.Print. -/
namespace Go.Proofs.YtgdambmineeboaaGreatDoor.PrintP
open Go.RowKit Go.Lib Go.Proofs.YtgdambmineeboaaGreatDoor.Text Go.Proofs.YtgdambmineeboaaGreatDoor.Runes Go.Proofs.YtgdambmineeboaaGreatDoor.Print Go.Proofs.YtgdambmineeboaaGreatDoor.RefNine Go.Proofs.YtgdambmineeboaaGreatDoor.RefPrint Go.Proofs.YtgdambmineeboaaGreatDoor.Format Go.Proofs.YtgdambmineeboaaGreatDoor.Tell Go.Proofs.YtgdambmineeboaaGreatDoor.Given Go.Proofs.YtgdambmineeboaaGreatDoor.Mem Go.Proofs.YtgdambmineeboaaGreatDoor.Book Go.Proofs.YtgdambmineeboaaGreatDoor.Told Go.Proofs.YtgdambmineeboaaGreatDoor.Listed Go.Proofs.YtgdambmineeboaaGreatDoor.Lines10 Go.Proofs.YtgdambmineeboaaGreatDoor.Dirs Go.Proofs.YtgdambmineeboaaGreatDoor.Apart Go.Proofs.YtgdambmineeboaaGreatDoor.Put Go.Proofs.YtgdambmineeboaaGreatDoor.Vals10 Go.Proofs.YtgdambmineeboaaGreatDoor.Tells10 Go.Proofs.YtgdambmineeboaaGreatDoor.RefText Go.Proofs.YtgdambmineeboaaGreatDoor.Texts10 Go.Proofs.YtgdambmineeboaaGreatDoor.Fine Go.Proofs.YtgdambmineeboaaGreatDoor.CheckAll
theorem fld_small {s : ByteArray} (hz : s.size ≤ 400) (h : (s.data.toList.all fun c => decide ((c ≠ 10 ∧ c ≠ 13 ∧ c ≠ 59 ∧ c ≠ 35) ∧ c ≠ 32 ∧ c ≠ 9)) = true) : Fld s :=
  fld_of hz fun c hc => (show (c ≠ 10 ∧ c ≠ 13 ∧ c ≠ 59 ∧ c ≠ 35) ∧ c ≠ 32 ∧ c ≠ 9 from of_decide_eq_true (List.all_eq_true.1 h c hc))
theorem fld_dirs : ∀ s ∈ dirs, Fld s := by
  intro s hs
  have h1 : (dirs.all fun s => decide (s.size ≤ 400) && s.data.toList.all fun c => decide ((c ≠ 10 ∧ c ≠ 13 ∧ c ≠ 59 ∧ c ≠ 35) ∧ c ≠ 32 ∧ c ≠ 9)) = true := by decide +kernel
  have h2 := List.all_eq_true.1 h1 s hs
  rw [Bool.and_eq_true] at h2
  exact fld_small (of_decide_eq_true h2.1) h2.2
theorem fld_joins : ∀ s ∈ joins, Fld s := by
  intro s hs
  have h1 : (joins.all fun s => decide (s.size ≤ 400) && s.data.toList.all fun c => decide ((c ≠ 10 ∧ c ≠ 13 ∧ c ≠ 59 ∧ c ≠ 35) ∧ c ≠ 32 ∧ c ≠ 9)) = true := by decide +kernel
  have h2 := List.all_eq_true.1 h1 s hs
  rw [Bool.and_eq_true] at h2
  exact fld_small (of_decide_eq_true h2.1) h2.2
theorem fld_dec (n : Nat) (h : n < 1000) : Fld ⟨(Lib.decDigits n).toArray⟩ := by
  refine fld_of (by have := dec_le n h; omega) fun c hc => ?_
  obtain ⟨i, hi⟩ := List.getElem?_of_mem (l := Lib.decDigits n) hc
  have hlt : i < Lib.nDigits n := by rw [← Lib.decDigits_length]; exact (List.getElem?_eq_some_iff.1 hi).1
  have h1 : (Lib.decDigits n)[i]? = some (Lib.dg n (Lib.nDigits n - 1 - i)) := by
    rw [Lib.decDigits_eq, List.getElem?_map, List.getElem?_range hlt]
    rfl
  rw [hi] at h1
  cases h1
  unfold Lib.dg
  have := Nat.mod_lt (n / 10 ^ (Lib.nDigits n - 1 - i)) (show 10 > 0 by decide)
  generalize n / 10 ^ (Lib.nDigits n - 1 - i) % 10 = d at *
  have key : ∀ d : Fin 10, Plainish (UInt8.ofNat (48 + d.val)) := by unfold Plainish; decide
  exact key ⟨d, this⟩
theorem fld_name {l : List ByteArray} (h : NamesAll.OkNames l) {i : Nat} {s : ByteArray} (hs : l[i]? = some s) : Fld s := by
  have hz := name_small h hs
  obtain ⟨t, ht, hb, _⟩ := h.2 i (List.getElem?_eq_some_iff.1 hs).1
  rw [hs] at ht
  cases ht
  refine fld_of (by omega) fun c hc => ?_
  unfold Names.nameB at hb
  simp only [Bool.and_eq_true] at hb
  have hl := List.all_eq_true.1 hb.2 c hc
  have key : ∀ n : Fin 256, Names.letterB (UInt8.ofNat n.val) = true → Plainish (UInt8.ofNat n.val) := by unfold Plainish; decide +kernel
  have h1 := key ⟨c.toNat, c.toNat_lt⟩
  rw [show UInt8.ofNat (⟨c.toNat, c.toNat_lt⟩ : Fin 256).val = c from by simp] at h1
  exact h1 hl


theorem fld_kinds : Fld ⟨#[109, 97, 112, 112, 101, 100]⟩ ∧ Fld ⟨#[99, 108, 97, 115, 115]⟩ ∧ Fld ⟨#[100, 101, 99, 111, 109, 112, 111, 115, 101, 100]⟩ ∧ Fld ⟨#[101, 120, 99, 108, 117, 100, 101, 100]⟩ ∧ Fld ⟨#[98, 105, 100, 105]⟩ ∧ Fld ⟨#[106, 111, 105, 110, 105, 110, 103]⟩ ∧ Fld ⟨#[109, 97, 114, 107]⟩ ∧ Fld ⟨#[115, 99, 114, 105, 112, 116]⟩ ∧ Fld ⟨#[108, 105, 107, 101]⟩ :=
  ⟨fld_small (by decide) (by decide), fld_small (by decide) (by decide), fld_small (by decide) (by decide), fld_small (by decide) (by decide), fld_small (by decide) (by decide), fld_small (by decide) (by decide), fld_small (by decide) (by decide), fld_small (by decide) (by decide), fld_small (by decide) (by decide)⟩

def stB (n : Int) : ByteArray := ⟨(stN n).toArray⟩
theorem fld_st (n : Int) : Fld (stB n) := by
  unfold stB stN
  split
  · exact fld_small (by decide) (by decide)
  · split
    · exact fld_small (by decide) (by decide)
    · exact fld_small (by decide) (by decide)
def keepK (W W' : World) : Prop := ∀ g : Nat, W.heap[g]? = some kinds → W'.heap[g]? = some kinds
def vAny : VV := fun _ _ => True
theorem gAny (i : Nat) : Keeps keepK i vAny := ⟨fun _ _ _ _ _ => trivial, fun _ _ _ _ _ => trivial⟩
def predsP (n0 n : Nat) (xa xb : Int) (f : Value) (K : ByteArray) : List VV := [
  vC 0 f, vA 1, vC 2 (.pointer (some ⟨n0, 2, none⟩)), vC 3 (.int .i64 n), vP 4 n, vC 5 (.string K), vC 6 (.pointer (some ⟨n0, 0, none⟩)), vC 7 (.int .i32 xa), vC 8 (.pointer (some ⟨n0, 1, none⟩)), vC 9 (.int .i32 xb), vAny]
theorem predsP_keep (n0 n : Nat) (xa xb : Int) (f : Value) (K : ByteArray) : AllKeep keepK (predsP n0 n xa xb f K) 0 :=
  have hR : ∀ (W W' : World) (g : Nat), keepK W W' → W.heap[g]? = some kinds → W'.heap[g]? = some kinds := fun _ _ g h hk => h g hk
  ⟨gC _ _, ⟨gA hR _, ⟨gC _ _, ⟨gC _ _, ⟨gP hR _ _, ⟨gC _ _, ⟨gC _ _, ⟨gC _ _, ⟨gC _ _, ⟨gC _ _, ⟨gAny _, trivial⟩⟩⟩⟩⟩⟩⟩⟩⟩⟩⟩

set_option maxRecDepth 100000 in
set_option maxHeartbeats 8000000 in
theorem printP_any (B : Mem.Book) (A : Ads) (w : World) (hs : Small B) (hL : Lies w B A) (hcn : B.names.length ≤ A.nc) (hT : Tabs w) (hN : Tens w) :
    Calls Tryz.prog 6 #[bookV B A] w fun e w' => ((Fine B ∧ ∃ s : ByteArray, e = .returned (.tuple #[.string s, .int .i64 0]) ∧ s.data.toList = txt B 10) ∨ (¬ Fine B ∧ e = .returned (.tuple #[.string ⟨#[]⟩, .int .i64 100]))) ∧ Below w.heap.size w w' := by
  have HA0 := Lib.hid ((Below.refl w.heap.size w).alloc (Nat.le_refl _) (apiBox B A))
  have hbx0 := Lib.hid (heap_alloc_new w (apiBox B A))
  have HC := Lib.hid (checkP_any B A _ hs (hL.below HA0.out) hcn)
  have HL := Lib.hid hL
  have HT := Lib.hid hT
  have HN := Lib.hid hN
  have HNL := Lib.hid hs.n
  unfold bookV at HC ⊢
  unfold apiBox at HA0 hbx0 HC
  clear hs hL hcn hT hN
  go_enter Tryz.func6, Tryz.ntmps6
  go_wp2_with fail
  refine HC.out.mono ?_
  rintro e w1 ⟨⟨hf, rfl⟩ | ⟨hf, l, at1, rfl⟩, hb1⟩
  rotate_left
  · have hbW1 : Below w.heap.size w w1 := HA0.out.trans (hb1.mono HA0.out.size)
    have HF := Lib.hid hf
    clear hf
    go_wp2_with fail
    go_ret2
    exact ⟨.inr ⟨HF.out, rfl⟩, hbW1.alloc hbW1.size _⟩
  · have hbW1 := Lib.hid (HA0.out.trans (hb1.mono HA0.out.size))
    have hbx1 := Lib.hid ((hb1.block w.heap.size (by simp)).trans hbx0.out)
    have hlw1 : w.heap.size < w1.heap.size := Nat.lt_of_lt_of_le (by simp) hb1.size
    have HF := Lib.hid hf
    have HG := Lib.hid (good_of hf)
    clear hf hb1 HC
    obtain ⟨W2, hW2⟩ : ∃ W2, W2 = ((w1.alloc (.cells #[.int .i64 0, .int .i64 0] 54 (0, 0))).alloc (.cells #[.slice none 0 0] 57 (0, 0))).alloc (.cells #[.func (.func 17) #[] #[.pointer (some ⟨w1.heap.size + 1, 0, none⟩)]] 62 (0, 0)) := ⟨_, rfl⟩
    have hz2 : W2.heap.size = w1.heap.size + 1 + 1 + 1 := by rw [hW2]; simp
    have hbW2 : Below w1.heap.size w1 W2 := by rw [hW2]; exact (((Below.refl _ _).alloc (Nat.le_refl _) _).alloc (by simp) _).alloc (by simp; omega) _
    have hOB : W2.heap[w1.heap.size + 1]? = some (.cells #[.slice none 0 0] 57 (0, 0)) := by
      rw [hW2]
      exact (Below.heap_alloc _ _ _ (by simp)).trans (new_at (by simp))
    have hPB : W2.heap[w1.heap.size + 1 + 1]? = some (.cells #[.func (.func 17) #[] #[.pointer (some ⟨w1.heap.size + 1, 0, none⟩)]] 62 (0, 0)) := by
      rw [hW2]
      exact new_at (by simp)
    have HST0 : Hid (St (w1.heap.size + 1) (w1.heap.size + 1 + 1 + 1) W2 (txt B 0) W2) := Lib.hid ⟨Below.refl _ _, fun _ _ _ => rfl, ⟨_, hOB, World.ownsRow_nil _ _ _ _⟩, by omega, by omega⟩
    have HLOW : Hid (∀ W, Below (w1.heap.size + 1) W2 W → Below w.heap.size w W) := Lib.hid fun W hW => hbW1.out.trans ((hbW2.trans (hW.mono (by omega))).mono (Nat.le_of_lt hlw1))
    have HENV : Hid (Env (w1.heap.size + 1) (w1.heap.size + 1 + 1) (w1.heap.size + 1 + 1 + 1) W2) := Lib.hid ⟨fun W hW => HT.out.below (HLOW.out W hW), hPB, by omega, by omega⟩
    have HBX : Hid (∀ W, Below (w1.heap.size + 1) W2 W → W.heap[w.heap.size]? = some (apiBox B A)) := Lib.hid fun W hW => (hW.block w.heap.size (by omega)).trans ((hbW2.block w.heap.size hlw1).trans hbx1.out)
    have HLS : Hid (∀ W, Below (w1.heap.size + 1) W2 W → Lies W B A) := Lib.hid fun W hW => HL.out.below (HLOW.out W hW)
    have HTX := Lib.hid (fun k => txt_le HG.out k)
    have k1 : W2.cell? ⟨w.heap.size, 1, none⟩ = some (.slice A.sa B.status.length A.sc) := (block_cell (i := 1) (HBX.out W2 (Below.refl _ _))).trans rfl
    have hEQ := hW2.symm
    have hsl : B.status.length ≤ 65536 := HG.out.s.1
    clear hOB hPB hbW2 hbx0 HT HL hW2 hz2
    go_wp2_with fail
    go_loopw [30] (fun v w' => ∃ (i : Nat), v = .int .i64 i ∧ i ≤ B.status.length ∧ Hid (St (w1.heap.size + 1) (w1.heap.size + 1 + 1 + 1) W2 (txt B 0 ++ (B.status.take i).flatMap staT) w')) (fun v _ => B.status.length - (intOf v).toNat)
    case atStart => exact ⟨0, rfl, Nat.zero_le _, Lib.hid (by rw [List.take_zero, List.flatMap_nil, List.append_nil]; exact HST0.out)⟩
    case round =>
      obtain ⟨i, rfl, hi, hs⟩ := hrel
      by_cases hlt : i < B.status.length
      · obtain ⟨x, hx⟩ : ∃ x, B.status[i]? = some x := ⟨_, List.getElem?_eq_getElem hlt⟩
        rcases (HLS.out wr hs.out.b).s with h0 | ⟨bk, o, had, hbk, hc⟩
        · rw [h0] at hlt; simp at hlt
        obtain ⟨q0, q1, q2⟩ := vals_at (hc i x hx)
        have hm := List.mem_of_getElem? hx
        have HSN := Lib.hid (Listed.flatMap_snoc staT B.status i x hx)
        obtain ⟨hsp, hn1, hn3⟩ := HG.out.s.2 x hm
        have hcs : x.n = 1 ∨ x.n = 2 ∨ x.n = 3 := by omega
        have hle : ((B.status.take i).flatMap staT).length ≤ 200 * i := by
          have := Listed.flatMap_le staT 200 (B.status.take i) (fun x _ => staT_le x)
          rw [List.length_take, Nat.min_eq_left hi] at this
          exact this
        have HPUTG : Hid (∀ W, St (w1.heap.size + 1) (w1.heap.size + 1 + 1 + 1) W2 (txt B 0 ++ (B.status.take i).flatMap staT) W → Calls Tryz.prog 17 #[.string (stB x.n), .int .i32 x.a, .int .i32 x.b, .slice none 0 0, .pointer (some ⟨w1.heap.size + 1, 0, none⟩)] W fun e w' => e = .returned (.tuple #[]) ∧ St (w1.heap.size + 1) (w1.heap.size + 1 + 1 + 1) W2 (txt B 0 ++ (B.status.take (i + 1)).flatMap staT) w' ∧ KeepT (w1.heap.size + 1) W w') := Lib.hid (by
          intro W hW
          rw [HSN.out, ← List.append_assoc, ← sta_line]
          exact put_any _ _ W2 _ (stB x.n) x.a x.b _ none _ hsp (fld_st _) (fun m hm => by cases hm) .nil (HENV.out.t _ hW.b) hW (by have := HTX.out 0; rw [List.length_append]; omega))
        obtain ⟨xa, xb, xn⟩ := x
        dsimp only at q0 q1 q2 hcs HPUTG
        have HA := Lib.hid ((Below.refl wr.heap.size wr).alloc (Nat.le_refl _) (.cells #[.int .i32 xa, .int .i32 xb, .int .i64 xn] 65 (0, 0)))
        have hbx := heap_alloc_new wr (.cells #[.int .i32 xa, .int .i32 xb, .int .i64 xn] 65 (0, 0))
        have HS1 := Lib.hid (hs.out.below HA.out)
        have hlw : wr.heap.size < (wr.alloc (.cells #[.int .i32 xa, .int .i32 xb, .int .i64 xn] 65 (0, 0))).heap.size := by simp
        have hOW : w1.heap.size + 1 < wr.heap.size := by have := hs.out.z; omega
        generalize hWA : (wr.alloc (.cells #[.int .i32 xa, .int .i32 xb, .int .i64 xn] 65 (0, 0))) = WA at *
        have c0 : WA.cell? ⟨wr.heap.size, 0, none⟩ = some (.int .i32 xa) := (block_cell (i := 0) hbx).trans rfl
        have c1 : WA.cell? ⟨wr.heap.size, 1, none⟩ = some (.int .i32 xb) := (block_cell (i := 1) hbx).trans rfl
        have c2 : WA.cell? ⟨wr.heap.size, 2, none⟩ = some (.int .i64 xn) := (block_cell (i := 2) hbx).trans rfl
        have c3 := HENV.out.cell HS1.out
        have HBX1 := Lib.hid hbx
        rw [had]
        clear hc hx hm hsp hn1 hn3 hbx hle
        rcases hcs with rfl | rfl | rfl
        · have HPUT : Hid (∀ W, St (w1.heap.size + 1) (w1.heap.size + 1 + 1 + 1) W2 (txt B 0 ++ (B.status.take i).flatMap staT) W → Calls Tryz.prog 17 #[.string ⟨#[118, 97, 108, 105, 100]⟩, .int .i32 xa, .int .i32 xb, .slice none 0 0, .pointer (some ⟨w1.heap.size + 1, 0, none⟩)] W fun e w' => e = .returned (.tuple #[]) ∧ St (w1.heap.size + 1) (w1.heap.size + 1 + 1 + 1) W2 (txt B 0 ++ (B.status.take (i + 1)).flatMap staT) w' ∧ KeepT (w1.heap.size + 1) W w') := HPUTG
          clear HPUTG
          go_wp2_with fail
          clear q0 q1 q2 hWA
          refine MergeJ.wp_region_merge (by kernel_rfl) (fun vals => { tmps := #[Value.agg #[Value.slice A.na B.names.length A.nc, Value.slice (some { block := bk, off := o }) B.status.length A.sc, Value.slice A.ma B.maps.length A.mc, Value.slice A.ka B.cls.length A.kc, Value.slice A.da B.decomp.length A.dc, Value.slice A.xa B.excl.length A.xc, Value.slice A.ba B.bidi.length A.bc, Value.slice A.ja B.join.length A.jc, Value.slice A.qa B.marks.length A.qc, Value.slice A.ra B.script.length A.rc, Value.slice A.la B.like.length A.lc], Value.pointer (some { block := w.heap.size, off := 0 }), Value.string { data := #[] }, Value.int IntKind.i64 0, Value.pointer (some { block := w1.heap.size, off := 0 }), Value.int IntKind.i64 0, Value.pointer (some { block := w1.heap.size + 1, off := 0 }), Value.pointer (some { block := w1.heap.size + 1 + 1, off := 0 }), Value.func (Fn.func (nat_lit 20)) #[] #[Value.pointer (some { block := w1.heap.size + 1 + 1, off := 0 })], Value.func (Fn.func (nat_lit 21)) #[] #[Value.pointer (some { block := w1.heap.size + 1 + 1, off := 0 })], undef, Value.pointer (some { block := wr.heap.size, off := 0 }), undef, undef, undef, undef, Value.tuple #[Value.agg #[Value.int IntKind.i64 0, Value.int IntKind.i64 0], Value.int IntKind.i64 0], Value.agg #[Value.slice A.na B.names.length A.nc, Value.slice (some { block := bk, off := o }) B.status.length A.sc, Value.slice A.ma B.maps.length A.mc, Value.slice A.ka B.cls.length A.kc, Value.slice A.da B.decomp.length A.dc, Value.slice A.xa B.excl.length A.xc, Value.slice A.ba B.bidi.length A.bc, Value.slice A.ja B.join.length A.jc, Value.slice A.qa B.marks.length A.qc, Value.slice A.ra B.script.length A.rc, Value.slice A.la B.like.length A.lc], Value.tuple #[Value.agg #[Value.int IntKind.i64 0, Value.int IntKind.i64 0], Value.int IntKind.i64 0], Value.agg #[Value.int IntKind.i64 0, Value.int IntKind.i64 0], Value.int IntKind.i64 0, Value.int IntKind.i64 0, Value.bool false, undef, Value.func (Fn.func (nat_lit 17)) #[] #[Value.pointer (some { block := w1.heap.size + 1, off := 0 })], Value.func (Fn.func (nat_lit 20)) #[] #[Value.pointer (some { block := w1.heap.size + 1 + 1, off := 0 })], Value.func (Fn.func (nat_lit 21)) #[] #[Value.pointer (some { block := w1.heap.size + 1 + 1, off := 0 })], Value.pointer (some { block := w.heap.size, off := 1 }), Value.slice (some { block := bk, off := o }) B.status.length A.sc, Value.int IntKind.i64 B.status.length, Value.int IntKind.i64 i, Value.bool true, Value.pointer (some { block := bk, off := o + i * 3 }), Value.agg #[Value.int IntKind.i32 xa, Value.int IntKind.i32 xb, Value.int IntKind.i64 1], vals 0, vals 1, vals 2, vals 3, vals 4, vals 5, vals 6, vals 7, vals 8, vals 9, vals 10, u45, undef, undef, undef, undef, undef, undef, undef, undef, undef, undef, undef, undef, undef, undef, undef, undef, undef, undef, undef, undef, undef, undef, undef, undef, undef, undef, undef, undef, undef, undef, undef, undef, undef, undef, undef, undef, undef, undef, undef, undef, undef, undef, undef, undef, undef, undef, undef, undef, undef, undef, undef, undef, undef, undef, undef, undef, undef, undef, undef], defers := [] }) (fun j => (predsP wr.heap.size 1 xa xb (.func (.func 17) #[] #[.pointer (some ⟨w1.heap.size + 1, 0, none⟩)]) ⟨#[118, 97, 108, 105, 100]⟩).getD j (fun _ _ => True)) (fun _ => []) (fun S _ W => (∃ tt, St (w1.heap.size + 1) (w1.heap.size + 1 + 1 + 1) W2 tt W ∧ (S 10 = false → tt = (txt B 0 ++ (B.status.take i).flatMap staT)) ∧ (S 10 = true → tt = (txt B 0 ++ (B.status.take (i + 1)).flatMap staT))) ∧ W.heap[wr.heap.size]? = some (.cells #[.int .i32 xa, .int .i32 xb, .int .i64 1] 65 (0, 0))) keepK (fun j => [u34, u35, u36, u37, u38, u39, u40, u41, u42, u43, u44].getD j undef) rfl
            (fun j vs W W' hh hb => by have := (keep_at j (predsP_keep wr.heap.size 1 xa xb (.func (.func 17) #[] #[.pointer (some ⟨w1.heap.size + 1, 0, none⟩)]) ⟨#[118, 97, 108, 105, 100]⟩)).1 vs W W'; exact this (by simpa using hh) hb)
            (fun j vs vs' W hh hv => by have := (keep_at j (predsP_keep wr.heap.size 1 xa xb (.func (.func 17) #[] #[.pointer (some ⟨w1.heap.size + 1, 0, none⟩)]) ⟨#[118, 97, 108, 105, 100]⟩)).2 vs vs' W; rw [Nat.zero_add] at this; exact this hh hv)
            ⟨⟨_, HS1.out.below (Below.refl _ _).drew, fun _ => rfl, fun h => by cases h⟩, HBX1.out⟩ ?hS ?hD
          case hS =>
            refine MergeJ.AllSteps.cons ⟨by rfl, (by intro d hd; cases hd), fun _ _ => rfl, fun S vals W hi hS0 hu0 hd hu K hK => ?_⟩ ?_
            · rw [if_pos (by rfl)]
              obtain ⟨tt, hst, _⟩ := hi.1
              have kk := HENV.out.cell hst
              go_simp
              exact hK _ _ (Merge.upd_same _ _ _) (fun _ h => h) hi
            refine MergeJ.AllSteps.cons ⟨by rfl, (by intro d hd; cases hd), fun _ _ => rfl, fun S vals W hi hS0 hu0 hd hu K hK => ?_⟩ ?_
            · rw [if_pos (by rfl)]
              go_simp
              obtain ⟨tt, hst, h1, h2⟩ := hi.1
              exact hK _ _ ⟨W.heap.size, Merge.upd_same _ _ _, heap_alloc_new W _⟩ (fun g hg => (Below.heap_alloc _ _ _ (block_lt hg)).trans hg) ⟨⟨tt, hst.below ((Below.refl _ _).alloc (Nat.le_refl _) _), h1, h2⟩, (Below.heap_alloc _ _ _ (block_lt hi.2)).trans hi.2⟩
            refine MergeJ.AllSteps.cons ⟨by rfl, (by intro d hd; cases hd), fun _ _ => rfl, fun S vals W hi hS0 hu0 hd hu K hK => ?_⟩ ?_
            · rw [if_pos (by rfl)]
              go_simp
              exact hK _ _ (Merge.upd_same _ _ _) (fun _ h => h) hi
            refine MergeJ.AllSteps.cons ⟨by rfl, (by intro d hd; cases hd), fun _ _ => rfl, fun S vals W hi hS0 hu0 hd hu K hK => ?_⟩ ?_
            · rw [if_pos (by rfl)]
              have e2 : vals 2 = .pointer (some ⟨wr.heap.size, 2, none⟩) := hd ⟨2, .data⟩ (by simp) rfl
              have kk : W.cell? ⟨wr.heap.size, 2, none⟩ = some (.int .i64 1) := (block_cell (i := 2) hi.2).trans rfl
              simp only [e2] at hK
              go_simp
              exact hK _ _ (Merge.upd_same _ _ _) (fun _ h => h) hi
            refine MergeJ.AllSteps.cons ⟨by rfl, (by intro d hd; cases hd), fun _ _ => rfl, fun S vals W hi hS0 hu0 hd hu K hK => ?_⟩ ?_
            · rw [if_pos (by rfl)]
              obtain ⟨g, e1, hg⟩ := hd ⟨1, .data⟩ (by simp) rfl
              have e3 : vals 3 = .int .i64 1 := hd ⟨3, .data⟩ (by simp) rfl
              simp only [e1, e3] at hK
              go_simp
              exact hK _ _ ⟨g, Merge.upd_same _ _ _, hg⟩ (fun _ h => h) hi
            refine MergeJ.AllSteps.cons ⟨by rfl, (by intro d hd; cases hd), fun _ _ => rfl, fun S vals W hi hS0 hu0 hd hu K hK => ?_⟩ ?_
            · rw [if_pos (by rfl)]
              obtain ⟨g, e4, hg⟩ := hd ⟨4, .data⟩ (by simp) rfl
              have kk : W.cell? ⟨g, 1, none⟩ = some (.string ⟨#[118, 97, 108, 105, 100]⟩) := (block_cell (i := 1) hg).trans rfl
              simp only [e4] at hK
              go_simp
              exact hK _ _ (Merge.upd_same _ _ _) (fun _ h => h) hi
            refine MergeJ.AllSteps.cons ⟨by rfl, (by intro d hd; cases hd), fun _ _ => rfl, fun S vals W hi hS0 hu0 hd hu K hK => ?_⟩ ?_
            · rw [if_pos (by rfl)]
              go_simp
              exact hK _ _ (Merge.upd_same _ _ _) (fun _ h => h) hi
            refine MergeJ.AllSteps.cons ⟨by rfl, (by intro d hd; cases hd), fun _ _ => rfl, fun S vals W hi hS0 hu0 hd hu K hK => ?_⟩ ?_
            · rw [if_pos (by rfl)]
              have e6 : vals 6 = .pointer (some ⟨wr.heap.size, 0, none⟩) := hd ⟨6, .data⟩ (by simp) rfl
              have kk : W.cell? ⟨wr.heap.size, 0, none⟩ = some (.int .i32 xa) := (block_cell (i := 0) hi.2).trans rfl
              simp only [e6] at hK
              go_simp
              exact hK _ _ (Merge.upd_same _ _ _) (fun _ h => h) hi
            refine MergeJ.AllSteps.cons ⟨by rfl, (by intro d hd; cases hd), fun _ _ => rfl, fun S vals W hi hS0 hu0 hd hu K hK => ?_⟩ ?_
            · rw [if_pos (by rfl)]
              go_simp
              exact hK _ _ (Merge.upd_same _ _ _) (fun _ h => h) hi
            refine MergeJ.AllSteps.cons ⟨by rfl, (by intro d hd; cases hd), fun _ _ => rfl, fun S vals W hi hS0 hu0 hd hu K hK => ?_⟩ ?_
            · rw [if_pos (by rfl)]
              have e8 : vals 8 = .pointer (some ⟨wr.heap.size, 1, none⟩) := hd ⟨8, .data⟩ (by simp) rfl
              have kk : W.cell? ⟨wr.heap.size, 1, none⟩ = some (.int .i32 xb) := (block_cell (i := 1) hi.2).trans rfl
              simp only [e8] at hK
              go_simp
              exact hK _ _ (Merge.upd_same _ _ _) (fun _ h => h) hi
            refine MergeJ.AllSteps.cons ⟨by rfl, (by intro d hd; cases hd), fun _ _ => rfl, fun S vals W hi hS0 hu0 hd hu K hK => ?_⟩ ?_
            · rw [if_pos (by rfl)]
              have e0 : vals 0 = .func (.func 17) #[] #[.pointer (some ⟨w1.heap.size + 1, 0, none⟩)] := hd ⟨0, .data⟩ (by simp) rfl
              have e5 : vals 5 = .string ⟨#[118, 97, 108, 105, 100]⟩ := hd ⟨5, .data⟩ (by simp) rfl
              have e7 : vals 7 = .int .i32 xa := hd ⟨7, .data⟩ (by simp) rfl
              have e9 : vals 9 = .int .i32 xb := hd ⟨9, .data⟩ (by simp) rfl
              simp only [e0, e5, e7, e9] at hK
              go_simp
              obtain ⟨tt, hst, h1, _⟩ := hi.1
              obtain rfl := h1 hS0
              refine (HPUT.out _ hst).mono ?_
              rintro e w7 ⟨rfl, hs7, hk7⟩
              exact hK _ _ trivial (fun g hg => (hk7 g _ _ hg (fun h => by subst h; obtain ⟨v, hv, _⟩ := hst.o; rw [hg] at hv; cases hv) (by decide)).trans hg) ⟨⟨_, hs7, fun h => by simp at h, fun _ => rfl⟩, (hk7 wr.heap.size _ _ hi.2 (by omega) (by decide)).trans hi.2⟩
            exact MergeJ.AllSteps.nil
          case hD =>
            intro S vals W hall hi hv
            clear hv
            obtain ⟨⟨tt, hst, hx1, h2⟩, hx2⟩ := hi
            have HS7 : Hid (St (w1.heap.size + 1) (w1.heap.size + 1 + 1 + 1) W2 (txt B 0 ++ (B.status.take (i + 1)).flatMap staT) W) := Lib.hid (by have h3 := h2 (hall 10 (by simp)); rw [h3] at hst; exact hst)
            clear hst h2 hall hx1 hx2
            dsimp only
            go_wp2_with fail
            go_roundw
            case rel => exact ⟨i + 1, by go_num, by omega, HS7⟩
            case measure => simp [intOf]; omega
        · have HPUT : Hid (∀ W, St (w1.heap.size + 1) (w1.heap.size + 1 + 1 + 1) W2 (txt B 0 ++ (B.status.take i).flatMap staT) W → Calls Tryz.prog 17 #[.string ⟨#[105, 103, 110, 111, 114, 101, 100]⟩, .int .i32 xa, .int .i32 xb, .slice none 0 0, .pointer (some ⟨w1.heap.size + 1, 0, none⟩)] W fun e w' => e = .returned (.tuple #[]) ∧ St (w1.heap.size + 1) (w1.heap.size + 1 + 1 + 1) W2 (txt B 0 ++ (B.status.take (i + 1)).flatMap staT) w' ∧ KeepT (w1.heap.size + 1) W w') := HPUTG
          clear HPUTG
          go_wp2_with fail
          clear q0 q1 q2 hWA
          refine MergeJ.wp_region_merge (by kernel_rfl) (fun vals => { tmps := #[Value.agg #[Value.slice A.na B.names.length A.nc, Value.slice (some { block := bk, off := o }) B.status.length A.sc, Value.slice A.ma B.maps.length A.mc, Value.slice A.ka B.cls.length A.kc, Value.slice A.da B.decomp.length A.dc, Value.slice A.xa B.excl.length A.xc, Value.slice A.ba B.bidi.length A.bc, Value.slice A.ja B.join.length A.jc, Value.slice A.qa B.marks.length A.qc, Value.slice A.ra B.script.length A.rc, Value.slice A.la B.like.length A.lc], Value.pointer (some { block := w.heap.size, off := 0 }), Value.string { data := #[] }, Value.int IntKind.i64 0, Value.pointer (some { block := w1.heap.size, off := 0 }), Value.int IntKind.i64 0, Value.pointer (some { block := w1.heap.size + 1, off := 0 }), Value.pointer (some { block := w1.heap.size + 1 + 1, off := 0 }), Value.func (Fn.func (nat_lit 20)) #[] #[Value.pointer (some { block := w1.heap.size + 1 + 1, off := 0 })], Value.func (Fn.func (nat_lit 21)) #[] #[Value.pointer (some { block := w1.heap.size + 1 + 1, off := 0 })], undef, Value.pointer (some { block := wr.heap.size, off := 0 }), undef, undef, undef, undef, Value.tuple #[Value.agg #[Value.int IntKind.i64 0, Value.int IntKind.i64 0], Value.int IntKind.i64 0], Value.agg #[Value.slice A.na B.names.length A.nc, Value.slice (some { block := bk, off := o }) B.status.length A.sc, Value.slice A.ma B.maps.length A.mc, Value.slice A.ka B.cls.length A.kc, Value.slice A.da B.decomp.length A.dc, Value.slice A.xa B.excl.length A.xc, Value.slice A.ba B.bidi.length A.bc, Value.slice A.ja B.join.length A.jc, Value.slice A.qa B.marks.length A.qc, Value.slice A.ra B.script.length A.rc, Value.slice A.la B.like.length A.lc], Value.tuple #[Value.agg #[Value.int IntKind.i64 0, Value.int IntKind.i64 0], Value.int IntKind.i64 0], Value.agg #[Value.int IntKind.i64 0, Value.int IntKind.i64 0], Value.int IntKind.i64 0, Value.int IntKind.i64 0, Value.bool false, undef, Value.func (Fn.func (nat_lit 17)) #[] #[Value.pointer (some { block := w1.heap.size + 1, off := 0 })], Value.func (Fn.func (nat_lit 20)) #[] #[Value.pointer (some { block := w1.heap.size + 1 + 1, off := 0 })], Value.func (Fn.func (nat_lit 21)) #[] #[Value.pointer (some { block := w1.heap.size + 1 + 1, off := 0 })], Value.pointer (some { block := w.heap.size, off := 1 }), Value.slice (some { block := bk, off := o }) B.status.length A.sc, Value.int IntKind.i64 B.status.length, Value.int IntKind.i64 i, Value.bool true, Value.pointer (some { block := bk, off := o + i * 3 }), Value.agg #[Value.int IntKind.i32 xa, Value.int IntKind.i32 xb, Value.int IntKind.i64 2], vals 0, vals 1, vals 2, vals 3, vals 4, vals 5, vals 6, vals 7, vals 8, vals 9, vals 10, u45, undef, undef, undef, undef, undef, undef, undef, undef, undef, undef, undef, undef, undef, undef, undef, undef, undef, undef, undef, undef, undef, undef, undef, undef, undef, undef, undef, undef, undef, undef, undef, undef, undef, undef, undef, undef, undef, undef, undef, undef, undef, undef, undef, undef, undef, undef, undef, undef, undef, undef, undef, undef, undef, undef, undef, undef, undef, undef, undef], defers := [] }) (fun j => (predsP wr.heap.size 2 xa xb (.func (.func 17) #[] #[.pointer (some ⟨w1.heap.size + 1, 0, none⟩)]) ⟨#[105, 103, 110, 111, 114, 101, 100]⟩).getD j (fun _ _ => True)) (fun _ => []) (fun S _ W => (∃ tt, St (w1.heap.size + 1) (w1.heap.size + 1 + 1 + 1) W2 tt W ∧ (S 10 = false → tt = (txt B 0 ++ (B.status.take i).flatMap staT)) ∧ (S 10 = true → tt = (txt B 0 ++ (B.status.take (i + 1)).flatMap staT))) ∧ W.heap[wr.heap.size]? = some (.cells #[.int .i32 xa, .int .i32 xb, .int .i64 2] 65 (0, 0))) keepK (fun j => [u34, u35, u36, u37, u38, u39, u40, u41, u42, u43, u44].getD j undef) rfl
            (fun j vs W W' hh hb => by have := (keep_at j (predsP_keep wr.heap.size 2 xa xb (.func (.func 17) #[] #[.pointer (some ⟨w1.heap.size + 1, 0, none⟩)]) ⟨#[105, 103, 110, 111, 114, 101, 100]⟩)).1 vs W W'; exact this (by simpa using hh) hb)
            (fun j vs vs' W hh hv => by have := (keep_at j (predsP_keep wr.heap.size 2 xa xb (.func (.func 17) #[] #[.pointer (some ⟨w1.heap.size + 1, 0, none⟩)]) ⟨#[105, 103, 110, 111, 114, 101, 100]⟩)).2 vs vs' W; rw [Nat.zero_add] at this; exact this hh hv)
            ⟨⟨_, HS1.out.below (Below.refl _ _).drew, fun _ => rfl, fun h => by cases h⟩, HBX1.out⟩ ?hS ?hD
          case hS =>
            refine MergeJ.AllSteps.cons ⟨by rfl, (by intro d hd; cases hd), fun _ _ => rfl, fun S vals W hi hS0 hu0 hd hu K hK => ?_⟩ ?_
            · rw [if_pos (by rfl)]
              obtain ⟨tt, hst, _⟩ := hi.1
              have kk := HENV.out.cell hst
              go_simp
              exact hK _ _ (Merge.upd_same _ _ _) (fun _ h => h) hi
            refine MergeJ.AllSteps.cons ⟨by rfl, (by intro d hd; cases hd), fun _ _ => rfl, fun S vals W hi hS0 hu0 hd hu K hK => ?_⟩ ?_
            · rw [if_pos (by rfl)]
              go_simp
              obtain ⟨tt, hst, h1, h2⟩ := hi.1
              exact hK _ _ ⟨W.heap.size, Merge.upd_same _ _ _, heap_alloc_new W _⟩ (fun g hg => (Below.heap_alloc _ _ _ (block_lt hg)).trans hg) ⟨⟨tt, hst.below ((Below.refl _ _).alloc (Nat.le_refl _) _), h1, h2⟩, (Below.heap_alloc _ _ _ (block_lt hi.2)).trans hi.2⟩
            refine MergeJ.AllSteps.cons ⟨by rfl, (by intro d hd; cases hd), fun _ _ => rfl, fun S vals W hi hS0 hu0 hd hu K hK => ?_⟩ ?_
            · rw [if_pos (by rfl)]
              go_simp
              exact hK _ _ (Merge.upd_same _ _ _) (fun _ h => h) hi
            refine MergeJ.AllSteps.cons ⟨by rfl, (by intro d hd; cases hd), fun _ _ => rfl, fun S vals W hi hS0 hu0 hd hu K hK => ?_⟩ ?_
            · rw [if_pos (by rfl)]
              have e2 : vals 2 = .pointer (some ⟨wr.heap.size, 2, none⟩) := hd ⟨2, .data⟩ (by simp) rfl
              have kk : W.cell? ⟨wr.heap.size, 2, none⟩ = some (.int .i64 2) := (block_cell (i := 2) hi.2).trans rfl
              simp only [e2] at hK
              go_simp
              exact hK _ _ (Merge.upd_same _ _ _) (fun _ h => h) hi
            refine MergeJ.AllSteps.cons ⟨by rfl, (by intro d hd; cases hd), fun _ _ => rfl, fun S vals W hi hS0 hu0 hd hu K hK => ?_⟩ ?_
            · rw [if_pos (by rfl)]
              obtain ⟨g, e1, hg⟩ := hd ⟨1, .data⟩ (by simp) rfl
              have e3 : vals 3 = .int .i64 2 := hd ⟨3, .data⟩ (by simp) rfl
              simp only [e1, e3] at hK
              go_simp
              exact hK _ _ ⟨g, Merge.upd_same _ _ _, hg⟩ (fun _ h => h) hi
            refine MergeJ.AllSteps.cons ⟨by rfl, (by intro d hd; cases hd), fun _ _ => rfl, fun S vals W hi hS0 hu0 hd hu K hK => ?_⟩ ?_
            · rw [if_pos (by rfl)]
              obtain ⟨g, e4, hg⟩ := hd ⟨4, .data⟩ (by simp) rfl
              have kk : W.cell? ⟨g, 2, none⟩ = some (.string ⟨#[105, 103, 110, 111, 114, 101, 100]⟩) := (block_cell (i := 2) hg).trans rfl
              simp only [e4] at hK
              go_simp
              exact hK _ _ (Merge.upd_same _ _ _) (fun _ h => h) hi
            refine MergeJ.AllSteps.cons ⟨by rfl, (by intro d hd; cases hd), fun _ _ => rfl, fun S vals W hi hS0 hu0 hd hu K hK => ?_⟩ ?_
            · rw [if_pos (by rfl)]
              go_simp
              exact hK _ _ (Merge.upd_same _ _ _) (fun _ h => h) hi
            refine MergeJ.AllSteps.cons ⟨by rfl, (by intro d hd; cases hd), fun _ _ => rfl, fun S vals W hi hS0 hu0 hd hu K hK => ?_⟩ ?_
            · rw [if_pos (by rfl)]
              have e6 : vals 6 = .pointer (some ⟨wr.heap.size, 0, none⟩) := hd ⟨6, .data⟩ (by simp) rfl
              have kk : W.cell? ⟨wr.heap.size, 0, none⟩ = some (.int .i32 xa) := (block_cell (i := 0) hi.2).trans rfl
              simp only [e6] at hK
              go_simp
              exact hK _ _ (Merge.upd_same _ _ _) (fun _ h => h) hi
            refine MergeJ.AllSteps.cons ⟨by rfl, (by intro d hd; cases hd), fun _ _ => rfl, fun S vals W hi hS0 hu0 hd hu K hK => ?_⟩ ?_
            · rw [if_pos (by rfl)]
              go_simp
              exact hK _ _ (Merge.upd_same _ _ _) (fun _ h => h) hi
            refine MergeJ.AllSteps.cons ⟨by rfl, (by intro d hd; cases hd), fun _ _ => rfl, fun S vals W hi hS0 hu0 hd hu K hK => ?_⟩ ?_
            · rw [if_pos (by rfl)]
              have e8 : vals 8 = .pointer (some ⟨wr.heap.size, 1, none⟩) := hd ⟨8, .data⟩ (by simp) rfl
              have kk : W.cell? ⟨wr.heap.size, 1, none⟩ = some (.int .i32 xb) := (block_cell (i := 1) hi.2).trans rfl
              simp only [e8] at hK
              go_simp
              exact hK _ _ (Merge.upd_same _ _ _) (fun _ h => h) hi
            refine MergeJ.AllSteps.cons ⟨by rfl, (by intro d hd; cases hd), fun _ _ => rfl, fun S vals W hi hS0 hu0 hd hu K hK => ?_⟩ ?_
            · rw [if_pos (by rfl)]
              have e0 : vals 0 = .func (.func 17) #[] #[.pointer (some ⟨w1.heap.size + 1, 0, none⟩)] := hd ⟨0, .data⟩ (by simp) rfl
              have e5 : vals 5 = .string ⟨#[105, 103, 110, 111, 114, 101, 100]⟩ := hd ⟨5, .data⟩ (by simp) rfl
              have e7 : vals 7 = .int .i32 xa := hd ⟨7, .data⟩ (by simp) rfl
              have e9 : vals 9 = .int .i32 xb := hd ⟨9, .data⟩ (by simp) rfl
              simp only [e0, e5, e7, e9] at hK
              go_simp
              obtain ⟨tt, hst, h1, _⟩ := hi.1
              obtain rfl := h1 hS0
              refine (HPUT.out _ hst).mono ?_
              rintro e w7 ⟨rfl, hs7, hk7⟩
              exact hK _ _ trivial (fun g hg => (hk7 g _ _ hg (fun h => by subst h; obtain ⟨v, hv, _⟩ := hst.o; rw [hg] at hv; cases hv) (by decide)).trans hg) ⟨⟨_, hs7, fun h => by simp at h, fun _ => rfl⟩, (hk7 wr.heap.size _ _ hi.2 (by omega) (by decide)).trans hi.2⟩
            exact MergeJ.AllSteps.nil
          case hD =>
            intro S vals W hall hi hv
            clear hv
            obtain ⟨⟨tt, hst, hx1, h2⟩, hx2⟩ := hi
            have HS7 : Hid (St (w1.heap.size + 1) (w1.heap.size + 1 + 1 + 1) W2 (txt B 0 ++ (B.status.take (i + 1)).flatMap staT) W) := Lib.hid (by have h3 := h2 (hall 10 (by simp)); rw [h3] at hst; exact hst)
            clear hst h2 hall hx1 hx2
            dsimp only
            go_wp2_with fail
            go_roundw
            case rel => exact ⟨i + 1, by go_num, by omega, HS7⟩
            case measure => simp [intOf]; omega
        · have HPUT : Hid (∀ W, St (w1.heap.size + 1) (w1.heap.size + 1 + 1 + 1) W2 (txt B 0 ++ (B.status.take i).flatMap staT) W → Calls Tryz.prog 17 #[.string ⟨#[100, 101, 118, 105, 97, 116, 105, 111, 110]⟩, .int .i32 xa, .int .i32 xb, .slice none 0 0, .pointer (some ⟨w1.heap.size + 1, 0, none⟩)] W fun e w' => e = .returned (.tuple #[]) ∧ St (w1.heap.size + 1) (w1.heap.size + 1 + 1 + 1) W2 (txt B 0 ++ (B.status.take (i + 1)).flatMap staT) w' ∧ KeepT (w1.heap.size + 1) W w') := HPUTG
          clear HPUTG
          go_wp2_with fail
          clear q0 q1 q2 hWA
          refine MergeJ.wp_region_merge (by kernel_rfl) (fun vals => { tmps := #[Value.agg #[Value.slice A.na B.names.length A.nc, Value.slice (some { block := bk, off := o }) B.status.length A.sc, Value.slice A.ma B.maps.length A.mc, Value.slice A.ka B.cls.length A.kc, Value.slice A.da B.decomp.length A.dc, Value.slice A.xa B.excl.length A.xc, Value.slice A.ba B.bidi.length A.bc, Value.slice A.ja B.join.length A.jc, Value.slice A.qa B.marks.length A.qc, Value.slice A.ra B.script.length A.rc, Value.slice A.la B.like.length A.lc], Value.pointer (some { block := w.heap.size, off := 0 }), Value.string { data := #[] }, Value.int IntKind.i64 0, Value.pointer (some { block := w1.heap.size, off := 0 }), Value.int IntKind.i64 0, Value.pointer (some { block := w1.heap.size + 1, off := 0 }), Value.pointer (some { block := w1.heap.size + 1 + 1, off := 0 }), Value.func (Fn.func (nat_lit 20)) #[] #[Value.pointer (some { block := w1.heap.size + 1 + 1, off := 0 })], Value.func (Fn.func (nat_lit 21)) #[] #[Value.pointer (some { block := w1.heap.size + 1 + 1, off := 0 })], undef, Value.pointer (some { block := wr.heap.size, off := 0 }), undef, undef, undef, undef, Value.tuple #[Value.agg #[Value.int IntKind.i64 0, Value.int IntKind.i64 0], Value.int IntKind.i64 0], Value.agg #[Value.slice A.na B.names.length A.nc, Value.slice (some { block := bk, off := o }) B.status.length A.sc, Value.slice A.ma B.maps.length A.mc, Value.slice A.ka B.cls.length A.kc, Value.slice A.da B.decomp.length A.dc, Value.slice A.xa B.excl.length A.xc, Value.slice A.ba B.bidi.length A.bc, Value.slice A.ja B.join.length A.jc, Value.slice A.qa B.marks.length A.qc, Value.slice A.ra B.script.length A.rc, Value.slice A.la B.like.length A.lc], Value.tuple #[Value.agg #[Value.int IntKind.i64 0, Value.int IntKind.i64 0], Value.int IntKind.i64 0], Value.agg #[Value.int IntKind.i64 0, Value.int IntKind.i64 0], Value.int IntKind.i64 0, Value.int IntKind.i64 0, Value.bool false, undef, Value.func (Fn.func (nat_lit 17)) #[] #[Value.pointer (some { block := w1.heap.size + 1, off := 0 })], Value.func (Fn.func (nat_lit 20)) #[] #[Value.pointer (some { block := w1.heap.size + 1 + 1, off := 0 })], Value.func (Fn.func (nat_lit 21)) #[] #[Value.pointer (some { block := w1.heap.size + 1 + 1, off := 0 })], Value.pointer (some { block := w.heap.size, off := 1 }), Value.slice (some { block := bk, off := o }) B.status.length A.sc, Value.int IntKind.i64 B.status.length, Value.int IntKind.i64 i, Value.bool true, Value.pointer (some { block := bk, off := o + i * 3 }), Value.agg #[Value.int IntKind.i32 xa, Value.int IntKind.i32 xb, Value.int IntKind.i64 3], vals 0, vals 1, vals 2, vals 3, vals 4, vals 5, vals 6, vals 7, vals 8, vals 9, vals 10, u45, undef, undef, undef, undef, undef, undef, undef, undef, undef, undef, undef, undef, undef, undef, undef, undef, undef, undef, undef, undef, undef, undef, undef, undef, undef, undef, undef, undef, undef, undef, undef, undef, undef, undef, undef, undef, undef, undef, undef, undef, undef, undef, undef, undef, undef, undef, undef, undef, undef, undef, undef, undef, undef, undef, undef, undef, undef, undef, undef], defers := [] }) (fun j => (predsP wr.heap.size 3 xa xb (.func (.func 17) #[] #[.pointer (some ⟨w1.heap.size + 1, 0, none⟩)]) ⟨#[100, 101, 118, 105, 97, 116, 105, 111, 110]⟩).getD j (fun _ _ => True)) (fun _ => []) (fun S _ W => (∃ tt, St (w1.heap.size + 1) (w1.heap.size + 1 + 1 + 1) W2 tt W ∧ (S 10 = false → tt = (txt B 0 ++ (B.status.take i).flatMap staT)) ∧ (S 10 = true → tt = (txt B 0 ++ (B.status.take (i + 1)).flatMap staT))) ∧ W.heap[wr.heap.size]? = some (.cells #[.int .i32 xa, .int .i32 xb, .int .i64 3] 65 (0, 0))) keepK (fun j => [u34, u35, u36, u37, u38, u39, u40, u41, u42, u43, u44].getD j undef) rfl
            (fun j vs W W' hh hb => by have := (keep_at j (predsP_keep wr.heap.size 3 xa xb (.func (.func 17) #[] #[.pointer (some ⟨w1.heap.size + 1, 0, none⟩)]) ⟨#[100, 101, 118, 105, 97, 116, 105, 111, 110]⟩)).1 vs W W'; exact this (by simpa using hh) hb)
            (fun j vs vs' W hh hv => by have := (keep_at j (predsP_keep wr.heap.size 3 xa xb (.func (.func 17) #[] #[.pointer (some ⟨w1.heap.size + 1, 0, none⟩)]) ⟨#[100, 101, 118, 105, 97, 116, 105, 111, 110]⟩)).2 vs vs' W; rw [Nat.zero_add] at this; exact this hh hv)
            ⟨⟨_, HS1.out.below (Below.refl _ _).drew, fun _ => rfl, fun h => by cases h⟩, HBX1.out⟩ ?hS ?hD
          case hS =>
            refine MergeJ.AllSteps.cons ⟨by rfl, (by intro d hd; cases hd), fun _ _ => rfl, fun S vals W hi hS0 hu0 hd hu K hK => ?_⟩ ?_
            · rw [if_pos (by rfl)]
              obtain ⟨tt, hst, _⟩ := hi.1
              have kk := HENV.out.cell hst
              go_simp
              exact hK _ _ (Merge.upd_same _ _ _) (fun _ h => h) hi
            refine MergeJ.AllSteps.cons ⟨by rfl, (by intro d hd; cases hd), fun _ _ => rfl, fun S vals W hi hS0 hu0 hd hu K hK => ?_⟩ ?_
            · rw [if_pos (by rfl)]
              go_simp
              obtain ⟨tt, hst, h1, h2⟩ := hi.1
              exact hK _ _ ⟨W.heap.size, Merge.upd_same _ _ _, heap_alloc_new W _⟩ (fun g hg => (Below.heap_alloc _ _ _ (block_lt hg)).trans hg) ⟨⟨tt, hst.below ((Below.refl _ _).alloc (Nat.le_refl _) _), h1, h2⟩, (Below.heap_alloc _ _ _ (block_lt hi.2)).trans hi.2⟩
            refine MergeJ.AllSteps.cons ⟨by rfl, (by intro d hd; cases hd), fun _ _ => rfl, fun S vals W hi hS0 hu0 hd hu K hK => ?_⟩ ?_
            · rw [if_pos (by rfl)]
              go_simp
              exact hK _ _ (Merge.upd_same _ _ _) (fun _ h => h) hi
            refine MergeJ.AllSteps.cons ⟨by rfl, (by intro d hd; cases hd), fun _ _ => rfl, fun S vals W hi hS0 hu0 hd hu K hK => ?_⟩ ?_
            · rw [if_pos (by rfl)]
              have e2 : vals 2 = .pointer (some ⟨wr.heap.size, 2, none⟩) := hd ⟨2, .data⟩ (by simp) rfl
              have kk : W.cell? ⟨wr.heap.size, 2, none⟩ = some (.int .i64 3) := (block_cell (i := 2) hi.2).trans rfl
              simp only [e2] at hK
              go_simp
              exact hK _ _ (Merge.upd_same _ _ _) (fun _ h => h) hi
            refine MergeJ.AllSteps.cons ⟨by rfl, (by intro d hd; cases hd), fun _ _ => rfl, fun S vals W hi hS0 hu0 hd hu K hK => ?_⟩ ?_
            · rw [if_pos (by rfl)]
              obtain ⟨g, e1, hg⟩ := hd ⟨1, .data⟩ (by simp) rfl
              have e3 : vals 3 = .int .i64 3 := hd ⟨3, .data⟩ (by simp) rfl
              simp only [e1, e3] at hK
              go_simp
              exact hK _ _ ⟨g, Merge.upd_same _ _ _, hg⟩ (fun _ h => h) hi
            refine MergeJ.AllSteps.cons ⟨by rfl, (by intro d hd; cases hd), fun _ _ => rfl, fun S vals W hi hS0 hu0 hd hu K hK => ?_⟩ ?_
            · rw [if_pos (by rfl)]
              obtain ⟨g, e4, hg⟩ := hd ⟨4, .data⟩ (by simp) rfl
              have kk : W.cell? ⟨g, 3, none⟩ = some (.string ⟨#[100, 101, 118, 105, 97, 116, 105, 111, 110]⟩) := (block_cell (i := 3) hg).trans rfl
              simp only [e4] at hK
              go_simp
              exact hK _ _ (Merge.upd_same _ _ _) (fun _ h => h) hi
            refine MergeJ.AllSteps.cons ⟨by rfl, (by intro d hd; cases hd), fun _ _ => rfl, fun S vals W hi hS0 hu0 hd hu K hK => ?_⟩ ?_
            · rw [if_pos (by rfl)]
              go_simp
              exact hK _ _ (Merge.upd_same _ _ _) (fun _ h => h) hi
            refine MergeJ.AllSteps.cons ⟨by rfl, (by intro d hd; cases hd), fun _ _ => rfl, fun S vals W hi hS0 hu0 hd hu K hK => ?_⟩ ?_
            · rw [if_pos (by rfl)]
              have e6 : vals 6 = .pointer (some ⟨wr.heap.size, 0, none⟩) := hd ⟨6, .data⟩ (by simp) rfl
              have kk : W.cell? ⟨wr.heap.size, 0, none⟩ = some (.int .i32 xa) := (block_cell (i := 0) hi.2).trans rfl
              simp only [e6] at hK
              go_simp
              exact hK _ _ (Merge.upd_same _ _ _) (fun _ h => h) hi
            refine MergeJ.AllSteps.cons ⟨by rfl, (by intro d hd; cases hd), fun _ _ => rfl, fun S vals W hi hS0 hu0 hd hu K hK => ?_⟩ ?_
            · rw [if_pos (by rfl)]
              go_simp
              exact hK _ _ (Merge.upd_same _ _ _) (fun _ h => h) hi
            refine MergeJ.AllSteps.cons ⟨by rfl, (by intro d hd; cases hd), fun _ _ => rfl, fun S vals W hi hS0 hu0 hd hu K hK => ?_⟩ ?_
            · rw [if_pos (by rfl)]
              have e8 : vals 8 = .pointer (some ⟨wr.heap.size, 1, none⟩) := hd ⟨8, .data⟩ (by simp) rfl
              have kk : W.cell? ⟨wr.heap.size, 1, none⟩ = some (.int .i32 xb) := (block_cell (i := 1) hi.2).trans rfl
              simp only [e8] at hK
              go_simp
              exact hK _ _ (Merge.upd_same _ _ _) (fun _ h => h) hi
            refine MergeJ.AllSteps.cons ⟨by rfl, (by intro d hd; cases hd), fun _ _ => rfl, fun S vals W hi hS0 hu0 hd hu K hK => ?_⟩ ?_
            · rw [if_pos (by rfl)]
              have e0 : vals 0 = .func (.func 17) #[] #[.pointer (some ⟨w1.heap.size + 1, 0, none⟩)] := hd ⟨0, .data⟩ (by simp) rfl
              have e5 : vals 5 = .string ⟨#[100, 101, 118, 105, 97, 116, 105, 111, 110]⟩ := hd ⟨5, .data⟩ (by simp) rfl
              have e7 : vals 7 = .int .i32 xa := hd ⟨7, .data⟩ (by simp) rfl
              have e9 : vals 9 = .int .i32 xb := hd ⟨9, .data⟩ (by simp) rfl
              simp only [e0, e5, e7, e9] at hK
              go_simp
              obtain ⟨tt, hst, h1, _⟩ := hi.1
              obtain rfl := h1 hS0
              refine (HPUT.out _ hst).mono ?_
              rintro e w7 ⟨rfl, hs7, hk7⟩
              exact hK _ _ trivial (fun g hg => (hk7 g _ _ hg (fun h => by subst h; obtain ⟨v, hv, _⟩ := hst.o; rw [hg] at hv; cases hv) (by decide)).trans hg) ⟨⟨_, hs7, fun h => by simp at h, fun _ => rfl⟩, (hk7 wr.heap.size _ _ hi.2 (by omega) (by decide)).trans hi.2⟩
            exact MergeJ.AllSteps.nil
          case hD =>
            intro S vals W hall hi hv
            clear hv
            obtain ⟨⟨tt, hst, hx1, h2⟩, hx2⟩ := hi
            have HS7 : Hid (St (w1.heap.size + 1) (w1.heap.size + 1 + 1 + 1) W2 (txt B 0 ++ (B.status.take (i + 1)).flatMap staT) W) := Lib.hid (by have h3 := h2 (hall 10 (by simp)); rw [h3] at hst; exact hst)
            clear hst h2 hall hx1 hx2
            dsimp only
            go_wp2_with fail
            go_roundw
            case rel => exact ⟨i + 1, by go_num, by omega, HS7⟩
            case measure => simp [intOf]; omega
      · obtain rfl : i = B.status.length := by omega
        have HS1 : Hid (St (w1.heap.size + 1) (w1.heap.size + 1 + 1 + 1) W2 (txt B 1) wr) := Lib.hid (by have h := hs.out; rw [List.take_length] at h; exact h)
        clear HST0 hs hlt hi k1 hEQ
        have kk : wr.cell? ⟨w.heap.size, 2, none⟩ = some (.slice A.ma B.maps.length A.mc) := (block_cell (i := 2) (HBX.out _ HS1.out.b)).trans rfl
        go_wp2_with fail
        refine (rowsP_any _ _ _ W2 HENV.out (txt B 1) ⟨#[109, 97, 112, 112, 101, 100]⟩ A.ma B.maps A.mc _ (tell_ok HG.out.m) HG.out.m.1 fld_kinds.1 (fun W hW => (HLS.out W hW).m) HS1.out (by have := HTX.out 1; omega)).mono ?_
        rintro e v1 ⟨rfl, hsn⟩
        have HS2 : Hid (St (w1.heap.size + 1) (w1.heap.size + 1 + 1 + 1) W2 (txt B 2) v1) := Lib.hid (by have h2 := chrs_text (K := kMapped) HG.out.m; rw [show txt B 2 = txt B 1 ++ B.maps.flatMap (listT kMapped) from rfl, ← h2]; exact hsn)
        clear kk hsn HS1
        have kk : v1.cell? ⟨w.heap.size, 3, none⟩ = some (.slice A.ka B.cls.length A.kc) := (block_cell (i := 3) (HBX.out _ HS2.out.b)).trans rfl
        go_wp2_with fail
        refine (values_any _ _ _ W2 HENV.out (txt B 2) ⟨#[99, 108, 97, 115, 115]⟩ (fun n => ⟨(Lib.decDigits n.toNat).toArray⟩) 22 #[] A.ka B.cls A.kc _ (fun x hx => (HG.out.k.2 x hx).1) HG.out.k.1 fld_kinds.2.1 (fun x hx => fld_dec _ (by have := (HG.out.k.2 x hx).2; omega)) (fun W hW => (HLS.out W hW).k) (enters_of Tryz.func22 (by kernel_rfl) rfl) (fun W x hW hx => by obtain ⟨_, h1, h2⟩ := HG.out.k.2 x hx; have h3 := number_any x.n.toNat W (by omega) (HN.out.below (HLOW.out W hW)); rw [Int.toNat_of_nonneg (by omega)] at h3; exact h3) HS2.out (by have := HTX.out 2; omega)).mono ?_
        rintro e v2 ⟨rfl, hsn⟩
        have HS3 : Hid (St (w1.heap.size + 1) (w1.heap.size + 1 + 1 + 1) W2 (txt B 3) v2) := Lib.hid (by rw [show txt B 3 = txt B 2 ++ B.cls.flatMap (valT kClass (fun n => Lib.decDigits n.toNat)) from rfl, ← flat_congr (fun x hx => val_line kClass (fun n => Lib.decDigits n.toNat) x ((fun n => ⟨(Lib.decDigits n.toNat).toArray⟩) x.n) rfl)]; exact hsn)
        clear kk hsn HS2
        have kk : v2.cell? ⟨w.heap.size, 4, none⟩ = some (.slice A.da B.decomp.length A.dc) := (block_cell (i := 4) (HBX.out _ HS3.out.b)).trans rfl
        go_wp2_with fail
        refine (rowsP_any _ _ _ W2 HENV.out (txt B 3) ⟨#[100, 101, 99, 111, 109, 112, 111, 115, 101, 100]⟩ A.da B.decomp A.dc _ (tell_ok HG.out.d) HG.out.d.1 fld_kinds.2.2.1 (fun W hW => (HLS.out W hW).d) HS3.out (by have := HTX.out 3; omega)).mono ?_
        rintro e v3 ⟨rfl, hsn⟩
        have HS4 : Hid (St (w1.heap.size + 1) (w1.heap.size + 1 + 1 + 1) W2 (txt B 4) v3) := Lib.hid (by have h2 := chrs_text (K := kDecomposed) HG.out.d; rw [show txt B 4 = txt B 3 ++ B.decomp.flatMap (listT kDecomposed) from rfl, ← h2]; exact hsn)
        clear kk hsn HS3
        have kk : v3.cell? ⟨w.heap.size, 5, none⟩ = some (.slice A.xa B.excl.length A.xc) := (block_cell (i := 5) (HBX.out _ HS4.out.b)).trans rfl
        have hsl4 : B.excl.length ≤ 65536 := HG.out.x.1
        go_wp2_with fail
        go_loopw [61] (fun v w' => ∃ (i : Nat), v = .int .i64 i ∧ i ≤ B.excl.length ∧ Hid (St (w1.heap.size + 1) (w1.heap.size + 1 + 1 + 1) W2 (txt B 4 ++ (B.excl.take i).flatMap (spnT kExcluded)) w')) (fun v _ => B.excl.length - (intOf v).toNat)
        case atStart => exact ⟨0, rfl, Nat.zero_le _, Lib.hid (by rw [List.take_zero, List.flatMap_nil, List.append_nil]; exact HS4.out)⟩
        case round =>
          obtain ⟨i, rfl, hi, hs⟩ := hrel
          by_cases hlt : i < B.excl.length
          · obtain ⟨x, hx⟩ : ∃ x, B.excl[i]? = some x := ⟨_, List.getElem?_eq_getElem hlt⟩
            rcases (HLS.out wr hs.out.b).x with h0 | ⟨bk, o, had, hbk, hc⟩
            · rw [h0] at hlt; simp at hlt
            obtain ⟨q0, q1⟩ := spns_at (hc i x hx)
            have hm := List.mem_of_getElem? hx
            have HSN := Lib.hid (Listed.flatMap_snoc (spnT kExcluded) B.excl i x hx)
            have hsp := HG.out.x.2 x hm
            have hle : ((B.excl.take i).flatMap (spnT kExcluded)).length ≤ 200 * i := by
              have := Listed.flatMap_le (spnT kExcluded) 200 (B.excl.take i) (fun x _ => spnT_le _ x (by decide))
              rw [List.length_take, Nat.min_eq_left hi] at this
              exact this
            have HPUT : Hid (∀ W, St (w1.heap.size + 1) (w1.heap.size + 1 + 1 + 1) W2 (txt B 4 ++ (B.excl.take i).flatMap (spnT kExcluded)) W → Calls Tryz.prog 17 #[.string ⟨#[101, 120, 99, 108, 117, 100, 101, 100]⟩, .int .i32 x.a, .int .i32 x.b, .slice none 0 0, .pointer (some ⟨w1.heap.size + 1, 0, none⟩)] W fun e w' => e = .returned (.tuple #[]) ∧ St (w1.heap.size + 1) (w1.heap.size + 1 + 1 + 1) W2 (txt B 4 ++ (B.excl.take (i + 1)).flatMap (spnT kExcluded)) w') := Lib.hid (by
              intro W hW
              rw [HSN.out, ← List.append_assoc, ← spn_line]
              refine (put_any _ _ W2 _ ⟨#[101, 120, 99, 108, 117, 100, 101, 100]⟩ x.a x.b _ none _ hsp fld_kinds.2.2.2.1 (fun m hm => by cases hm) .nil (HENV.out.t _ hW.b) hW (by have := HTX.out 4; rw [List.length_append]; omega)).mono ?_
              rintro e w' ⟨he, hs, _⟩
              exact ⟨he, hs⟩)
            obtain ⟨xa, xb⟩ := x
            dsimp only at q0 q1 HPUT
            have HA := Lib.hid ((Below.refl wr.heap.size wr).alloc (Nat.le_refl _) (.cells #[.int .i32 xa, .int .i32 xb] 71 (0, 0)))
            have hbx := heap_alloc_new wr (.cells #[.int .i32 xa, .int .i32 xb] 71 (0, 0))
            have HS1 := Lib.hid (hs.out.below HA.out)
            generalize hWA : (wr.alloc (.cells #[.int .i32 xa, .int .i32 xb] 71 (0, 0))) = WA at *
            have c0 : WA.cell? ⟨wr.heap.size, 0, none⟩ = some (.int .i32 xa) := (block_cell (i := 0) hbx).trans rfl
            have c1 : WA.cell? ⟨wr.heap.size, 1, none⟩ = some (.int .i32 xb) := (block_cell (i := 1) hbx).trans rfl
            have c3 := HENV.out.cell HS1.out
            rw [had]
            clear hc hx hm hsp hbx hle
            go_wp2_with fail
            refine (HPUT.out _ HS1.out).mono ?_
            rintro e w7 ⟨rfl, hs7⟩
            have HS7 := Lib.hid hs7
            clear hs7 q0 q1 hWA c0 c1 c3
            go_wp2_with fail
            go_roundw
            case rel => exact ⟨i + 1, by go_num, by omega, HS7⟩
            case measure => simp [intOf]; omega
          · obtain rfl : i = B.excl.length := by omega
            have HS5 : Hid (St (w1.heap.size + 1) (w1.heap.size + 1 + 1 + 1) W2 (txt B 5) wr) := Lib.hid (by have h := hs.out; rw [List.take_length] at h; exact h)
            clear HS4 hs hi hlt kk
            have kk : wr.cell? ⟨w.heap.size, 6, none⟩ = some (.slice A.ba B.bidi.length A.bc) := (block_cell (i := 6) (HBX.out _ HS5.out.b)).trans rfl
            go_wp2_with fail
            refine (values_any _ _ _ W2 HENV.out (txt B 5) ⟨#[98, 105, 100, 105]⟩ (fun n => dirs.getD n.toNat ⟨#[]⟩) 23 #[] A.ba B.bidi A.bc _ (fun x hx => (HG.out.b.2 x hx).1) HG.out.b.1 fld_kinds.2.2.2.2.1 (fun x hx => by obtain ⟨_, h1, h2⟩ := HG.out.b.2 x hx; have hlt : x.n.toNat < dirs.length := (by show x.n.toNat < 23; omega); show Fld (dirs.getD x.n.toNat ⟨#[]⟩); rw [List.getD_eq_getElem?_getD, List.getElem?_eq_getElem hlt]; exact fld_dirs _ (List.getElem_mem _)) (fun W hW => (HLS.out W hW).b) (enters_of Tryz.func23 (by kernel_rfl) rfl) (fun W x hW hx => by obtain ⟨_, h1, h2⟩ := HG.out.b.2 x hx; have hlt : x.n.toNat < dirs.length := (by show x.n.toNat < 23; omega); have h3 := dirName_any x.n.toNat (dirs.getD x.n.toNat ⟨#[]⟩) W (by rw [List.getD_eq_getElem?_getD, List.getElem?_eq_getElem hlt]; rfl); rw [Int.toNat_of_nonneg (by omega)] at h3; exact h3) HS5.out (by have := HTX.out 5; omega)).mono ?_
            rintro e v5 ⟨rfl, hsn⟩
            have HS6 : Hid (St (w1.heap.size + 1) (w1.heap.size + 1 + 1 + 1) W2 (txt B 6) v5) := Lib.hid (by rw [show txt B 6 = txt B 5 ++ B.bidi.flatMap (valT kBidi (nameAt dirs)) from rfl, ← flat_congr (fun x hx => val_line kBidi (nameAt dirs) x ((fun n => dirs.getD n.toNat ⟨#[]⟩) x.n) rfl)]; exact hsn)
            clear kk hsn HS5
            have kk : v5.cell? ⟨w.heap.size, 7, none⟩ = some (.slice A.ja B.join.length A.jc) := (block_cell (i := 7) (HBX.out _ HS6.out.b)).trans rfl
            go_wp2_with fail
            refine (values_any _ _ _ W2 HENV.out (txt B 6) ⟨#[106, 111, 105, 110, 105, 110, 103]⟩ (fun n => joins.getD n.toNat ⟨#[]⟩) 25 #[] A.ja B.join A.jc _ (fun x hx => (HG.out.j.2 x hx).1) HG.out.j.1 fld_kinds.2.2.2.2.2.1 (fun x hx => by obtain ⟨_, h1, h2⟩ := HG.out.j.2 x hx; have hlt : x.n.toNat < joins.length := (by show x.n.toNat < 6; omega); show Fld (joins.getD x.n.toNat ⟨#[]⟩); rw [List.getD_eq_getElem?_getD, List.getElem?_eq_getElem hlt]; exact fld_joins _ (List.getElem_mem _)) (fun W hW => (HLS.out W hW).j) (enters_of Tryz.func25 (by kernel_rfl) rfl) (fun W x hW hx => by obtain ⟨_, h1, h2⟩ := HG.out.j.2 x hx; have hlt : x.n.toNat < joins.length := (by show x.n.toNat < 6; omega); have h3 := joinName_any x.n.toNat (joins.getD x.n.toNat ⟨#[]⟩) W (by rw [List.getD_eq_getElem?_getD, List.getElem?_eq_getElem hlt]; rfl); rw [Int.toNat_of_nonneg (by omega)] at h3; exact h3) HS6.out (by have := HTX.out 6; omega)).mono ?_
            rintro e v6 ⟨rfl, hsn⟩
            have HS7 : Hid (St (w1.heap.size + 1) (w1.heap.size + 1 + 1 + 1) W2 (txt B 7) v6) := Lib.hid (by rw [show txt B 7 = txt B 6 ++ B.join.flatMap (valT kJoining (nameAt joins)) from rfl, ← flat_congr (fun x hx => val_line kJoining (nameAt joins) x ((fun n => joins.getD n.toNat ⟨#[]⟩) x.n) rfl)]; exact hsn)
            clear kk hsn HS6
            have kk : v6.cell? ⟨w.heap.size, 8, none⟩ = some (.slice A.qa B.marks.length A.qc) := (block_cell (i := 8) (HBX.out _ HS7.out.b)).trans rfl
            have hsl7 : B.marks.length ≤ 65536 := HG.out.q.1
            go_wp2_with fail
            go_loopw [83] (fun v w' => ∃ (i : Nat), v = .int .i64 i ∧ i ≤ B.marks.length ∧ Hid (St (w1.heap.size + 1) (w1.heap.size + 1 + 1 + 1) W2 (txt B 7 ++ (B.marks.take i).flatMap (spnT kMark)) w')) (fun v _ => B.marks.length - (intOf v).toNat)
            case atStart => exact ⟨0, rfl, Nat.zero_le _, Lib.hid (by rw [List.take_zero, List.flatMap_nil, List.append_nil]; exact HS7.out)⟩
            case round =>
              obtain ⟨i, rfl, hi, hs⟩ := hrel
              by_cases hlt : i < B.marks.length
              · obtain ⟨x, hx⟩ : ∃ x, B.marks[i]? = some x := ⟨_, List.getElem?_eq_getElem hlt⟩
                rcases (HLS.out wr hs.out.b).q with h0 | ⟨bk, o, had, hbk, hc⟩
                · rw [h0] at hlt; simp at hlt
                obtain ⟨q0, q1⟩ := spns_at (hc i x hx)
                have hm := List.mem_of_getElem? hx
                have HSN := Lib.hid (Listed.flatMap_snoc (spnT kMark) B.marks i x hx)
                have hsp := HG.out.q.2 x hm
                have hle : ((B.marks.take i).flatMap (spnT kMark)).length ≤ 200 * i := by
                  have := Listed.flatMap_le (spnT kMark) 200 (B.marks.take i) (fun x _ => spnT_le _ x (by decide))
                  rw [List.length_take, Nat.min_eq_left hi] at this
                  exact this
                have HPUT : Hid (∀ W, St (w1.heap.size + 1) (w1.heap.size + 1 + 1 + 1) W2 (txt B 7 ++ (B.marks.take i).flatMap (spnT kMark)) W → Calls Tryz.prog 17 #[.string ⟨#[109, 97, 114, 107]⟩, .int .i32 x.a, .int .i32 x.b, .slice none 0 0, .pointer (some ⟨w1.heap.size + 1, 0, none⟩)] W fun e w' => e = .returned (.tuple #[]) ∧ St (w1.heap.size + 1) (w1.heap.size + 1 + 1 + 1) W2 (txt B 7 ++ (B.marks.take (i + 1)).flatMap (spnT kMark)) w') := Lib.hid (by
                  intro W hW
                  rw [HSN.out, ← List.append_assoc, ← spn_line]
                  refine (put_any _ _ W2 _ ⟨#[109, 97, 114, 107]⟩ x.a x.b _ none _ hsp fld_kinds.2.2.2.2.2.2.1 (fun m hm => by cases hm) .nil (HENV.out.t _ hW.b) hW (by have := HTX.out 7; rw [List.length_append]; omega)).mono ?_
                  rintro e w' ⟨he, hs, _⟩
                  exact ⟨he, hs⟩)
                obtain ⟨xa, xb⟩ := x
                dsimp only at q0 q1 HPUT
                have HA := Lib.hid ((Below.refl wr.heap.size wr).alloc (Nat.le_refl _) (.cells #[.int .i32 xa, .int .i32 xb] 71 (0, 0)))
                have hbx := heap_alloc_new wr (.cells #[.int .i32 xa, .int .i32 xb] 71 (0, 0))
                have HS1 := Lib.hid (hs.out.below HA.out)
                generalize hWA : (wr.alloc (.cells #[.int .i32 xa, .int .i32 xb] 71 (0, 0))) = WA at *
                have c0 : WA.cell? ⟨wr.heap.size, 0, none⟩ = some (.int .i32 xa) := (block_cell (i := 0) hbx).trans rfl
                have c1 : WA.cell? ⟨wr.heap.size, 1, none⟩ = some (.int .i32 xb) := (block_cell (i := 1) hbx).trans rfl
                have c3 := HENV.out.cell HS1.out
                rw [had]
                clear hc hx hm hsp hbx hle
                go_wp2_with fail
                refine (HPUT.out _ HS1.out).mono ?_
                rintro e w7 ⟨rfl, hs7⟩
                have HS7 := Lib.hid hs7
                clear hs7 q0 q1 hWA c0 c1 c3
                go_wp2_with fail
                go_roundw
                case rel => exact ⟨i + 1, by go_num, by omega, HS7⟩
                case measure => simp [intOf]; omega
              · obtain rfl : i = B.marks.length := by omega
                have HS8 : Hid (St (w1.heap.size + 1) (w1.heap.size + 1 + 1 + 1) W2 (txt B 8) wr) := Lib.hid (by have h := hs.out; rw [List.take_length] at h; exact h)
                clear HS7 hs hi hlt kk
                have kk : wr.cell? ⟨w.heap.size, 9, none⟩ = some (.slice A.ra B.script.length A.rc) := (block_cell (i := 9) (HBX.out _ HS8.out.b)).trans rfl
                go_wp2_with fail
                refine (values_any _ _ _ W2 HENV.out (txt B 8) ⟨#[115, 99, 114, 105, 112, 116]⟩ (fun n => B.names.getD (n - 1).toNat ⟨#[]⟩) 27 #[.pointer (some ⟨w.heap.size, 0, none⟩)] A.ra B.script A.rc _ (fun x hx => (HG.out.r.2 x hx).1) HG.out.r.1 fld_kinds.2.2.2.2.2.2.2.1 (fun x hx => by obtain ⟨_, h1, h2⟩ := HG.out.r.2 x hx; have hlt : (x.n - 1).toNat < B.names.length := (by omega); show Fld (B.names.getD (x.n - 1).toNat ⟨#[]⟩); rw [List.getD_eq_getElem?_getD, List.getElem?_eq_getElem hlt]; exact fld_name HG.out.n (List.getElem?_eq_getElem hlt)) (fun W hW => (HLS.out W hW).r) (enters_of Tryz.func27 (by kernel_rfl) rfl) (fun W x hW hx => by obtain ⟨_, h1, h2⟩ := HG.out.r.2 x hx; have hlt : (x.n - 1).toNat < B.names.length := (by omega); have hnl := HNL.out; have h3 := scriptName_any B.names A.na A.nc w.heap.size (x.n - 1).toNat (B.names.getD (x.n - 1).toNat ⟨#[]⟩) W (by have := HG.out.n.1; omega) (by rw [List.getD_eq_getElem?_getD, List.getElem?_eq_getElem hlt]; rfl) (HLS.out W hW).n ((block_cell (i := 0) (HBX.out W hW)).trans rfl); rw [show (((x.n - 1).toNat : Nat) : Int) + 1 = x.n from by omega] at h3; exact h3) HS8.out (by have := HTX.out 8; omega)).mono ?_
                rintro e v8 ⟨rfl, hsn⟩
                have HS9 : Hid (St (w1.heap.size + 1) (w1.heap.size + 1 + 1 + 1) W2 (txt B 9) v8) := Lib.hid (by rw [show txt B 9 = txt B 8 ++ B.script.flatMap (valT kScript (fun n => nameAt B.names (n - 1))) from rfl, ← flat_congr (fun x hx => val_line kScript (fun n => nameAt B.names (n - 1)) x ((fun n => B.names.getD (n - 1).toNat ⟨#[]⟩) x.n) rfl)]; exact hsn)
                clear kk hsn HS8
                have kk : v8.cell? ⟨w.heap.size, 10, none⟩ = some (.slice A.la B.like.length A.lc) := (block_cell (i := 10) (HBX.out _ HS9.out.b)).trans rfl
                go_wp2_with fail
                refine (rowsP_any _ _ _ W2 HENV.out (txt B 9) ⟨#[108, 105, 107, 101]⟩ A.la B.like A.lc _ (tell_ok HG.out.l) HG.out.l.1 fld_kinds.2.2.2.2.2.2.2.2 (fun W hW => (HLS.out W hW).l) HS9.out (by have := HTX.out 9; omega)).mono ?_
                rintro e v9 ⟨rfl, hsn⟩
                have HS10 : Hid (St (w1.heap.size + 1) (w1.heap.size + 1 + 1 + 1) W2 (txt B 10) v9) := Lib.hid (by have h2 := chrs_text (K := kLike) HG.out.l; rw [show txt B 10 = txt B 9 ++ B.like.flatMap (listT kLike) from rfl, ← h2]; exact hsn)
                clear kk hsn HS9
                obtain ⟨v, hv, hown⟩ := HS10.out.o
                have kk : v9.cell? ⟨w1.heap.size + 1, 0, none⟩ = some v := (block_cell (i := 0) hv).trans rfl
                have hcv : Sem.run Tryz.prog (convert 57 9 v) v9 = .ok (.string ⟨(txt B 10).toArray⟩) v9 := by
                  rcases hown.2 with ⟨rfl, h0⟩ | ⟨g, cap, cur', rfl, _⟩
                  · rw [List.length_eq_zero_iff.1 h0]
                    exact run_convert_bytes_nil (P := Tryz.prog) _ 57 5 (by kernel_rfl) (by kernel_rfl) 0 0 9 (by kernel_rfl)
                  · refine run_convert_bytes_back (P := Tryz.prog) _ 57 9 5 ⟨g, 0, none⟩ cap (txt B 10) (by kernel_rfl) (by kernel_rfl) (by kernel_rfl) ?_
                    intro j hj
                    exact hown.cells (g := g) rfl j _ (by unfold bytesV; rw [List.getElem?_map, List.getElem?_eq_getElem hj]; rfl)
                have HFIN := Lib.hid (HLOW.out _ HS10.out.b)
                obtain ⟨s, hs10⟩ : ∃ s : ByteArray, s = ⟨(txt B 10).toArray⟩ := ⟨_, rfl⟩
                have HSS : Hid (s.data.toList = txt B 10) := Lib.hid (by rw [hs10])
                rw [← hs10] at hcv
                clear hv hown HS10 hs10
                go_wp2_with fail
                go_ret2
                exact ⟨.inl ⟨HF.out, s, rfl, HSS.out⟩, HFIN.out⟩
end Go.Proofs.YtgdambmineeboaaGreatDoor.PrintP
