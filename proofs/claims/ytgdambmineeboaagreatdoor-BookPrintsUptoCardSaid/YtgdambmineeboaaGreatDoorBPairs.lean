/- A set of pairs of code points: the laws of a map whose keys are arrays of two and whose elements are bools. -/
import Derived.Test.YtgdambmineeboaaGreatDoorBMemo
import Derived.WideKeyPair
import Derived.DeepKeys4
set_option linter.unusedSimpArgs false
set_option linter.unusedVariables false
namespace Go.Proofs.YtgdambmineeboaaGreatDoor.Pairs
open Go Go.Maps Go.RowKit Go.Lib Go.Proofs.YtgdambmineeboaaGreatDoor.Memo

theorem laid : laidOutB Tryz.prog = true := by kernel_rfl
theorem rowP : (168 : TypeId) < Tryz.prog.types.size := of_decide_eq_true (by kernel_rfl)
theorem cellsR : Tryz.prog.cellsOf 21 = 1 := by kernel_rfl
theorem cellsP : Tryz.prog.cellsOf 168 = 2 := by kernel_rfl
theorem arrP : WideMaps.ArrKey Tryz.prog 168 21 2 := ⟨Tryz.underlying168, by kernel_rfl, cellsR, cellsP⟩
theorem wideP : (match Tryz.prog.underlying 168 with | some (.array _ _) | some (.struct _) => true | _ => false) = true := by rw [Tryz.underlying168]
set_option maxRecDepth 100000 in
theorem keyedP : Keyed Tryz.prog 168 := Keyed.of_law (deep_law_laid laid (m := 2) (by omega) rowP (by kernel_rfl) wideP)
theorem sizeP : ∃ m, Tryz.prog.types.size = m + 1 := by
  have h := rowP
  exact ⟨Tryz.prog.types.size - 1, by have := Nat.lt_of_le_of_lt (Nat.zero_le _) h; omega⟩
def kl (a b : Int) : Lit := .string (keyBytes [.int .i32 a, .int .i32 b])
theorem key_pair {a b : Int} (ha : 0 ≤ a ∧ a ≤ 1114111) (hb : 0 ≤ b ∧ b ≤ 1114111) : keyOf Tryz.prog 168 (.agg #[.int .i32 a, .int .i32 b]) = some (kl a b) :=
  WideMaps.keyOf_pair arrP Tryz.underlying21 sizeP (WalkArith.wf_i32 (by omega)) (WalkArith.wf_i32 (by omega))
theorem kl_inj {a b a' b' : Int} (ha : 0 ≤ a ∧ a ≤ 1114111) (hb : 0 ≤ b ∧ b ≤ 1114111) (ha' : 0 ≤ a' ∧ a' ≤ 1114111) (hb' : 0 ≤ b' ∧ b' ≤ 1114111) (h : kl a b = kl a' b') : a = a' ∧ b = b' := by
  have h1 := key_pair ha hb
  have h2 := key_pair ha' hb'
  rw [← h] at h2
  have := keyedP.inj h1 h2
  simp at this
  exact this
theorem kl_key (a b : Int) : WideAt.IsKeyLit (kl a b) := trivial
/-- Which pairs the first i rows have. -/
def pairIn (D : List Mem.Chr) (i : Nat) (a b : Int) : Bool := (D.take i).any fun x => decide (x.is = [a, b])
def In (p : Int) : Prop := 0 ≤ p ∧ p ≤ 1114111
def Rep2 (D : List Mem.Chr) (i : Nat) (M : Dat) : Prop := ∀ a b, In a → In b → M.atKey (kl a b) (.lit (.bool false)) = .lit (.bool (pairIn D i a b))
theorem pairIn_succ {D : List Mem.Chr} {i : Nat} {x : Mem.Chr} (hx : D[i]? = some x) (a b : Int) : pairIn D (i + 1) a b = (pairIn D i a b || decide (x.is = [a, b])) := by
  unfold pairIn
  rw [RefNine.take_snoc' D i x hx, List.any_append]
  simp
theorem Rep2.zero (D : List Mem.Chr) : Rep2 D 0 (.map []) := fun _ _ _ _ => rfl
theorem Rep2.skip {D : List Mem.Chr} {i : Nat} {x : Mem.Chr} {M : Dat} (h : Rep2 D i M) (hx : D[i]? = some x) (hl : x.is.length ≠ 2) : Rep2 D (i + 1) M := by
  intro a b ha hb
  rw [h a b ha hb, pairIn_succ hx, decide_eq_false (fun e => hl (by rw [e]; rfl)), Bool.or_false]
theorem Rep2.put {D : List Mem.Chr} {i : Nat} {x : Mem.Chr} {M : Dat} {a b : Int} (h : Rep2 D i M) (hM : IsMap M) (hx : D[i]? = some x) (hl : x.is = [a, b]) (ha : In a) (hb : In b) : Rep2 D (i + 1) (M.put (kl a b) (.lit (.bool true))) := by
  intro a' b' ha' hb'
  rw [pairIn_succ hx]
  by_cases e : a' = a ∧ b' = b
  · obtain ⟨rfl, rfl⟩ := e
    rw [atKey_put_same hM (kl_key _ _), decide_eq_true hl, Bool.or_true]
  · have hne : kl a' b' ≠ kl a b := fun hk => e (kl_inj ha' hb' ha hb hk)
    rw [atKey_put_other hne, h a' b' ha' hb', decide_eq_false (fun e2 => e (by rw [hl] at e2; simp at e2; exact ⟨e2.1.symm, e2.2.symm⟩)), Bool.or_false]
theorem same_pair {x : List Int} {y : List Int} {a b : Int} (hx : x = [a, b]) : WholeRef.samePair x y = decide (y = [a, b]) := by
  subst hx
  unfold WholeRef.samePair
  rw [Bool.eq_iff_iff]
  simp only [Bool.and_eq_true, decide_eq_true_eq]
  constructor
  · rintro ⟨⟨⟨_, h2⟩, h3⟩, h4⟩
    match y, h2 with
    | [p, q], _ =>
      simp at h3 h4
      rw [h3, h4]
  · rintro rfl
    simp
theorem pairs_iff {D : List Mem.Chr} {i : Nat} {x : List Int} {a b : Int} (hx : x = [a, b]) : pairIn D i a b = false ↔ ∀ j y, j < i → D[j]? = some y → WholeRef.samePair x y.is = false := by
  unfold pairIn
  rw [List.any_eq_false]
  constructor
  · intro h j y hj hy
    rw [same_pair hx]
    have := h y (List.mem_of_getElem? (i := j) (by rw [List.getElem?_take, if_pos hj]; exact hy))
    simpa using this
  · intro h y hy
    obtain ⟨j, hj⟩ := List.getElem?_of_mem hy
    have hlt : j < i := by
      have := (List.getElem?_eq_some_iff.1 hj).1
      rw [List.length_take] at this
      omega
    rw [List.getElem?_take, if_pos hlt] at hj
    have := h j y hlt hj
    rw [same_pair hx] at this
    simpa using this
theorem same_short {x y : List Int} (hx : x.length ≠ 2) : WholeRef.samePair x y = false := by
  unfold WholeRef.samePair
  rw [decide_eq_false hx]
  simp
theorem plainElem_bool_inv {P : Program} {e : TypeId} (he : P.underlying e = some .bool) {v : Value} {z : Dat × List MemPlace} (h : plainElem P e v = some z) : ∃ b, v = .bool b ∧ z = (.lit (.bool b), []) := by
  unfold plainElem at h
  rw [he] at h
  cases v <;> simp at h
  rename_i b
  exact ⟨b, rfl, h.symm⟩
theorem wpList_lookup_own_bool {P : Program} (w : World) {ops : Array Oper} {rest : List Oper} {o : Oper} {a : Act} {Q : Exit → Act → World → Prop}
    (hg : o.guard = none) (m x : Operand) (t : TypeId) (hop : o.op = Op.lookup t m x false)
    (k e : TypeId) (K : Keyed P k) (ht : P.underlying t = some (.map k e)) (he : P.underlying e = some .bool) (hz : (zeroValue e).run P w = .ok (.bool false) w) (b n : Nat) (D : Dat)
    (hm : a.eval m = .map (some b)) (hown : w.ownsMap P k (plainElem P e) b n D) (key : Value) (kl : Lit) (hx : a.eval x = key) (hkey : keyOf P k key = some kl)
    (hK : ∀ c : Bool, D.atKey kl (.lit (.bool false)) = .lit (.bool c) → wpList P ops Q rest (a.put o.dst (.bool c)) w) :
    wpList P ops Q (o :: rest) a w := by
  refine wpList_plain hg fun K' hK' => ?_
  obtain ⟨v, ps, hrun, hv⟩ := hown.lookup K ht hz (plainElem_bool he false) hkey
  obtain ⟨c, rfl, hc⟩ := plainElem_bool_inv he hv
  simp only [Prod.mk.injEq] at hc
  unfold Oper.wp
  simp [execOp, hop, hm, hx, hrun, Result.andThen]
  exact hK' _ _ (hK c hc.1)
theorem zeroB (w : World) : (zeroValue 4).run Tryz.prog w = .ok (.bool false) w := by kernel_rfl
end Go.Proofs.YtgdambmineeboaaGreatDoor.Pairs
