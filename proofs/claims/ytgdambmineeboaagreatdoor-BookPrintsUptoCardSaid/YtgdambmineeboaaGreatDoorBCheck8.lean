/- The walks of what Check hands rising. -/
import Derived.Test.YtgdambmineeboaaGreatDoorBApart
import Derived.Test.YtgdambmineeboaaGreatDoorBWholeP
import Derived.Test.YtgdambmineeboaaGreatDoorBMergeD
set_option linter.unusedSimpArgs false
set_option linter.unusedVariables false
namespace Go.Proofs.YtgdambmineeboaaGreatDoor.Check8
open Go.RowKit Go.Lib Go.Proofs.YtgdambmineeboaaGreatDoor.Text Go.Proofs.YtgdambmineeboaaGreatDoor.Runes Go.Proofs.YtgdambmineeboaaGreatDoor.Print Go.Proofs.YtgdambmineeboaaGreatDoor.RefNine Go.Proofs.YtgdambmineeboaaGreatDoor.RefPrint Go.Proofs.YtgdambmineeboaaGreatDoor.Format Go.Proofs.YtgdambmineeboaaGreatDoor.Tell Go.Proofs.YtgdambmineeboaaGreatDoor.Given Go.Proofs.YtgdambmineeboaaGreatDoor.Mem Go.Proofs.YtgdambmineeboaaGreatDoor.Book Go.Proofs.YtgdambmineeboaaGreatDoor.Pred Go.Proofs.YtgdambmineeboaaGreatDoor.Many Go.Proofs.YtgdambmineeboaaGreatDoor.Meets Go.Proofs.YtgdambmineeboaaGreatDoor.Written Go.Proofs.YtgdambmineeboaaGreatDoor.Touch Go.Proofs.YtgdambmineeboaaGreatDoor.Fine Go.Proofs.YtgdambmineeboaaGreatDoor.Rising Go.Proofs.YtgdambmineeboaaGreatDoor.Values Go.Proofs.YtgdambmineeboaaGreatDoor.WholeRef Go.Proofs.YtgdambmineeboaaGreatDoor.Apart Go.Proofs.YtgdambmineeboaaGreatDoor.Merge

set_option maxRecDepth 100000 in
set_option maxHeartbeats 1000000 in
theorem check3_any (x : Raw) (w : World) (hxl : x.is.length ≤ 1048576) (hI : Rs w x.ad x.is) :
    Calls Tryz.prog 49 #[.agg #[.int .i32 x.a, .int .i32 x.b, .slice x.ad x.is.length x.cap]] w fun e w' => e = .returned (.bool (!(wrongC 18 x.is))) ∧ Below w.heap.size w w' := by
  have HB := Lib.hid ((Below.refl w.heap.size w).alloc (Nat.le_refl _) (.cells #[.int .i32 x.a, .int .i32 x.b, .slice x.ad x.is.length x.cap] 68 (0, 0)))
  have HC := Lib.hid (scalars_any x.ad x.is x.cap 1 18 _ hxl (hI.below HB.out))
  rw [scalars_wrong] at HC
  clear hI
  go_enter Tryz.func49, Tryz.ntmps49
  go_wp2_with fail
  refine HC.out.mono ?_
  rintro e w1 ⟨rfl, rfl⟩
  go_wp2_with fail
  go_ret
  exact ⟨rfl, HB.out⟩

theorem touch_one (a : Int) : touchB a a = hangulB a := by
  unfold touchB hangulB
  rw [Bool.eq_iff_iff]
  simp only [Bool.or_eq_true, Bool.and_eq_true, decide_eq_true_eq]
  omega
theorem scalars_two (l : List Int) : scalarsB l 1 2 = !(wrongC 2 l) := by
  unfold scalarsB wrongC
  generalize (l.any fun p => !scalarB p) = b
  by_cases h1 : (1 : Int) ≤ (l.length : Int)
  · by_cases h2 : (l.length : Int) ≤ 2
    · rw [decide_eq_true h1, decide_eq_true h2, decide_eq_false (show ¬ (l.length : Int) < 1 by omega), decide_eq_false (show ¬ 2 < (l.length : Int) by omega)]; rfl
    · rw [decide_eq_false h2, decide_eq_true (show 2 < (l.length : Int) by omega)]; simp
  · rw [decide_eq_false h1, decide_eq_true (show (l.length : Int) < 1 by omega)]; simp
theorem scalars_one (a : Int) : scalarsB [a] 1 1 = scalarB a := by
  unfold scalarsB
  simp

abbrev VV := (Nat → Value) → World → Prop
def vC (i : Nat) (x : Value) : VV := fun vs _ => vs i = x
def vG (i : Nat) (b : Bool) (x : Value) : VV := fun vs _ => b = true → vs i = x
def vN (i : Nat) (a : Int) : VV := fun vs W => ∃ g, vs i = .slice (some ⟨g, 0, none⟩) 1 1 ∧ W.heap[g]? = some (.cells #[.int .i32 a] 21 (0, 0))
def Keeps (i : Nat) (v : VV) : Prop := (∀ vs W W', v vs W → Below W.heap.size W W' → v vs W') ∧ ∀ vs vs' W, (∀ j, j = i ∨ j ∈ ([] : List Nat) → vs j = vs' j) → v vs W → v vs' W
theorem gC (i : Nat) (x : Value) : Keeps i (vC i x) := ⟨fun _ _ _ h _ => h, fun vs vs' _ h e => by unfold vC at *; rw [← h i (.inl rfl)]; exact e⟩
theorem gG (i : Nat) (b : Bool) (x : Value) : Keeps i (vG i b x) := ⟨fun _ _ _ h _ => h, fun vs vs' _ h e => by unfold vG at *; rw [← h i (.inl rfl)]; exact e⟩
theorem gN (i : Nat) (a : Int) : Keeps i (vN i a) := ⟨fun _ _ _ ⟨g, h1, h2⟩ hb => ⟨g, h1, (hb.block _ (block_lt h2)).trans h2⟩, fun vs vs' _ h e => by unfold vN at *; rw [← h i (.inl rfl)]; exact e⟩
def AllKeep : List VV → Nat → Prop
  | [], _ => True
  | v :: l, k => Keeps k v ∧ AllKeep l (k + 1)
theorem keep_at : ∀ {l : List VV} {k : Nat} (i : Nat), AllKeep l k → Keeps (k + i) (l.getD i (fun _ _ => True))
  | [], k, i, _ => by rw [show ([] : List VV).getD i (fun _ _ => True) = fun _ _ => True from by simp]; exact ⟨fun _ _ _ _ _ => trivial, fun _ _ _ _ _ => trivial⟩
  | v :: l, k, 0, h => h.1
  | v :: l, k, i + 1, h => by
    have := keep_at i h.2
    rw [show k + 1 + i = k + (i + 1) from by omega] at this
    simpa using this
def preds (n0 : Nat) (x : Raw) (s t h : Bool) : List VV := [
  vC 0 (.pointer (some ⟨n0, 0, none⟩)),
  vC 1 (.int .i32 x.a),
  vC 2 (.pointer (some ⟨n0, 1, none⟩)),
  vC 3 (.int .i32 x.b),
  vC 4 (.bool true),
  vC 5 (.bool true),
  vC 6 (.pointer (some ⟨n0, 0, none⟩)),
  vC 7 (.int .i32 x.a),
  vN 8 x.a,
  vC 9 (.bool s),
  vC 10 (.bool s),
  vC 11 (.bool s),
  vG 12 s (.pointer (some ⟨n0, 2, none⟩)),
  vG 13 s (.slice x.ad x.is.length x.cap),
  vG 14 s (.bool t),
  vC 15 (.bool (s && t)),
  vC 16 (.bool (s && t)),
  vG 17 (s && t) (.func (.func 47) #[] #[]),
  vG 18 (s && t) (.agg #[.int .i32 x.a, .int .i32 x.b, .slice x.ad x.is.length x.cap]),
  vG 19 (s && t) (.agg #[.int .i32 x.a, .int .i32 x.b]),
  vG 20 (s && t) (.bool h),
  vC 21 (.bool (s && t && h)),
  vC 22 (.bool (s && t && h))]
theorem preds_keep (n0 : Nat) (x : Raw) (s t h : Bool) : AllKeep (preds n0 x s t h) 0 :=
  ⟨gC _ _, ⟨gC _ _, ⟨gC _ _, ⟨gC _ _, ⟨gC _ _, ⟨gC _ _, ⟨gC _ _, ⟨gC _ _, ⟨gN _ _, ⟨gC _ _, ⟨gC _ _, ⟨gC _ _, ⟨gG _ _ _, ⟨gG _ _ _, ⟨gG _ _ _, ⟨gC _ _, ⟨gC _ _, ⟨gG _ _ _, ⟨gG _ _ _, ⟨gG _ _ _, ⟨gG _ _ _, ⟨gC _ _, ⟨gC _ _, trivial⟩⟩⟩⟩⟩⟩⟩⟩⟩⟩⟩⟩⟩⟩⟩⟩⟩⟩⟩⟩⟩⟩⟩

set_option maxRecDepth 100000 in
set_option maxHeartbeats 2000000 in
theorem check81_any (x : Raw) (PP : Nat) (w : World) (hxl : x.is.length ≤ 1048576) (hI : Rs w x.ad x.is) (hP : w.cell? ⟨PP, 0, none⟩ = some (.func (.func 47) #[] #[])) :
    Calls Tryz.prog 61 #[.agg #[.int .i32 x.a, .int .i32 x.b, .slice x.ad x.is.length x.cap], .pointer (some ⟨PP, 0, none⟩)] w fun e w' => e = .returned (.bool (!(wrongDc x.plain))) ∧ Below w.heap.size w w' := by
  have HB := Lib.hid ((Below.refl w.heap.size w).alloc (Nat.le_refl _) (.cells #[.int .i32 x.a, .int .i32 x.b, .slice x.ad x.is.length x.cap] 68 (0, 0)))
  have hbx := heap_alloc_new w (.cells #[.int .i32 x.a, .int .i32 x.b, .slice x.ad x.is.length x.cap] 68 (0, 0))
  have hpl : PP < w.heap.size := cell_lt hP
  have z0 : (w.alloc (.cells #[.int .i32 x.a, .int .i32 x.b, .slice x.ad x.is.length x.cap] 68 (0, 0))).drew.cell? ⟨w.heap.size, 0, none⟩ = some (.int .i32 x.a) := (block_cell (i := 0) hbx).trans rfl
  have z1 : (w.alloc (.cells #[.int .i32 x.a, .int .i32 x.b, .slice x.ad x.is.length x.cap] 68 (0, 0))).drew.cell? ⟨w.heap.size, 1, none⟩ = some (.int .i32 x.b) := (block_cell (i := 1) hbx).trans rfl
  have z2 : (w.alloc (.cells #[.int .i32 x.a, .int .i32 x.b, .slice x.ad x.is.length x.cap] 68 (0, 0))).drew.cell? ⟨w.heap.size, 2, none⟩ = some (.slice x.ad x.is.length x.cap) := (block_cell (i := 2) hbx).trans rfl
  have z3 : (w.alloc (.cells #[.int .i32 x.a, .int .i32 x.b, .slice x.ad x.is.length x.cap] 68 (0, 0))).drew.cell? ⟨PP, 0, none⟩ = some (.func (.func 47) #[] #[]) := (World.cell?_alloc_lt _ _ _ hpl).trans hP
  have hwd : Hid (wrongDc x.plain = (wrongC 2 x.is || !(x.a == x.b) || hangulB x.a || !scalarB x.a)) := Lib.hid rfl
  have HI := Lib.hid hI
  clear hI hbx
  cases hab : (x.a == x.b) with
  | false =>
    have HF : Hid ((!(wrongDc x.plain)) = false) := Lib.hid (by rw [hwd.out, hab]; simp)
    go_enter Tryz.func61, Tryz.ntmps61
    go_wp2_with fail
    go_quiet (fail)
    go_wp2_with fail
    go_ret
    exact ⟨by rw [HF.out]; rfl, drawn HB.out _⟩
  | true =>
    have HAB : Hid (x.a = x.b) := Lib.hid (by simpa using hab)
    have HS1 := Lib.hid (fun W (g c : Nat) (h : W.heap[g]? = some (.cells #[.int .i32 x.a] 21 (0, 0))) => scalars_any (some ⟨g, 0, none⟩) [x.a] c 1 1 W (by simp) (.inr ⟨g, 0, rfl, block_lt h, fun j y hj => by
      rw [Nat.zero_add]
      exact (block_cell (i := j) h).trans (by match j, hj with | 0, hj => (cases hj; rfl) | j + 1, hj => simp at hj)⟩))
    rw [scalars_one] at HS1
    rw [show ([x.a] : List Int).length = 1 from rfl] at HS1
    have HS2 := Lib.hid (fun W (hW : Below w.heap.size w W) => scalars_any x.ad x.is x.cap 1 2 W hxl (HI.out.below hW))
    rw [scalars_two] at HS2
    have HP2 := Lib.hid (fun W => check2_any x.a x.b W)
    rw [show touchB x.a x.b = hangulB x.a from by rw [← HAB.out]; exact touch_one x.a] at HP2
    have HPP := Lib.hid hP
    have hab' : (x.a == x.b) = true := hab
    have HBX : Hid ((w.alloc (.cells #[.int .i32 x.a, .int .i32 x.b, .slice x.ad x.is.length x.cap] 68 (0, 0))).heap[w.heap.size]? = some (.cells #[.int .i32 x.a, .int .i32 x.b, .slice x.ad x.is.length x.cap] 68 (0, 0))) := Lib.hid (heap_alloc_new w _)
    have HF : Hid ((!(wrongDc x.plain)) = (scalarB x.a && !(wrongC 2 x.is) && !(hangulB x.a))) := Lib.hid (by rw [hwd.out, hab]; cases wrongC 2 x.is <;> cases hangulB x.a <;> cases scalarB x.a <;> rfl)
    rw [HF.out]
    clear HF z0 z1 z2 z3 hwd hP
    generalize scalarB x.a = s at *
    generalize (!(wrongC 2 x.is)) = t at *
    generalize (!(hangulB x.a)) = h at *
    go_enter Tryz.func61, Tryz.ntmps61
    go_wp2_with fail
    refine MergeG.wp_region_merge (by kernel_rfl) (fun vals => { tmps := #[.agg #[.int .i32 x.a, .int .i32 x.b, .slice x.ad x.is.length x.cap], .pointer (some ⟨PP, 0, none⟩), .pointer (some ⟨w.heap.size, 0, none⟩), vals 22, vals 0, vals 1, vals 2, vals 3, vals 4, vals 5, vals 6, vals 7, vals 8, vals 9, vals 10, vals 11, vals 12, vals 13, vals 14, vals 15, vals 16, vals 17, vals 18, vals 19, vals 20, vals 21], defers := [] }) (fun i => (preds w.heap.size x s t h).getD i (fun _ _ => True)) (fun _ => []) (fun W => Below w.heap.size w W ∧ W.heap[w.heap.size]? = some (.cells #[.int .i32 x.a, .int .i32 x.b, .slice x.ad x.is.length x.cap] 68 (0, 0))) (fun W W' => Below W.heap.size W W') (fun i => if i = 22 then .bool false else undef) rfl
      (fun i vs W W' hh hb => by have := (keep_at i (preds_keep w.heap.size x s t h)).1 vs W W'; exact this hh hb)
      (fun i vs vs' W hh hv => by have := (keep_at i (preds_keep w.heap.size x s t h)).2 vs vs' W; rw [Nat.zero_add] at this; exact this hh hv)
      (fun W W' hh hb => ⟨hh.1.trans (hb.mono hh.1.size), (hb.block _ (block_lt hh.2)).trans hh.2⟩) ⟨HB.out.drew, HBX.out⟩ ?hS ?hD
    case hS =>
      refine MergeG.AllSteps.cons ⟨by rfl, by intro d hd; simp at hd, fun _ _ => rfl, fun vals W hi hd K hK => ?_⟩ ?_
      · rw [if_pos (by rfl)]
        go_simp
        exact hK _ _ (upd_same _ _ _) (Below.refl _ _)
      refine MergeG.AllSteps.cons ⟨by rfl, by intro d hd; simp at hd, fun _ _ => rfl, fun vals W hi hd K hK => ?_⟩ ?_
      · rw [if_pos (by rfl)]
        have e0 : vals 0 = .pointer (some ⟨w.heap.size, 0, none⟩) := hd ⟨0, .data⟩ (by simp) rfl
        have kk : W.cell? ⟨w.heap.size, 0, none⟩ = some (.int .i32 x.a) := (block_cell (i := 0) hi.2).trans rfl
        simp only [e0] at hK
        go_simp
        exact hK _ _ (upd_same _ _ _) (Below.refl _ _)
      refine MergeG.AllSteps.cons ⟨by rfl, by intro d hd; simp at hd, fun _ _ => rfl, fun vals W hi hd K hK => ?_⟩ ?_
      · rw [if_pos (by rfl)]
        go_simp
        exact hK _ _ (upd_same _ _ _) (Below.refl _ _)
      refine MergeG.AllSteps.cons ⟨by rfl, by intro d hd; simp at hd, fun _ _ => rfl, fun vals W hi hd K hK => ?_⟩ ?_
      · rw [if_pos (by rfl)]
        have e2 : vals 2 = .pointer (some ⟨w.heap.size, 1, none⟩) := hd ⟨2, .data⟩ (by simp) rfl
        have kk : W.cell? ⟨w.heap.size, 1, none⟩ = some (.int .i32 x.b) := (block_cell (i := 1) hi.2).trans rfl
        simp only [e2] at hK
        go_simp
        exact hK _ _ (upd_same _ _ _) (Below.refl _ _)
      refine MergeG.AllSteps.cons ⟨by rfl, by intro d hd; simp at hd, fun _ _ => rfl, fun vals W hi hd K hK => ?_⟩ ?_
      · rw [if_pos (by rfl)]
        have e1 : vals 1 = .int .i32 x.a := hd ⟨1, .data⟩ (by simp) rfl
        have e3 : vals 3 = .int .i32 x.b := hd ⟨3, .data⟩ (by simp) rfl
        simp only [e1, e3] at hK
        go_simp
        exact hK _ _ (upd_same _ _ _) (Below.refl _ _)
      refine MergeG.AllSteps.cons ⟨by rfl, by intro d hd; simp at hd, fun _ _ => rfl, fun vals W hi hd K hK => ?_⟩ ?_
      · rw [if_pos (by rfl)]
        have e4 : vals 4 = .bool true := hd ⟨4, .data⟩ (by simp) rfl
        simp only [e4] at hK
        go_simp
        exact hK _ _ (upd_same _ _ _) (Below.refl _ _)
      refine MergeG.AllSteps.cons ⟨by rfl, by intro d hd; simp at hd, fun _ _ => rfl, fun vals W hi hd K hK => ?_⟩ ?_
      · have e5 : vals 5 = .bool true := hd ⟨5, .guard⟩ (by simp) rfl
        rw [if_pos (by simp [Region.wanted, yielded, e5])]
        simp only [e5] at hK
        go_simp
        exact hK _ _ (upd_same _ _ _) (Below.refl _ _)
      refine MergeG.AllSteps.cons ⟨by rfl, by intro d hd; simp at hd, fun _ _ => rfl, fun vals W hi hd K hK => ?_⟩ ?_
      · have e5 : vals 5 = .bool true := hd ⟨5, .guard⟩ (by simp) rfl
        rw [if_pos (by simp [Region.wanted, yielded, e5])]
        have e6 : vals 6 = .pointer (some ⟨w.heap.size, 0, none⟩) := hd ⟨6, .data⟩ (by simp) rfl
        have kk : W.cell? ⟨w.heap.size, 0, none⟩ = some (.int .i32 x.a) := (block_cell (i := 0) hi.2).trans rfl
        simp only [e5, e6] at hK
        go_simp
        exact hK _ _ (upd_same _ _ _) (Below.refl _ _)
      refine MergeG.AllSteps.cons ⟨by rfl, by intro d hd; simp at hd, fun _ _ => rfl, fun vals W hi hd K hK => ?_⟩ ?_
      · have e5 : vals 5 = .bool true := hd ⟨5, .guard⟩ (by simp) rfl
        rw [if_pos (by simp [Region.wanted, yielded, e5])]
        have e7 : vals 7 = .int .i32 x.a := hd ⟨7, .data⟩ (by simp) rfl
        simp only [e5, e7] at hK
        go_simp
        exact hK _ _ ⟨W.heap.size, upd_same _ _ _, heap_alloc_new W _⟩ ((Below.refl _ _).alloc (Nat.le_refl _) _)
      refine MergeG.AllSteps.cons ⟨by rfl, by intro d hd; simp at hd, fun _ _ => rfl, fun vals W hi hd K hK => ?_⟩ ?_
      · have e5 : vals 5 = .bool true := hd ⟨5, .guard⟩ (by simp) rfl
        rw [if_pos (by simp [Region.wanted, yielded, e5])]
        obtain ⟨g, e8, hgb⟩ := hd ⟨8, .data⟩ (by simp) rfl
        have HCC := Lib.hid (HS1.out W g 1 hgb)
        simp only [e5, e8] at hK
        go_simp
        refine HCC.out.mono ?_
        rintro e wn ⟨rfl, rfl⟩
        exact hK _ _ (upd_same _ _ _) (Below.refl _ _)
      refine MergeG.AllSteps.cons ⟨by rfl, by intro d hd; simp at hd, fun _ _ => rfl, fun vals W hi hd K hK => ?_⟩ ?_
      · rw [if_pos (by rfl)]
        have e5 : vals 5 = .bool true := hd ⟨5, .data⟩ (by simp) rfl
        have e9 : vals 9 = .bool s := hd ⟨9, .data⟩ (by simp) rfl
        simp only [e5, e9] at hK
        go_simp
        exact hK _ _ (upd_same _ _ _) (Below.refl _ _)
      refine MergeG.AllSteps.cons ⟨by rfl, by intro d hd; simp at hd, fun _ _ => rfl, fun vals W hi hd K hK => ?_⟩ ?_
      · rw [if_pos (by rfl)]
        have e10 : vals 10 = .bool s := hd ⟨10, .data⟩ (by simp) rfl
        simp only [e10] at hK
        go_simp
        exact hK _ _ (upd_same _ _ _) (Below.refl _ _)
      refine MergeG.AllSteps.cons ⟨by rfl, by intro d hd; simp at hd, fun _ _ => rfl, fun vals W hi hd K hK => ?_⟩ ?_
      · have e11 : vals 11 = .bool s := hd ⟨11, .guard⟩ (by simp) rfl
        by_cases hg : s = true
        · have e11' : vals 11 = .bool true := by rw [e11, hg]
          rw [if_pos (by simp [Region.wanted, yielded, e11'])]
          simp only [e11'] at hK
          go_simp
          exact hK _ _ (fun _ => upd_same _ _ _) (Below.refl _ _)
        · have hgf : s = false := Bool.eq_false_iff.2 hg
          have e11' : vals 11 = .bool false := by rw [e11, hgf]
          rw [if_neg (by simp [Region.wanted, yielded, e11'])]
          exact hK undef _ (fun hh => absurd hh hg) (Below.refl _ _)
      refine MergeG.AllSteps.cons ⟨by rfl, by intro d hd; simp at hd, fun _ _ => rfl, fun vals W hi hd K hK => ?_⟩ ?_
      · have e11 : vals 11 = .bool s := hd ⟨11, .guard⟩ (by simp) rfl
        by_cases hg : s = true
        · have e11' : vals 11 = .bool true := by rw [e11, hg]
          rw [if_pos (by simp [Region.wanted, yielded, e11'])]
          have e12 : vals 12 = .pointer (some ⟨w.heap.size, 2, none⟩) := hd ⟨12, .data⟩ (by simp) rfl hg
          have kk : W.cell? ⟨w.heap.size, 2, none⟩ = some (.slice x.ad x.is.length x.cap) := (block_cell (i := 2) hi.2).trans rfl
          simp only [e11', e12] at hK
          go_simp
          exact hK _ _ (fun _ => upd_same _ _ _) (Below.refl _ _)
        · have hgf : s = false := Bool.eq_false_iff.2 hg
          have e11' : vals 11 = .bool false := by rw [e11, hgf]
          rw [if_neg (by simp [Region.wanted, yielded, e11'])]
          exact hK undef _ (fun hh => absurd hh hg) (Below.refl _ _)
      refine MergeG.AllSteps.cons ⟨by rfl, by intro d hd; simp at hd, fun _ _ => rfl, fun vals W hi hd K hK => ?_⟩ ?_
      · have e11 : vals 11 = .bool s := hd ⟨11, .guard⟩ (by simp) rfl
        by_cases hg : s = true
        · have e11' : vals 11 = .bool true := by rw [e11, hg]
          rw [if_pos (by simp [Region.wanted, yielded, e11'])]
          have e13 : vals 13 = .slice x.ad x.is.length x.cap := hd ⟨13, .data⟩ (by simp) rfl hg
          have HCC := Lib.hid (HS2.out W hi.1)
          simp only [e11', e13] at hK
          go_simp
          refine HCC.out.mono ?_
          rintro e wn ⟨rfl, rfl⟩
          exact hK _ _ (fun _ => upd_same _ _ _) (Below.refl _ _)
        · have hgf : s = false := Bool.eq_false_iff.2 hg
          have e11' : vals 11 = .bool false := by rw [e11, hgf]
          rw [if_neg (by simp [Region.wanted, yielded, e11'])]
          exact hK undef _ (fun hh => absurd hh hg) (Below.refl _ _)
      refine MergeG.AllSteps.cons ⟨by rfl, by intro d hd; simp at hd, fun _ _ => rfl, fun vals W hi hd K hK => ?_⟩ ?_
      · rw [if_pos (by rfl)]
        have e11 : vals 11 = .bool s := hd ⟨11, .data⟩ (by simp) rfl
        have e14 := hd ⟨14, .data⟩ (by simp) rfl
        cases s with
        | false =>
          simp only [e11] at hK
          go_simp
          exact hK _ _ (upd_same _ _ _) (Below.refl _ _)
        | true =>
          have e14' : vals 14 = .bool t := e14 rfl
          simp only [e11, e14'] at hK
          go_simp
          exact hK _ _ (upd_same _ _ _) (Below.refl _ _)
      refine MergeG.AllSteps.cons ⟨by rfl, by intro d hd; simp at hd, fun _ _ => rfl, fun vals W hi hd K hK => ?_⟩ ?_
      · rw [if_pos (by rfl)]
        have e15 : vals 15 = .bool (s && t) := hd ⟨15, .data⟩ (by simp) rfl
        simp only [e15] at hK
        go_simp
        exact hK _ _ (upd_same _ _ _) (Below.refl _ _)
      refine MergeG.AllSteps.cons ⟨by rfl, by intro d hd; simp at hd, fun _ _ => rfl, fun vals W hi hd K hK => ?_⟩ ?_
      · have e16 : vals 16 = .bool (s && t) := hd ⟨16, .guard⟩ (by simp) rfl
        by_cases hg : (s && t) = true
        · have e16' : vals 16 = .bool true := by rw [e16, hg]
          rw [if_pos (by simp [Region.wanted, yielded, e16'])]
          have kk : W.cell? ⟨PP, 0, none⟩ = some (.func (.func 47) #[] #[]) := (hi.1.cell (p := ⟨PP, 0, none⟩) hpl).trans HPP.out
          simp only [e16'] at hK
          go_simp
          exact hK _ _ (fun _ => upd_same _ _ _) (Below.refl _ _)
        · have hgf : (s && t) = false := Bool.eq_false_iff.2 hg
          have e16' : vals 16 = .bool false := by rw [e16, hgf]
          rw [if_neg (by simp [Region.wanted, yielded, e16'])]
          exact hK undef _ (fun hh => absurd hh hg) (Below.refl _ _)
      refine MergeG.AllSteps.cons ⟨by rfl, by intro d hd; simp at hd, fun _ _ => rfl, fun vals W hi hd K hK => ?_⟩ ?_
      · have e16 : vals 16 = .bool (s && t) := hd ⟨16, .guard⟩ (by simp) rfl
        by_cases hg : (s && t) = true
        · have e16' : vals 16 = .bool true := by rw [e16, hg]
          rw [if_pos (by simp [Region.wanted, yielded, e16'])]
          have kk0 : W.cell? ⟨w.heap.size, 0, none⟩ = some (.int .i32 x.a) := (block_cell (i := 0) hi.2).trans rfl
          have kk1 : W.cell? ⟨w.heap.size, 1, none⟩ = some (.int .i32 x.b) := (block_cell (i := 1) hi.2).trans rfl
          have kk2 : W.cell? ⟨w.heap.size, 2, none⟩ = some (.slice x.ad x.is.length x.cap) := (block_cell (i := 2) hi.2).trans rfl
          simp only [e16'] at hK
          go_simp
          exact hK _ _ (fun _ => upd_same _ _ _) (Below.refl _ _)
        · have hgf : (s && t) = false := Bool.eq_false_iff.2 hg
          have e16' : vals 16 = .bool false := by rw [e16, hgf]
          rw [if_neg (by simp [Region.wanted, yielded, e16'])]
          exact hK undef _ (fun hh => absurd hh hg) (Below.refl _ _)
      refine MergeG.AllSteps.cons ⟨by rfl, by intro d hd; simp at hd, fun _ _ => rfl, fun vals W hi hd K hK => ?_⟩ ?_
      · have e16 : vals 16 = .bool (s && t) := hd ⟨16, .guard⟩ (by simp) rfl
        by_cases hg : (s && t) = true
        · have e16' : vals 16 = .bool true := by rw [e16, hg]
          rw [if_pos (by simp [Region.wanted, yielded, e16'])]
          have e18 : vals 18 = .agg #[.int .i32 x.a, .int .i32 x.b, .slice x.ad x.is.length x.cap] := hd ⟨18, .data⟩ (by simp) rfl hg
          simp only [e16', e18] at hK
          go_simp
          refine (ofChars_any x.a x.b x.ad x.is.length x.cap _).mono ?_
          rintro e wn ⟨rfl, hbn⟩
          exact hK _ _ (fun _ => upd_same _ _ _) hbn
        · have hgf : (s && t) = false := Bool.eq_false_iff.2 hg
          have e16' : vals 16 = .bool false := by rw [e16, hgf]
          rw [if_neg (by simp [Region.wanted, yielded, e16'])]
          exact hK undef _ (fun hh => absurd hh hg) (Below.refl _ _)
      refine MergeG.AllSteps.cons ⟨by rfl, by intro d hd; simp at hd, fun _ _ => rfl, fun vals W hi hd K hK => ?_⟩ ?_
      · have e16 : vals 16 = .bool (s && t) := hd ⟨16, .guard⟩ (by simp) rfl
        by_cases hg : (s && t) = true
        · have e16' : vals 16 = .bool true := by rw [e16, hg]
          rw [if_pos (by simp [Region.wanted, yielded, e16'])]
          have e17 : vals 17 = .func (.func 47) #[] #[] := hd ⟨17, .data⟩ (by simp) rfl hg
          have e19 : vals 19 = .agg #[.int .i32 x.a, .int .i32 x.b] := hd ⟨19, .data⟩ (by simp) rfl hg
          simp only [e16', e17, e19] at hK
          go_simp
          refine (HP2.out _).mono ?_
          rintro e wn ⟨rfl, hbn⟩
          exact hK _ _ (fun _ => upd_same _ _ _) hbn
        · have hgf : (s && t) = false := Bool.eq_false_iff.2 hg
          have e16' : vals 16 = .bool false := by rw [e16, hgf]
          rw [if_neg (by simp [Region.wanted, yielded, e16'])]
          exact hK undef _ (fun hh => absurd hh hg) (Below.refl _ _)
      refine MergeG.AllSteps.cons ⟨by rfl, by intro d hd; simp at hd, fun _ _ => rfl, fun vals W hi hd K hK => ?_⟩ ?_
      · rw [if_pos (by rfl)]
        have e16 : vals 16 = .bool (s && t) := hd ⟨16, .data⟩ (by simp) rfl
        have e20 := hd ⟨20, .data⟩ (by simp) rfl
        cases hst : (s && t) with
        | false =>
          rw [hst] at e16
          simp only [e16] at hK
          go_simp
          exact hK (.bool false) _ ((upd_same _ _ _).trans (by rw [hst]; rfl)) (Below.refl _ _)
        | true =>
          rw [hst] at e16
          have e20' : vals 20 = .bool h := e20 hst
          simp only [e16, e20'] at hK
          go_simp
          exact hK (.bool h) _ ((upd_same _ _ _).trans (by rw [hst]; rfl)) (Below.refl _ _)
      refine MergeG.AllSteps.cons ⟨by rfl, by intro d hd; simp at hd, fun _ _ => rfl, fun vals W hi hd K hK => ?_⟩ ?_
      · rw [if_pos (by rfl)]
        have e21 : vals 21 = .bool (s && t && h) := hd ⟨21, .data⟩ (by simp) rfl
        simp only [e21] at hK
        go_simp
        exact hK _ _ (upd_same _ _ _) (Below.refl _ _)
      exact MergeG.AllSteps.nil
    case hD =>
      intro vals W hi hv
      have e22 : vals 22 = .bool (s && t && h) := hv 22 (by simp)
      simp only [e22]
      go_wp2_with fail
      go_ret
      exact ⟨rfl, hi.1⟩
end Go.Proofs.YtgdambmineeboaaGreatDoor.Check8
