/- The walks of the program's touches, scalars and what they call. -/
import Derived.Test.YtgdambmineeboaaGreatDoorBPred
import Derived.Outline
set_option linter.unusedSimpArgs false
set_option linter.unusedVariables false
namespace Go.Proofs.YtgdambmineeboaaGreatDoor.Touch
open Go.RowKit Go.Lib Go.Proofs.YtgdambmineeboaaGreatDoor.Text Go.Proofs.YtgdambmineeboaaGreatDoor.Runes Go.Proofs.YtgdambmineeboaaGreatDoor.Print Go.Proofs.YtgdambmineeboaaGreatDoor.RefNine Go.Proofs.YtgdambmineeboaaGreatDoor.RefPrint Go.Proofs.YtgdambmineeboaaGreatDoor.Format Go.Proofs.YtgdambmineeboaaGreatDoor.Tell Go.Proofs.YtgdambmineeboaaGreatDoor.Given Go.Proofs.YtgdambmineeboaaGreatDoor.Mem Go.Proofs.YtgdambmineeboaaGreatDoor.Pred

def idxG {α : Type} (p : α → Bool) (l : List α) : Int := if l.any p then (l.findIdx p : Int) else -1
theorem idxG_at {α : Type} (p : α → Bool) (l : List α) (k : Nat) (x : α) (h : l[k]? = some x) (hx : p x = true) (hq : ∀ (j : Nat) y, l[j]? = some y → j < k → p y = false) : idxG p l = k := by
  obtain ⟨hk, rfl⟩ := List.getElem?_eq_some_iff.1 h
  have h1 : l.any p = true := List.any_eq_true.2 ⟨l[k], List.getElem_mem hk, hx⟩
  unfold idxG
  rw [if_pos h1]
  congr 1
  rw [List.findIdx_eq hk]
  exact ⟨hx, fun j hj => by rw [hq j l[j] (List.getElem?_eq_getElem (by omega)) hj]⟩
theorem idxG_none {α : Type} (p : α → Bool) (l : List α) (hq : ∀ (j : Nat) y, l[j]? = some y → j < l.length → p y = false) : idxG p l = -1 := by
  unfold idxG
  rw [if_neg]
  intro h
  obtain ⟨x, hx, hp⟩ := List.any_eq_true.1 h
  obtain ⟨j, hj, rfl⟩ := List.getElem_of_mem hx
  rw [hq j _ (List.getElem?_eq_getElem hj) hj] at hp
  cases hp
theorem idxG_any {α : Type} (p : α → Bool) (l : List α) : decide (0 ≤ idxG p l) = l.any p := by
  unfold idxG
  split
  · rename_i h; rw [h]; simp
  · rename_i h; rw [Bool.eq_false_iff.2 h]; simp

set_option maxRecDepth 100000 in
set_option maxHeartbeats 1000000 in
theorem indexSpn_any (g : Nat) (p : Spn → Bool) (cp : Addr) (a : Option Addr) (l : List Spn) (c : Nat) (w : World) (hl : l.length ≤ 1048576) (hS : Spns w a l)
    (eg : ∀ args w, (callFunc g args).run Tryz.prog w = .ok (.enter g args) w)
    (hg : ∀ W x, Below w.heap.size w W → x ∈ l → Calls Tryz.prog g #[.agg #[.int .i32 x.a, .int .i32 x.b], .pointer (some cp)] W fun e w' => e = .returned (.bool (p x)) ∧ Below W.heap.size W w') :
    Calls Tryz.prog 113 #[.slice a l.length c, .func (.func g) #[] #[.pointer (some cp)]] w fun e w' => e = .returned (.int .i64 (idxG p l)) ∧ Below w.heap.size w w' := by
  have HG := Lib.hid hg
  have HS := Lib.hid hS
  clear hg hS
  go_enter Tryz.func113, Tryz.ntmps113
  go_wp2
  go_loopw [8] (fun v w' => ∃ k : Nat, v = .int .i64 k ∧ k ≤ l.length ∧ Below w.heap.size w w' ∧ Hid (∀ (j : Nat) x, l[j]? = some x → j < k → p x = false)) (fun v _ => l.length - (intOf v).toNat)
  case atStart => exact ⟨0, rfl, Nat.zero_le _, Below.refl _ _, Lib.hid (fun j x _ h => by omega)⟩
  case round =>
    obtain ⟨k, rfl, hk, hb, hq⟩ := hrel
    by_cases hlt : k < l.length
    · obtain ⟨x, hx⟩ : ∃ x, l[k]? = some x := ⟨_, List.getElem?_eq_getElem hlt⟩
      rcases HS.out.below hb with h0 | ⟨bk, o, rfl, hbk, hc⟩
      · exact absurd (by rw [h0]; rfl : l.length = 0) (by omega)
      obtain ⟨q0, q1⟩ := spns_at (hc k x hx)
      have hgx := HG.out wr x hb (List.mem_of_getElem? hx)
      have HX := Lib.hid hx
      clear hc hx hbk
      cases hpx : p x with
      | true =>
        rw [hpx] at hgx
        have HF := Lib.hid (idxG_at p l k x HX.out hpx hq.out)
        clear hpx
        go_wp2_with (go_at_fn g; refine hgx.mono ?_; rintro e w1 ⟨rfl, hb1⟩)
        go_ret
        exact ⟨by rw [HF.out]; rfl, hb.trans (hb1.mono hb.size)⟩
      | false =>
        rw [hpx] at hgx
        have HF : Hid (∀ (j : Nat) y, l[j]? = some y → j < k + 1 → p y = false) := Lib.hid fun j y hy hj => by
          rcases Nat.lt_or_ge j k with h | h
          · exact hq.out j y hy h
          · obtain rfl : j = k := by omega
            have := HX.out
            rw [hy] at this
            cases this
            exact hpx
        clear hpx
        go_wp2_with (go_at_fn g; refine hgx.mono ?_; rintro e w1 ⟨rfl, hb1⟩)
        go_roundw
        case rel => exact ⟨k + 1, by go_num, by omega, hb.trans (hb1.mono hb.size), HF⟩
        case measure => simp [intOf]; omega
    · have HF := Lib.hid (idxG_none p l fun j y hy hj => hq.out j y hy (by omega))
      go_wp2
      go_ret
      exact ⟨by rw [HF.out]; rfl, hb⟩

set_option maxRecDepth 100000 in
theorem containsSpn_any (g : Nat) (p : Spn → Bool) (cp : Addr) (a : Option Addr) (l : List Spn) (c : Nat) (w : World) (hl : l.length ≤ 1048576) (hS : Spns w a l)
    (eg : ∀ args w, (callFunc g args).run Tryz.prog w = .ok (.enter g args) w)
    (hg : ∀ W x, Below w.heap.size w W → x ∈ l → Calls Tryz.prog g #[.agg #[.int .i32 x.a, .int .i32 x.b], .pointer (some cp)] W fun e w' => e = .returned (.bool (p x)) ∧ Below W.heap.size W w') :
    Calls Tryz.prog 44 #[.slice a l.length c, .func (.func g) #[] #[.pointer (some cp)]] w fun e w' => e = .returned (.bool (l.any p)) ∧ Below w.heap.size w w' := by
  have HC := Lib.hid (indexSpn_any g p cp a l c w hl hS eg hg)
  clear hg hS
  rw [← idxG_any]
  go_enter Tryz.func44, Tryz.ntmps44
  go_wp2_with (go_at_call 113; refine HC.out.mono ?_; rintro e w1 ⟨rfl, hb1⟩)
  go_ret
  exact ⟨rfl, hb1⟩

set_option maxRecDepth 100000 in
set_option maxHeartbeats 1000000 in
theorem indexRune_any (g : Nat) (p : Int → Bool) (a : Option Addr) (l : List Int) (c : Nat) (w : World) (hl : l.length ≤ 1048576) (hS : Rs w a l)
    (eg : ∀ args w, (callFunc g args).run Tryz.prog w = .ok (.enter g args) w)
    (hg : ∀ x, x ∈ l → Calls Tryz.prog g #[.int .i32 x] w fun e w' => e = .returned (.bool (p x)) ∧ w = w') :
    Calls Tryz.prog 159 #[.slice a l.length c, .func (.func g) #[] #[]] w fun e w' => e = .returned (.int .i64 (idxG p l)) ∧ w = w' := by
  have HG := Lib.hid hg
  have HS := Lib.hid hS
  clear hg hS
  go_enter Tryz.func159, Tryz.ntmps159
  go_wp2
  go_loopw [8] (fun v w' => ∃ k : Nat, v = .int .i64 k ∧ k ≤ l.length ∧ w = w' ∧ Hid (∀ (j : Nat) x, l[j]? = some x → j < k → p x = false)) (fun v _ => l.length - (intOf v).toNat)
  case atStart => exact ⟨0, rfl, Nat.zero_le _, rfl, Lib.hid (fun j x _ h => by omega)⟩
  case round =>
    obtain ⟨k, rfl, hk, rfl, hq⟩ := hrel
    by_cases hlt : k < l.length
    · obtain ⟨x, hx⟩ : ∃ x, l[k]? = some x := ⟨_, List.getElem?_eq_getElem hlt⟩
      rcases HS.out with h0 | ⟨bk, o, rfl, hbk, hc⟩
      · exact absurd (by rw [h0]; rfl : l.length = 0) (by omega)
      have hcell := hc k x hx
      have hgx := HG.out x (List.mem_of_getElem? hx)
      have HX := Lib.hid hx
      clear hc hx hbk
      cases hpx : p x with
      | true =>
        rw [hpx] at hgx
        have HF := Lib.hid (idxG_at p l k x HX.out hpx hq.out)
        clear hpx
        go_wp2_with (go_at_fn g; refine hgx.mono ?_; rintro e w1 ⟨rfl, rfl⟩)
        go_ret
        exact ⟨by rw [HF.out]; rfl, rfl⟩
      | false =>
        rw [hpx] at hgx
        have HF : Hid (∀ (j : Nat) y, l[j]? = some y → j < k + 1 → p y = false) := Lib.hid fun j y hy hj => by
          rcases Nat.lt_or_ge j k with h | h
          · exact hq.out j y hy h
          · obtain rfl : j = k := by omega
            have := HX.out
            rw [hy] at this
            cases this
            exact hpx
        clear hpx
        go_wp2_with (go_at_fn g; refine hgx.mono ?_; rintro e w1 ⟨rfl, rfl⟩)
        go_roundw
        case rel => exact ⟨k + 1, by go_num, by omega, trivial, HF⟩
        case measure => simp [intOf]; omega
    · have HF := Lib.hid (idxG_none p l fun j y hy hj => hq.out j y hy (by omega))
      go_wp2
      go_ret
      exact ⟨by rw [HF.out]; rfl, rfl⟩

set_option maxRecDepth 100000 in
theorem containsRune_any (g : Nat) (p : Int → Bool) (a : Option Addr) (l : List Int) (c : Nat) (w : World) (hl : l.length ≤ 1048576) (hS : Rs w a l)
    (eg : ∀ args w, (callFunc g args).run Tryz.prog w = .ok (.enter g args) w)
    (hg : ∀ x, x ∈ l → Calls Tryz.prog g #[.int .i32 x] w fun e w' => e = .returned (.bool (p x)) ∧ w = w') :
    Calls Tryz.prog 116 #[.slice a l.length c, .func (.func g) #[] #[]] w fun e w' => e = .returned (.bool (l.any p)) ∧ w = w' := by
  have HC := Lib.hid (indexRune_any g p a l c w hl hS eg hg)
  clear hg hS
  rw [← idxG_any]
  go_enter Tryz.func116, Tryz.ntmps116
  go_wp2_with (go_at_call 159; refine HC.out.mono ?_; rintro e w1 ⟨rfl, rfl⟩)
  go_ret
  exact ⟨rfl, rfl⟩

theorem cell_lt {w : World} {a : Addr} {v : Value} (h : w.cell? a = some v) : a.block < w.heap.size := World.block_lt_of_cell? _ _ h
def hangs : List Spn := [⟨4352, 4370⟩, ⟨4449, 4469⟩, ⟨4520, 4546⟩, ⟨44032, 55203⟩]
set_option maxRecDepth 100000 in
theorem hangulB_any (w : World) : Calls Tryz.prog 114 #[] w fun e w' => ∃ a, e = .returned (.slice a 4 4) ∧ Spns w' a hangs ∧ Below w.heap.size w w' := by
  go_enter Tryz.func114, Tryz.ntmps114
  go_wp2
  go_ret
  refine ⟨some ⟨w.heap.size, 0, none⟩, rfl, ?_, (Below.refl _ _).alloc (Nat.le_refl _) _⟩
  refine .inr ⟨w.heap.size, 0, rfl, by simp, fun j x hx i v hv => ?_⟩
  rw [World.cell?_alloc_new, Nat.zero_add]
  match j, hx with
  | 0, hx | 1, hx | 2, hx | 3, hx =>
    cases hx
    match i, hv with
    | 0, hv => cases hv; rfl
    | 1, hv => cases hv; rfl
  | j + 4, hx => simp [hangs] at hx

def meetS (s h : Spn) : Bool := decide (s.a ≤ h.b) && decide (h.a ≤ s.b)
set_option maxRecDepth 100000 in
theorem touches1_any (s h : Spn) (B : Nat) (w : World) (hb : w.cell? ⟨B, 0, none⟩ = some (.int .i32 s.a)) (hb1 : w.cell? ⟨B, 1, none⟩ = some (.int .i32 s.b)) :
    Calls Tryz.prog 115 #[.agg #[.int .i32 h.a, .int .i32 h.b], .pointer (some ⟨B, 0, none⟩)] w fun e w' => e = .returned (.bool (meetS s h)) ∧ Below w.heap.size w w' := by
  have hlt : B < w.heap.size := cell_lt hb
  have k0 : (w.alloc (.cells #[.int .i32 h.a, .int .i32 h.b] 71 (0, 0))).cell? ⟨B, 0, none⟩ = some (.int .i32 s.a) := (World.cell?_alloc_lt _ _ _ hlt).trans hb
  have k1 : (w.alloc (.cells #[.int .i32 h.a, .int .i32 h.b] 71 (0, 0))).cell? ⟨B, 1, none⟩ = some (.int .i32 s.b) := (World.cell?_alloc_lt _ _ _ hlt).trans hb1
  have HB := Lib.hid ((Below.refl w.heap.size w).alloc (Nat.le_refl _) (.cells #[.int .i32 h.a, .int .i32 h.b] 71 (0, 0)))
  go_enter Tryz.func115, Tryz.ntmps115
  go_wp2
  all_goals
    go_ret
    exact ⟨ret_bool (by unfold meetS; simp; omega), HB.out⟩

theorem meet_touch (s : Spn) : hangs.any (meetS s) = touchB s.a s.b := by
  unfold hangs meetS touchB
  simp only [List.any_cons, List.any_nil, Bool.or_false]
  rw [Bool.or_assoc, Bool.or_assoc]

set_option maxRecDepth 100000 in
theorem touchesP_any (s : Spn) (w : World) : Calls Tryz.prog 48 #[.agg #[.int .i32 s.a, .int .i32 s.b]] w fun e w' => e = .returned (.bool (touchB s.a s.b)) ∧ Below w.heap.size w w' := by
  have HB0 := Lib.hid ((Below.refl w.heap.size w).alloc (Nat.le_refl _) (.cells #[.int .i32 s.a, .int .i32 s.b] 71 (0, 0)))
  have hbx := Lib.hid (heap_alloc_new w (.cells #[.int .i32 s.a, .int .i32 s.b] 71 (0, 0)))
  have HM := Lib.hid (meet_touch s)
  go_enter Tryz.func48, Tryz.ntmps48
  go_wp2_with fail
  refine (hangulB_any _).mono ?_
  rintro e w1 ⟨a, rfl, hs, hb1⟩
  have hx1 := Lib.hid ((hb1.block _ (by simp)).trans hbx.out)
  have hb : Below w.heap.size w w1 := HB0.out.trans (hb1.mono HB0.out.size)
  have hlt : w.heap.size < w1.heap.size := block_lt hx1.out
  have HC := Lib.hid (containsSpn_any 115 (meetS s) ⟨w.heap.size, 0, none⟩ a hangs 4 w1 (by decide) hs (enters_of Tryz.func115 (by kernel_rfl) rfl)
    (fun W x hW _ => touches1_any s x w.heap.size W ((block_cell (i := 0) ((hW.block _ hlt).trans hx1.out)).trans rfl) ((block_cell (i := 1) ((hW.block _ hlt).trans hx1.out)).trans rfl)))
  rw [show hangs.length = 4 from rfl] at HC
  clear hs
  go_wp2_with fail
  refine HC.out.mono ?_
  rintro e w2 ⟨rfl, hb2⟩
  go_wp2_with fail
  go_ret
  exact ⟨by rw [← HM.out]; rfl, hb.trans (hb2.mono hb.size)⟩

set_option maxRecDepth 100000 in
theorem scalars1_any (p : Int) (w : World) : Calls Tryz.prog 117 #[.int .i32 p] w fun e w' => e = .returned (.bool (!scalarB p)) ∧ w = w' := by
  go_enter Tryz.func117, Tryz.ntmps117
  go_wp2
  all_goals
    go_ret
    exact ⟨ret_bool (by unfold scalarB; simp; omega), rfl⟩

def scalarsB (l : List Int) (least most : Int) : Bool := decide (least ≤ (l.length : Int)) && decide ((l.length : Int) ≤ most) && !(l.any fun p => !scalarB p)
set_option maxRecDepth 100000 in
set_option maxHeartbeats 1000000 in
theorem scalars_any (a : Option Addr) (l : List Int) (c : Nat) (least most : Int) (w : World) (hl : l.length ≤ 1048576) (hS : Rs w a l) :
    Calls Tryz.prog 50 #[.slice a l.length c, .int .i64 least, .int .i64 most] w fun e w' => e = .returned (.bool (scalarsB l least most)) ∧ w = w' := by
  have HC := Lib.hid (containsRune_any 117 (fun p => !scalarB p) a l c w hl hS (enters_of Tryz.func117 (by kernel_rfl) rfl) (fun x _ => scalars1_any x w))
  clear hS
  by_cases h1 : least ≤ (l.length : Int)
  · by_cases h2 : (l.length : Int) ≤ most
    · have HF : Hid (scalarsB l least most = !(l.any fun p => !scalarB p)) := Lib.hid (by unfold scalarsB; rw [decide_eq_true h1, decide_eq_true h2]; rfl)
      generalize (l.any fun p => !scalarB p) = b at *
      go_enter Tryz.func50, Tryz.ntmps50
      go_wp2_with (go_at_call 116; refine HC.out.mono ?_; rintro e w1 ⟨rfl, rfl⟩)
      go_ret
      exact ⟨by rw [HF.out]; rfl, rfl⟩
    · have HF : Hid (scalarsB l least most = false) := Lib.hid (by unfold scalarsB; rw [decide_eq_false h2]; simp)
      go_enter Tryz.func50, Tryz.ntmps50
      go_wp2_with fail
      go_ret
      exact ⟨by rw [HF.out]; rfl, rfl⟩
  · have HF : Hid (scalarsB l least most = false) := Lib.hid (by unfold scalarsB; rw [decide_eq_false h1]; simp)
    go_enter Tryz.func50, Tryz.ntmps50
    go_wp2_with fail
    go_ret
    exact ⟨by rw [HF.out]; rfl, rfl⟩
end Go.Proofs.YtgdambmineeboaaGreatDoor.Touch
