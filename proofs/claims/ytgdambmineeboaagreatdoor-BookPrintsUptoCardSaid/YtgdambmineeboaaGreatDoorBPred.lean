/- The walks of the reference's predicates on code points and spans. -/
import Derived.Test.YtgdambmineeboaaGreatDoorBOf
set_option linter.unusedSimpArgs false
set_option linter.unusedVariables false
namespace Go.Proofs.YtgdambmineeboaaGreatDoor.Pred
open Go.RowKit Go.Lib Go.Proofs.YtgdambmineeboaaGreatDoor.Text Go.Proofs.YtgdambmineeboaaGreatDoor.Mem

def scalarB (p : Int) : Bool := (decide (0 ≤ p) && decide (p < 55296)) || (decide (57343 < p) && decide (p ≤ 1114111))
def hangulB (p : Int) : Bool := (decide (4352 ≤ p) && decide (p ≤ 4370)) || (decide (4449 ≤ p) && decide (p ≤ 4469)) || (decide (4520 ≤ p) && decide (p ≤ 4546)) || (decide (44032 ≤ p) && decide (p ≤ 55203))
def touchB (a b : Int) : Bool := (decide (a ≤ 4370) && decide (4352 ≤ b)) || (decide (a ≤ 4469) && decide (4449 ≤ b)) || (decide (a ≤ 4546) && decide (4520 ≤ b)) || (decide (a ≤ 55203) && decide (44032 ≤ b))

theorem ret_bool {a b : Bool} (h : a = true ↔ b = true) : Ending.returned (.bool a) = .returned (.bool b) := by
  rw [Bool.eq_iff_iff.2 h]

theorem scalar_any (p : Int) (w : World) : Calls Tryz.prog 140 #[.int .i32 p] w fun e w' => e = .returned (.bool (scalarB p)) ∧ w = w' := by
  go_enter Tryz.func140, Tryz.ntmps140
  go_wp2
  all_goals
    go_ret
    exact ⟨ret_bool (by unfold scalarB; simp; omega), rfl⟩
set_option maxHeartbeats 2000000 in
theorem hangul_any (p : Int) (w : World) : Calls Tryz.prog 143 #[.int .i32 p] w fun e w' => e = .returned (.bool (hangulB p)) ∧ w = w' := by
  go_enter Tryz.func143, Tryz.ntmps143
  go_wp2
  all_goals
    go_ret
    exact ⟨ret_bool (by unfold hangulB; simp; omega), rfl⟩
set_option maxHeartbeats 2000000 in
theorem touches_any (a b : Int) (w : World) : Calls Tryz.prog 82 #[.int .i32 a, .int .i32 b] w fun e w' => e = .returned (.bool (touchB a b)) ∧ w = w' := by
  go_enter Tryz.func82, Tryz.ntmps82
  go_wp2
  all_goals
    go_ret
    exact ⟨ret_bool (by unfold touchB; simp; omega), rfl⟩
end Go.Proofs.YtgdambmineeboaaGreatDoor.Pred
