/- The walk of the statement's own helper 'same', at two lines that are the same. -/
import Derived.Test.YtleadeaahlmmiaaGreatDoorPoint
import Derived.Deep.QuietTactic
import Derived.BigQuiet
namespace Go.Proofs.YtleadeaahlmmiaaGreatDoor.Same
open Go.RowKit Go.Lib Go.Proofs.YtleadeaahlmmiaaGreatDoor.Text Go.Proofs.YtleadeaahlmmiaaGreatDoor.Runes Go.Proofs.YtleadeaahlmmiaaGreatDoor.Print Go.Proofs.YtleadeaahlmmiaaGreatDoor.RefNine Go.Proofs.YtleadeaahlmmiaaGreatDoor.RefPrint Go.Proofs.YtleadeaahlmmiaaGreatDoor.Format Go.Proofs.YtleadeaahlmmiaaGreatDoor.Tell Go.Proofs.YtleadeaahlmmiaaGreatDoor.Given

def SameRel (w : World) (s1 s2 : Value) (W : World) : Prop :=
  Below w.heap.size w W ∧ W.cell? ⟨w.heap.size, 1, none⟩ = some s1 ∧ W.cell? ⟨w.heap.size + 1, 1, none⟩ = some s2

set_option maxRecDepth 100000 in
set_option maxHeartbeats 2000000 in
theorem same_true (num : Int) (a1 a2 : Option Addr) (l : List ByteArray) (c1 c2 : Nat) (note : ByteArray) (w : World) (hl : l.length ≤ 1073741824) (h1 : Strs w a1 l) (h2 : Strs w a2 l) :
    Calls Tryz.prog 9 #[.agg #[.int .i64 num, .slice a1 l.length c1, .string note], .agg #[.int .i64 num, .slice a2 l.length c2, .string note]] w fun e w' => e = .returned (.bool true) ∧ Below w.heap.size w w' := by
  have H1 := Lib.hid h1
  have H2 := Lib.hid h2
  clear h1 h2
  go_enter Tryz.func9, Tryz.ntmps9
  go_wp2
  go_loopw [5] (fun v w' => ∃ (i : Nat), v = .int .i64 i ∧ i ≤ l.length ∧ SameRel w (.slice a1 l.length c1) (.slice a2 l.length c2) w') (fun v _ => l.length - (intOf v).toNat)
  case atStart => 
    refine ⟨0, rfl, Nat.zero_le _, ((Below.refl _ _).alloc (Nat.le_refl _) _).alloc (by simp) _, ?_, ?_⟩
    · exact (World.cell?_alloc_lt (w := w.alloc (.cells #[.int .i64 num, .slice a1 l.length c1, .string note] 24 (0, 0))) (o := _) (a := ⟨w.heap.size, 1, none⟩) (by simp)).trans (World.cell?_alloc_new w _ _ 1)
    · have h := World.cell?_alloc_new (w.alloc (.cells #[.int .i64 num, .slice a1 l.length c1, .string note] 24 (0, 0))) #[.int .i64 num, .slice a2 l.length c2, .string note] 32 1
      rw [World.size_alloc] at h
      exact h
  case round =>
    obtain ⟨i, rfl, hi, hr⟩ := hrel
    by_cases hlt : i < l.length
    · obtain ⟨x, hx⟩ : ∃ x, l[i]? = some x := ⟨_, List.getElem?_eq_getElem hlt⟩
      have hne : l ≠ [] := by rintro rfl; simp at hlt
      rcases H1.out.below hr.1 with h0 | ⟨b1, o1, rfl, _, hc1⟩
      · exact absurd h0 hne
      rcases H2.out.below hr.1 with h0 | ⟨b2, o2, rfl, _, hc2⟩
      · exact absurd h0 hne
      have k1 := hc1 i x hx
      have k2 := hc2 i x hx
      have q1 := hr.2.1
      have q2 := hr.2.2
      have hr2 : ∀ m, SameRel w (.slice (some ⟨b1, o1, none⟩) l.length c1) (.slice (some ⟨b2, o2, none⟩) l.length c2) (wr.drewN m) := fun m =>
        ⟨hr.1.trans ⟨rfl, rfl, rfl, Nat.le_refl _, fun _ _ => rfl⟩, hr.2.1, hr.2.2⟩
      have HR := Lib.hid hr2
      clear hc1 hc2 hr hr2 hx hne
      go_wp2
      go_quiet (fail)
      go_wp2
      go_roundw
      case rel => exact ⟨i + 1, by go_num, by omega, HR.out _⟩
      case measure => simp [intOf]; omega
    · obtain rfl : i = l.length := by omega
      have q1 := hr.2.1
      have q2 := hr.2.2
      have hb := hr.1
      clear hr
      go_wp2
      go_ret
      exact ⟨rfl, hb⟩
end Go.Proofs.YtleadeaahlmmiaaGreatDoor.Same
