/- The walk of posternlaw10.awake. -/
import Derived.Test.YtgdambmineeboaaGreatDoorBFlatP
import Derived.Test.YtgdambmineeboaaGreatDoorBRead
set_option linter.unusedSimpArgs false
set_option linter.unusedVariables false
namespace Go.Proofs.YtgdambmineeboaaGreatDoor.Awake
open Go.RowKit Go.Lib Go.Proofs.YtgdambmineeboaaGreatDoor.Text Go.Proofs.YtgdambmineeboaaGreatDoor.Runes Go.Proofs.YtgdambmineeboaaGreatDoor.Print Go.Proofs.YtgdambmineeboaaGreatDoor.RefNine Go.Proofs.YtgdambmineeboaaGreatDoor.RefPrint Go.Proofs.YtgdambmineeboaaGreatDoor.Format Go.Proofs.YtgdambmineeboaaGreatDoor.Tell Go.Proofs.YtgdambmineeboaaGreatDoor.Given Go.Proofs.YtgdambmineeboaaGreatDoor.Mem Go.Proofs.YtgdambmineeboaaGreatDoor.Book Go.Proofs.YtgdambmineeboaaGreatDoor.Pred Go.Proofs.YtgdambmineeboaaGreatDoor.Touch Go.Proofs.YtgdambmineeboaaGreatDoor.Flat Go.Proofs.YtgdambmineeboaaGreatDoor.FlatP Go.Proofs.YtgdambmineeboaaGreatDoor.Fine Go.Proofs.YtgdambmineeboaaGreatDoor.Lns Go.Proofs.YtgdambmineeboaaGreatDoor.Read10 Go.Proofs.YtgdambmineeboaaGreatDoor.Lines10 Go.Proofs.YtgdambmineeboaaGreatDoor.Vals10 Go.Proofs.YtgdambmineeboaaGreatDoor.Cut

def wake : ByteArray := ⟨#[118, 97, 108, 105, 100, 59, 32, 48, 48, 54, 49, 46, 46, 48, 48, 55, 65, 10, 109, 97, 112, 112, 101, 100, 59, 32, 48, 48, 52, 49, 59, 32, 48, 48, 54, 49, 10]⟩
def wakeLns : List Ln := [.st ⟨97, 122, 1⟩, .mp ⟨65, 65, [97]⟩]
def wakeB : Mem.Book := ⟨[], [⟨97, 122, 1⟩], [⟨65, 65, [97]⟩], [], [], [], [], [], [], [], []⟩
theorem wake_fold : wakeLns.foldl addLn emptyB = wakeB := rfl
theorem wake_text : wake.data.toList = wakeLns.flatMap Ln.text := by decide +kernel
theorem wake_ok : ∀ l ∈ wakeLns, LnOk l := by
 intro l hl
 simp only [wakeLns, List.mem_cons, List.not_mem_nil, or_false] at hl
 rcases hl with rfl | rfl
 ·refine ⟨?_, by decide, by decide⟩
  simp only [Sp]
  decide
 ·refine ⟨?_, ?_, by decide⟩
  ·simp only [Sp]; decide
  ·simp only [TellOk]; decide
theorem wake_small : Small wakeB := by
 refine ⟨by decide, by decide, by decide, ?_, by decide, by decide, ?_, by decide, by decide, by decide, by decide, by decide, by decide, ?_, ?_⟩
 all_goals decide
theorem wake_fine : Fine wakeB := by
 refine ⟨?_, fun i h => absurd h (Nat.not_lt_zero i)⟩
 intro q hq
 simp only [conds, List.mem_cons, List.not_mem_nil, or_false] at hq
 rcases hq with rfl | rfl | rfl | rfl | rfl | rfl | rfl | rfl | rfl | rfl | rfl
 ·exact ⟨by decide, fun i h => absurd h (Nat.not_lt_zero i)⟩
 all_goals decide +kernel
theorem wake_hit : hitC wakeB.maps 65 = [97] := by decide +kernel
set_option maxRecDepth 100000 in
set_option maxHeartbeats 4000000 in
theorem awake_any (w : World) (hQ : Quick w) : Calls Tryz.prog 4 #[] w fun e w' => e = .returned (.bool true) ∧ Below w.heap.size w w' := by
 have HRD := Lib.hid (read_any wake wakeLns w wake_ok wake_text (by decide) (by decide) hQ)
 have HFL := Lib.hid (fun A W (hL : Lies W wakeB A) => flat_any wakeB A 65 W wake_small hL (Nat.zero_le _) wake_fine (by decide) (by decide) (by rw [wake_hit]; decide))
 clear hQ
 go_enter Tryz.func4, Tryz.ntmps4
 go_wp2_with fail
 refine HRD.out.mono ?_
 rintro e w1 ⟨hre, hb1⟩
 obtain ⟨A, rfl, hL1⟩ : ∃ A, e = .returned (.tuple #[bookV wakeB A, .int .i64 0, .int .i64 0]) ∧ Lies w1 wakeB A := by
  rcases hre with ⟨_, A, rfl, h, _⟩ | ⟨h, _⟩
  ·exact ⟨A, rfl, h⟩
  ·exact absurd h (by decide)
 have HL := Lib.hid hL1
 clear hre hL1
 have HC := Lib.hid (HFL.out A _ (HL.out.below ((Below.refl _ _).alloc (Nat.le_refl _) (.cells #[.slice A.na 0 A.nc, .slice A.sa 1 A.sc, .slice A.ma 1 A.mc, .slice A.ka 0 A.kc, .slice A.da 0 A.dc, .slice A.xa 0 A.xc, .slice A.ba 0 A.bc, .slice A.ja 0 A.jc, .slice A.qa 0 A.qc, .slice A.ra 0 A.rc, .slice A.la 0 A.lc] 27 (0, 0)))))
 unfold bookV at HC ⊢
 simp only [wakeB, List.length_nil, List.length_cons] at HC ⊢
 go_wp2_with fail
 have hb2 := hb1.alloc hb1.size (.cells #[.slice A.na 0 A.nc, .slice A.sa 1 A.sc, .slice A.ma 1 A.mc, .slice A.ka 0 A.kc, .slice A.da 0 A.dc, .slice A.xa 0 A.xc, .slice A.ba 0 A.bc, .slice A.ja 0 A.jc, .slice A.qa 0 A.qc, .slice A.ra 0 A.rc, .slice A.la 0 A.lc] 27 (0, 0))
 have HB2 := Lib.hid hb2
 clear hb2
 refine HC.out.mono ?_
 rintro e w2 ⟨⟨a1, c1, x2, a3, n3, c3, x4, x5, x6, x7, x8, a9, n9, c9, rfl⟩, hb3⟩
 have hlen : (hitC [(⟨65, 65, [97]⟩ : Chr)] 65).length = 1 := by
  have := wake_hit
  simp only [wakeB] at this
  rw [this]
  rfl
 rw [hlen]
 go_wp2_with fail
 go_ret
 exact ⟨rfl, (HB2.out.trans (hb3.mono HB2.out.size)).alloc (Nat.le_trans HB2.out.size hb3.size) _⟩
end Go.Proofs.YtgdambmineeboaaGreatDoor.Awake
