/- The walk of book.take at a line of three fields that was printed. -/
import Derived.Test.YtgdambmineeboaaGreatDoorBReaders
import Derived.Test.YtgdambmineeboaaGreatDoorBTakeT
import Derived.Test.YtgdambmineeboaaGreatDoorBTakeS
import Derived.Test.YtgdambmineeboaaGreatDoorBTakeC
set_option linter.unusedSimpArgs false
set_option linter.unusedVariables false
namespace Go.Proofs.YtgdambmineeboaaGreatDoor.Take3
open Go.RowKit Go.Lib Go.Proofs.YtgdambmineeboaaGreatDoor.Text Go.Proofs.YtgdambmineeboaaGreatDoor.Runes Go.Proofs.YtgdambmineeboaaGreatDoor.Print Go.Proofs.YtgdambmineeboaaGreatDoor.RefNine Go.Proofs.YtgdambmineeboaaGreatDoor.Format Go.Proofs.YtgdambmineeboaaGreatDoor.Tell Go.Proofs.YtgdambmineeboaaGreatDoor.Given Go.Proofs.YtgdambmineeboaaGreatDoor.Mem Go.Proofs.YtgdambmineeboaaGreatDoor.Told Go.Proofs.YtgdambmineeboaaGreatDoor.Lines10 Go.Proofs.YtgdambmineeboaaGreatDoor.RSt Go.Proofs.YtgdambmineeboaaGreatDoor.Dirs Go.Proofs.YtgdambmineeboaaGreatDoor.MapK Go.Proofs.YtgdambmineeboaaGreatDoor.Kinds Go.Proofs.YtgdambmineeboaaGreatDoor.Lns Go.Proofs.YtgdambmineeboaaGreatDoor.Cut Go.Proofs.YtgdambmineeboaaGreatDoor.Range10
theorem range_any (s : ByteArray) (a b : Int) (w : World) (hs : s.data.toList = atL a b) (hsp : Sp a b) (hQ : Quick w) :
  Calls Tryz.prog 112 #[.string s] w fun e w' => e = .returned (.tuple #[.agg #[.int .i32 a, .int .i32 b], .int .i64 0]) ∧ Below w.heap.size w w' := by
 obtain ⟨h0, h1, h2⟩ := hsp
 obtain ⟨n, rfl⟩ := Int.eq_ofNat_of_zero_le h0
 obtain ⟨m, rfl⟩ := Int.eq_ofNat_of_zero_le (show 0 ≤ b by omega)
 unfold atL at hs
 by_cases h : (n : Int) = m
 ·rw [if_pos h] at hs
  have : n = m := by omega
  subst this
  exact range_one s n w hs (by omega) hQ
 ·rw [if_neg h] at hs
  exact range_two s n m w hs (by omega) (by omega) hQ
set_option maxRecDepth 100000 in
set_option maxHeartbeats 16000000 in
theorem take_any (RB MB : Nat) (W : World) (num : Int) (note : ByteArray) (ad : Option Addr) (c : Nat) (k at1 last : ByteArray) (a b : Int) (g : Nat) (caps : Array Value) (P : World → Prop)
  (hc : 3 ≤ c) (f0 : ∃ bk o, ad = some ⟨bk, o, none⟩ ∧ bk < W.heap.size ∧ W.cell? ⟨bk, o, none⟩ = some (.string k) ∧ W.cell? ⟨bk, o + 1, none⟩ = some (.string at1) ∧ W.cell? ⟨bk, o + 2, none⟩ = some (.string last))
  (hE : Entry W MB k (kindV 3 g caps)) (hat : at1.data.toList = atL a b) (hsp : Sp a b) (hQ : Quick W)
  (eg : ∀ args w, (callFunc g args).run Tryz.prog w = .ok (.enter g args) w)
  (hclo : ∀ W2, Below W.heap.size W W2 → Calls Tryz.prog g (#[.pointer (some ⟨RB, 0, none⟩), .agg #[.int .i32 a, .int .i32 b], .string last] ++ caps) W2 fun e w' => e = .returned (.int .i64 0) ∧ P w') :
  Calls Tryz.prog 39 #[.map (some MB), .pointer (some ⟨RB, 0, none⟩), .agg #[.int .i64 num, .slice ad 3 c, .string note]] W fun e w' => e = .returned (.int .i64 0) ∧ P w' := by
 obtain ⟨bk, o, rfl, hbk, c0, c1, c2⟩ := f0
 obtain ⟨es, clock, i, hm, hfind⟩ := hE
 have hA := (Below.refl W.heap.size W).alloc (Nat.le_refl _) (.cells #[.int .i64 num, .slice (some ⟨bk, o, none⟩) 3 c, .string note] 61 (0, 0))
 have HA := Lib.hid hA
 have HM : Hid ((W.alloc (.cells #[.int .i64 num, .slice (some ⟨bk, o, none⟩) 3 c, .string note] 61 (0, 0))).heap[MB]? = some (.map es clock)) := Lib.hid ((hA.block MB (Array.getElem?_eq_some_iff.1 hm).1).trans hm)
 have HFN := Lib.hid hfind
 have HX := Lib.hid (heap_alloc_new W (.cells #[.int .i64 num, .slice (some ⟨bk, o, none⟩) 3 c, .string note] 61 (0, 0)))
 have HR := Lib.hid (fun W2 (hW : Below W.heap.size W W2) => range_any at1 a b W2 hat hsp (hQ.below hW))
 have HC := Lib.hid hclo
 have hlw : W.heap.size < (W.alloc (.cells #[.int .i64 num, .slice (some ⟨bk, o, none⟩) 3 c, .string note] 61 (0, 0))).heap.size := by simp
 clear hm hfind hclo hQ hat hA
 unfold kindV at HFN
 go_enter Tryz.func39, Tryz.ntmps39
 go_wp2_with (refine wpList_look _ rfl _ _ rfl MB i es clock rfl HM.out k rfl _ HFN.out ?_)
 have HA2 := Lib.hid (HA.out.alloc HA.out.size (.cells #[.int .i64 3, .func (.func g) #[] caps] 135 (0, 0)))
 have HX2 := Lib.hid (heap_alloc_new (W.alloc (.cells #[.int .i64 num, .slice (some ⟨bk, o, none⟩) 3 c, .string note] 61 (0, 0))) (.cells #[.int .i64 3, .func (.func g) #[] caps] 135 (0, 0)))
 have HX1 := Lib.hid ((Below.heap_alloc (W.alloc (.cells #[.int .i64 num, .slice (some ⟨bk, o, none⟩) 3 c, .string note] 61 (0, 0))) (.cells #[.int .i64 3, .func (.func g) #[] caps] 135 (0, 0)) W.heap.size (by simp)).trans HX.out)
 refine (HR.out _ HA2.out).mono ?_
 rintro e w1 ⟨rfl, hb1⟩
 have hz1 := hb1.size
 simp at hz1
 have hbw := HA2.out.trans (hb1.mono HA2.out.size)
 have HX2' := HX2.out
 rw [World.size_alloc] at HX2'
 have hS := (Below.refl w1.heap.size w1).alloc (Nat.le_refl _) (.cells #[.int .i32 a, .int .i32 b] 71 (0, 0))
 have hbS := hbw.trans (hS.mono hbw.size)
 have y1 := (hS.block W.heap.size (by omega)).trans ((hb1.block W.heap.size (by simp; omega)).trans HX1.out)
 have y2 := (hS.block (W.heap.size + 1) (by omega)).trans ((hb1.block (W.heap.size + 1) (by simp)).trans HX2')
 have y3 := heap_alloc_new w1 (.cells #[.int .i32 a, .int .i32 b] 71 (0, 0))
 have z1 := (hbS.cell (p := ⟨bk, o + 1, none⟩) hbk).trans c1
 have z2 := (hbS.cell (p := ⟨bk, o + 2, none⟩) hbk).trans c2
 have HBS := Lib.hid hbS
 generalize hW3 : w1.alloc (.cells #[.int .i32 a, .int .i32 b] 71 (0, 0)) = W3 at *
 have q51 : W3.cell? ⟨W.heap.size, 1, none⟩ = some (.slice (some ⟨bk, o, none⟩) 3 c) := (block_cell (i := 1) y1).trans rfl
 have q71 : W3.cell? ⟨W.heap.size + 1, 1, none⟩ = some (.func (.func g) #[] caps) := (block_cell (i := 1) y2).trans rfl
 have q90 : W3.cell? ⟨w1.heap.size, 0, none⟩ = some (.int .i32 a) := (block_cell (i := 0) y3).trans rfl
 have q91 : W3.cell? ⟨w1.heap.size, 1, none⟩ = some (.int .i32 b) := (block_cell (i := 1) y3).trans rfl
 clear c0 c1 c2 hb1 HX2' hbw HX1 HX2 HX HM HFN HR HA HA2 y1 y2 y3 hS hbS hsp
 go_wp2_with fail
 clear hW3
 have ew : IntKind.i64.wrap 2 = 2 := by decide
 go_region_law ((go_simp; go_at_fn g; refine (HC.out _ (by first | exact HBS.out | exact HBS.out.drew)).mono ?_; rintro e w5 ⟨rfl, hp⟩; have HP := Lib.hid hp; clear hp))
 all_goals
  go_wp2_with fail
  go_ret
  exact ⟨rfl, HP.out⟩
end Go.Proofs.YtgdambmineeboaaGreatDoor.Take3
