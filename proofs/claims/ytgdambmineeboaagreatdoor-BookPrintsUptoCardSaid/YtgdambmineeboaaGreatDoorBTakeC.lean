/- The walk of a closure that takes a line: chars. -/
import Derived.Test.YtgdambmineeboaaGreatDoorSeq
import Derived.Test.YtgdambmineeboaaGreatDoorBMapK
import Derived.Laws.EntriesVeiled
import Derived.Outline
set_option linter.unusedSimpArgs false
set_option linter.unusedVariables false
namespace Go.Proofs.YtgdambmineeboaaGreatDoor.TakeC
open Go.RowKit Go.Lib Go.Proofs.YtgdambmineeboaaGreatDoor.Text Go.Proofs.YtgdambmineeboaaGreatDoor.Runes Go.Proofs.YtgdambmineeboaaGreatDoor.Print Go.Proofs.YtgdambmineeboaaGreatDoor.RefNine Go.Proofs.YtgdambmineeboaaGreatDoor.Format Go.Proofs.YtgdambmineeboaaGreatDoor.Tell Go.Proofs.YtgdambmineeboaaGreatDoor.Given Go.Proofs.YtgdambmineeboaaGreatDoor.Mem Go.Proofs.YtgdambmineeboaaGreatDoor.RSt
theorem grown_undrew {w w' : World} {row : Option Nat} (h : w.drew.grownBy w' row) : w.grownBy w' row := ⟨h.os, h.tape, h.output, h.size, h.block⟩
theorem infoV : (Tryz.prog.info? 65).map (fun i => (i.zero, i.size, i.bytes)) = some (some (.agg #[.int .i32 0, .int .i32 0, .int .i64 0]), 3, 16) := by kernel_rfl
theorem infoS : (Tryz.prog.info? 71).map (fun i => (i.zero, i.size, i.bytes)) = some (some (.agg #[.int .i32 0, .int .i32 0]), 2, 8) := by kernel_rfl
theorem infoC : (Tryz.prog.info? 68).map (fun i => (i.zero, i.size, i.bytes)) = some (some (.agg #[.int .i32 0, .int .i32 0, .slice none 0 0]), 3, 32) := by kernel_rfl
open Go.Proofs.YtgdambmineeboaaGreatDoor.Cut Go.Proofs.YtgdambmineeboaaGreatDoor.Seq
set_option maxRecDepth 100000 in
set_option maxHeartbeats 4000000 in
theorem chars1_any (i gl : Nat) (hi11 : i < 11) (hty : tyL i = 68) (hsz : szL i = 3) (RB base : Nat) (w0 : World) (ln : Nat → Nat) (cs : Nat → List Value) (rs : List Raw) (W : World) (h : RX RB base w0 ln cs rs W) (hln : ln i ≤ 1048576) (a b : Int) (is : List Int) (hil : is.length ≤ 18) (hib : is.any badRune = false) (bx : Nat) (hbx : w0.cell? ⟨bx, 0, none⟩ = some (.func (.func gl) #[] #[])) (hne : bx ≠ RB) (hz : base ≤ W.heap.size) (hQ : Quick w0) (hq : 2 ≠ RB)
    (eg : ∀ args w, (callFunc gl args).run Tryz.prog w = .ok (.enter gl args) w)
    (hgl : ∀ W', Calls Tryz.prog gl #[.pointer (some ⟨RB, 0, none⟩)] W' fun e w' => e = .returned (.pointer (some ⟨RB, i, none⟩)) ∧ W' = w') :
    Calls Tryz.prog 150 #[.pointer (some ⟨RB, 0, none⟩), .agg #[.int .i32 a, .int .i32 b], .string ⟨(tellText is).toArray⟩, .pointer (some ⟨bx, 0, none⟩)] W fun e w' => e = .returned (.int .i64 0) ∧ (∃ ad cap0, RX RB base w0 (updV ln i (ln i + 1)) (updV cs i (cs i ++ Mem.encR (Raw.mk a b ad cap0 is))) (rs ++ [Raw.mk a b ad cap0 is]) w') ∧ Kp RB base W w' := by
  obtain ⟨i0, hi, hz0, hz1, hz2⟩ := info_parts infoC
  have HGL := Lib.hid hgl
  have hltR : RB < w0.heap.size ∧ w0.heap.size ≤ base := by obtain ⟨_, hh⟩ := h; exact ⟨hh.lt, hh.bs⟩
  have hA := (Below.refl W.heap.size W).alloc (Nat.le_refl _) (.cells #[.int .i32 a, .int .i32 b] 71 (0, 0))
  have HA := Lib.hid hA
  have hspb := heap_alloc_new W (.cells #[.int .i32 a, .int .i32 b] 71 (0, 0))
  have HSP := Lib.hid hspb
  have hR0 := h.below hA
  have HR0 := Lib.hid hR0
  have hQA : Quick (W.alloc (.cells #[.int .i32 a, .int .i32 b] 71 (0, 0))) := ⟨hQ.1.elim fun m hm => ⟨m, RX.oldCell hR0 hm hq⟩, by have := hQ.2; have := hA.size; omega⟩
  have HSQ := Lib.hid (sequence_any is (W.alloc (.cells #[.int .i32 a, .int .i32 b] 71 (0, 0))) (by omega) hib hQA)
  have hsw : W.heap.size < (W.alloc (.cells #[.int .i32 a, .int .i32 b] 71 (0, 0))).heap.size := by simp
  generalize (⟨(tellText is).toArray⟩ : ByteArray) = txt at *
  clear hR0 hA hgl hQ hQA hib
  go_enter Tryz.func150, Tryz.ntmps150
  go_wp2_with fail
  refine HSQ.out.mono ?_
  rintro e WA ⟨ad, cap0, rfl, _, hbl, hro⟩
  have HBL := Lib.hid hbl
  obtain ⟨vs, hRA0⟩ := HR0.out.below hbl
  have hraw : RawOwn base WA (Raw.mk a b ad cap0 is) := own_low hro (Nat.le_trans hz (Nat.le_of_lt hsw))
  have hRA := hRA0.raw hraw
  have hsb := (hbl.block W.heap.size hsw).trans hspb
  have hbxA : WA.cell? ⟨bx, 0, none⟩ = some (.func (.func gl) #[] #[]) := RX.oldCell ⟨vs, hRA⟩ hbx hne
  have s0 : WA.cell? ⟨W.heap.size, 0, none⟩ = some (.int .i32 a) := (block_cell (i := 0) hsb).trans rfl
  have s1 : WA.cell? ⟨W.heap.size, 1, none⟩ = some (.int .i32 b) := (block_cell (i := 1) hsb).trans rfl
  have r1 : WA.cell? ⟨RB, i, none⟩ = some (vs i) := hRA.cell hi11
  have f1 : WA.frozen? ⟨RB, i, none⟩ = false := hRA.free
  have HOW := Lib.hid (show WA.ownsRow base 68 3 (vs i) (ln i) (cs i) from by have := hRA.own i hi11; rwa [hty, hsz] at this)
  have hlt := hRA.lt
  have hbs := hRA.bs
  have hzA : base ≤ WA.heap.size := by have := hbl.size; omega
  have hspA : W.heap.size < WA.heap.size := by have := hbl.size; omega
  have hwl := Lib.hid hil
  have hownA : (WA.alloc (.cells #[.int .i32 a, .int .i32 b, .slice ad is.length cap0] 68 (0, 0))).ownsRow base 68 3 (vs i) (ln i) (cs i) := HOW.out.alloc _
  have hnews : ∀ (j : Nat) u, ([.int .i32 a, .int .i32 b, .slice ad is.length cap0] : List Value)[j]? = some u → (WA.alloc (.cells #[.int .i32 a, .int .i32 b, .slice ad is.length cap0] 68 (0, 0))).cell? ((⟨WA.heap.size, 0, none⟩ : Addr).add j) = some u := World.news_of_block (heap_alloc_new WA (.cells #[.int .i32 a, .int .i32 b, .slice ad is.length cap0] 68 (0, 0)))
  have HON := Lib.hid hownA
  have HNW := Lib.hid hnews
  have hA2 := (Below.refl WA.heap.size WA).alloc (Nat.le_refl _) (.cells #[.int .i32 a, .int .i32 b, .slice ad is.length cap0] 68 (0, 0))
  have HA2 := Lib.hid hA2
  have HRA2 := Lib.hid (hRA.below hA2)
  have hge : ∀ k, (vs i).ownBlock = some k → base ≤ k ∧ k < WA.heap.size := fun k hk => HOW.out.lt k hk
  have hneRB : some RB ≠ (vs i).ownBlock := fun e => by have := hge RB e.symm; omega
  have r1A : (WA.alloc (.cells #[.int .i32 a, .int .i32 b, .slice ad is.length cap0] 68 (0, 0))).cell? ⟨RB, i, none⟩ = some (vs i) := HRA2.out.cell hi11
  have HGE := Lib.hid hge
  have HNE := Lib.hid hneRB
  generalize hisn : is.length = isn at *
  have HIS := Lib.hid hisn
  clear hisn
  clear hRA hRA0 hbx hspb hownA hnews hge hneRB hA2 hbl hsb hro hraw HSQ HR0
  go_wp2_with fail
  refine (HGL.out _).mono ?_
  rintro e w1 ⟨rfl, rfl⟩
  go_wp2_with fail
  go_region_law ((refine step_append_lies _ (by rfl) _ _ _ (by rfl) base 68 i0 _ 3 32 Tryz.underlying24 hi hz0 hz1 hz2 rfl (by omega) (vs i) (ln i) (cs i) (by rfl) (by exact HON.out) ⟨WA.heap.size, 0, none⟩ 1 1 [.int .i32 a, .int .i32 b, .slice ad isn cap0] (by rfl) (by simp) (by exact HNW.out) (by simp [Value.oneCell']) (by omega) (by unfold maxLen; omega) (by omega) (by simp; omega) (WA.heap.size + 1) (by simp) ?_
                  intro g cap w6 hown6 hgrow hat hlt6
                  have hblk := grown_block hgrow (show _ = _ from HRA2.out.bx) HNE.out
                  have f6 := block_free (i := i) hblk
                  have s6 : w6.cell? ⟨RB, i, none⟩ = some (vs i) := (block_cell (i := i) hblk).trans (boxA_at vs hi11)
                  have hgr2 : (WA.alloc (.cells #[.int .i32 a, .int .i32 b, .slice ad isn cap0] 68 (0, 0))).grownBy w6 (vs i).ownBlock := by first | exact hgrow | exact grown_undrew hgrow
                  have HFIN := Lib.hid (HRA2.out.push (i := i) hi11 (by rw [hty, hsz]; exact hown6) hgr2 (by simpa using hat))
                  have HKP := Lib.hid (kp_push (RB := RB) (base := base) hgr2 (fun k hk => (HGE.out k hk).1) i (.slice (some ⟨g, 0, none⟩) (ln i + 1) cap))
                  clear hblk hown6 hgrow hgr2 hat hlt6))
  all_goals
    go_wp2_with fail
    go_ret
    refine ⟨rfl, ⟨ad, cap0, ?_⟩, ?_⟩
    · have e1 : Mem.encR (Raw.mk a b ad cap0 is) = [.int .i32 a, .int .i32 b, .slice ad isn cap0] := by unfold Mem.encR; rw [HIS.out]
      rw [e1]
      exact ⟨_, HFIN.out⟩
    exact (Kp.of_below HA.out).trans ((Kp.of_below HBL.out).trans ((Kp.of_below HA2.out).trans HKP.out))
end Go.Proofs.YtgdambmineeboaaGreatDoor.TakeC
