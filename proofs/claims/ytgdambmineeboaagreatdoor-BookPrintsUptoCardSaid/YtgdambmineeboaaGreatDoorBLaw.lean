/- The walk of the statement BookPrints itself. -/
import Derived.Test.YtgdambmineeboaaGreatDoorBAwake
import Derived.Test.YtgdambmineeboaaGreatDoorBRefText
import Derived.Test.YtgdambmineeboaaGreatDoorBSame
set_option linter.unusedSimpArgs false
set_option linter.unusedVariables false
namespace Go.Proofs.YtgdambmineeboaaGreatDoor.Law10
open Go.RowKit Go.Lib Go.Proofs.YtgdambmineeboaaGreatDoor.Text Go.Proofs.YtgdambmineeboaaGreatDoor.Runes Go.Proofs.YtgdambmineeboaaGreatDoor.Print Go.Proofs.YtgdambmineeboaaGreatDoor.RefNine Go.Proofs.YtgdambmineeboaaGreatDoor.RefPrint Go.Proofs.YtgdambmineeboaaGreatDoor.Format Go.Proofs.YtgdambmineeboaaGreatDoor.Tell Go.Proofs.YtgdambmineeboaaGreatDoor.Given Go.Proofs.YtgdambmineeboaaGreatDoor.Mem Go.Proofs.YtgdambmineeboaaGreatDoor.Book Go.Proofs.YtgdambmineeboaaGreatDoor.Pred Go.Proofs.YtgdambmineeboaaGreatDoor.Fine Go.Proofs.YtgdambmineeboaaGreatDoor.Lns Go.Proofs.YtgdambmineeboaaGreatDoor.Read10 Go.Proofs.YtgdambmineeboaaGreatDoor.Lines10 Go.Proofs.YtgdambmineeboaaGreatDoor.Cut Go.Proofs.YtgdambmineeboaaGreatDoor.Apart Go.Proofs.YtgdambmineeboaaGreatDoor.CheckAll Go.Proofs.YtgdambmineeboaaGreatDoor.Awake Go.Proofs.YtgdambmineeboaaGreatDoor.Tells10 Go.Proofs.YtgdambmineeboaaGreatDoor.Long Go.Proofs.YtgdambmineeboaaGreatDoor.Same Go.Proofs.YtgdambmineeboaaGreatDoor.Told Go.Proofs.YtgdambmineeboaaGreatDoor.RefText Go.Proofs.YtgdambmineeboaaGreatDoor.PrintP Go.Proofs.YtgdambmineeboaaGreatDoor.Texts10

/-- The statement's own box; and with its twin's. -/
structure Bx (w : World) (B : Mem.Book) (A : Ads) (W : World) : Prop where
 b : Below w.heap.size w W
 x : W.heap[w.heap.size]? = some (apiBox B A)
theorem Bx.next {w W W' : World} {B : Mem.Book} {A : Ads} (h : Bx w B A W) (hb : Below W.heap.size W W') : Bx w B A W' :=
 ⟨h.b.trans (hb.mono h.b.size), (hb.block _ (block_lt h.x)).trans h.x⟩
structure Tw (w : World) (B : Mem.Book) (A A1 : Ads) (d : Nat) (W : World) : Prop where
 b : Bx w B A W
 t : W.heap[d]? = some (boxCells B A1)
 l : Lies W B A1
theorem Tw.next {w W W' : World} {B : Mem.Book} {A A1 : Ads} {d : Nat} (h : Tw w B A A1 d W) (hb : Below W.heap.size W W') : Tw w B A A1 d W' :=
 ⟨h.b.next hb, (hb.block _ (block_lt h.t)).trans h.t, h.l.below hb⟩
theorem drew_below (W : World) : Below W.heap.size W W.drew := (Below.refl _ _).drew
theorem rows_le {B : Mem.Book} (G : Lines10.Good B) : Turn.rows B ≤ 655360 := by
 have h1 := G.s.1
 have h2 := G.m.1
 have h3 := G.k.1
 have h4 := G.d.1
 have h5 := G.x.1
 have h6 := G.b.1
 have h7 := G.j.1
 have h8 := G.q.1
 have h9 := G.r.1
 have h10 := G.l.1
 unfold Turn.rows
 omega
theorem text_eq {s t : ByteArray} (h : s.data.toList = t.data.toList) : s = t := ByteArray.ext (Array.toList_inj.1 h)

set_option maxRecDepth 100000 in
set_option maxHeartbeats 16000000 in
theorem law_any (B : Mem.Book) (A : Ads) (w : World) (hs : Small B) (hL : Lies w B A) (hcn : B.names.length ≤ A.nc) (hT : Tabs w) (hN : Tens w) (hQ : Quick w) :
  Calls Tryz.prog 3 #[bookV B A] w fun e w' => e = .returned (.bool true) ∧ Below w.heap.size w w' := by
 have HS := Lib.hid hs
 have HL := Lib.hid hL
 have HCN := Lib.hid hcn
 have HT := Lib.hid hT
 have HN := Lib.hid hN
 have HQ := Lib.hid hQ
 have HB0 : Hid (Bx w B A (w.alloc (apiBox B A))) := Lib.hid ⟨(Below.refl _ _).alloc (Nat.le_refl _) _, heap_alloc_new w _⟩
 have COF := Lib.hid (fun W (h : Lies W B A) => of_any B A W hs h)
 have CSM := Lib.hid (fun (A2 A3 : Ads) W (h2 : Lies W B A2) (h3 : Lies W B A3) => same_book B A2 A3 W hs h2 h3)
 have CPR := Lib.hid (fun W (hW : Below w.heap.size w W) => printP_any B A W hs (hL.below hW) hcn (hT.below hW) (hN.below hW))
 have CRP := Lib.hid (fun (A2 : Ads) W (h : Lies W B A2) (hn : B.names.length ≤ A2.nc) (hd : B.decomp.length ≤ A2.dc) => refText_any B A2 W hs h hn hd)
 have CTU := Lib.hid (fun W (hW : Below w.heap.size w W) => Turn.inTurn_any B A W hs (hL.below hW))
 have CRW := Lib.hid (fun W => Turn.rows_any B A W hs)
 clear hs hL hcn hT hN hQ
 unfold bookV at COF CSM CPR CRP CTU CRW ⊢
 unfold apiBox at HB0
 have HB0' : Hid (Bx w B A (w.alloc (.cells #[.slice A.na B.names.length A.nc, .slice A.sa B.status.length A.sc, .slice A.ma B.maps.length A.mc, .slice A.ka B.cls.length A.kc, .slice A.da B.decomp.length A.dc, .slice A.xa B.excl.length A.xc, .slice A.ba B.bidi.length A.bc, .slice A.ja B.join.length A.jc, .slice A.qa B.marks.length A.qc, .slice A.ra B.script.length A.rc, .slice A.la B.like.length A.lc] 27 (0, 0)))) := HB0
 have CAW := Lib.hid (fun W (hW : Below w.heap.size w W) => awake_any W (HQ.out.below hW))
 go_enter Tryz.func3, Tryz.ntmps3
 go_wp2_with fail
 refine (CAW.out _ HB0.out.b).mono ?_
 rintro e w1 ⟨rfl, hb1⟩
 have hx1 := HB0.out.next hb1
 have HX1 := Lib.hid hx1
 have k0 : w1.cell? ⟨w.heap.size, 0, none⟩ = some (.slice A.na B.names.length A.nc) := (block_cell (i := 0) HX1.out.x).trans rfl
 have k1 : w1.cell? ⟨w.heap.size, 1, none⟩ = some (.slice A.sa B.status.length A.sc) := (block_cell (i := 1) HX1.out.x).trans rfl
 have k2 : w1.cell? ⟨w.heap.size, 2, none⟩ = some (.slice A.ma B.maps.length A.mc) := (block_cell (i := 2) HX1.out.x).trans rfl
 have k3 : w1.cell? ⟨w.heap.size, 3, none⟩ = some (.slice A.ka B.cls.length A.kc) := (block_cell (i := 3) HX1.out.x).trans rfl
 have k4 : w1.cell? ⟨w.heap.size, 4, none⟩ = some (.slice A.da B.decomp.length A.dc) := (block_cell (i := 4) HX1.out.x).trans rfl
 have k5 : w1.cell? ⟨w.heap.size, 5, none⟩ = some (.slice A.xa B.excl.length A.xc) := (block_cell (i := 5) HX1.out.x).trans rfl
 have k6 : w1.cell? ⟨w.heap.size, 6, none⟩ = some (.slice A.ba B.bidi.length A.bc) := (block_cell (i := 6) HX1.out.x).trans rfl
 have k7 : w1.cell? ⟨w.heap.size, 7, none⟩ = some (.slice A.ja B.join.length A.jc) := (block_cell (i := 7) HX1.out.x).trans rfl
 have k8 : w1.cell? ⟨w.heap.size, 8, none⟩ = some (.slice A.qa B.marks.length A.qc) := (block_cell (i := 8) HX1.out.x).trans rfl
 have k9 : w1.cell? ⟨w.heap.size, 9, none⟩ = some (.slice A.ra B.script.length A.rc) := (block_cell (i := 9) HX1.out.x).trans rfl
 have k10 : w1.cell? ⟨w.heap.size, 10, none⟩ = some (.slice A.la B.like.length A.lc) := (block_cell (i := 10) HX1.out.x).trans rfl
 clear hb1 hx1
 go_wp2_with fail
 refine (COF.out _ (HL.out.below HX1.out.b)).mono ?_
 rintro e w2 ⟨A1, rfl, hL2, hb2, hnc1, hdc1⟩
 have hx2 := HX1.out.next hb2
 have HTW : Hid (Tw w B A A1 w2.heap.size (w2.alloc (boxCells B A1))) := Lib.hid ⟨hx2.next ((Below.refl _ _).alloc (Nat.le_refl _) _), heap_alloc_new w2 _, hL2.below ((Below.refl _ _).alloc (Nat.le_refl _) _)⟩
 have HNC := Lib.hid (And.intro hnc1 hdc1)
 clear k0 k1 k2 k3 k4 k5 k6 k7 k8 k9 k10
 clear hb2 hL2 hx2 hnc1 hdc1
 obtain ⟨W3, hW3⟩ : ∃ W3, w2.alloc (boxCells B A1) = W3 := ⟨_, rfl⟩
 rw [hW3] at HTW
 unfold boxCells at hW3
 have hx3 := HTW.out.b.x
 have k0 : W3.cell? ⟨w.heap.size, 0, none⟩ = some (.slice A.na B.names.length A.nc) := (block_cell (i := 0) hx3).trans rfl
 have k1 : W3.cell? ⟨w.heap.size, 1, none⟩ = some (.slice A.sa B.status.length A.sc) := (block_cell (i := 1) hx3).trans rfl
 have k2 : W3.cell? ⟨w.heap.size, 2, none⟩ = some (.slice A.ma B.maps.length A.mc) := (block_cell (i := 2) hx3).trans rfl
 have k3 : W3.cell? ⟨w.heap.size, 3, none⟩ = some (.slice A.ka B.cls.length A.kc) := (block_cell (i := 3) hx3).trans rfl
 have k4 : W3.cell? ⟨w.heap.size, 4, none⟩ = some (.slice A.da B.decomp.length A.dc) := (block_cell (i := 4) hx3).trans rfl
 have k5 : W3.cell? ⟨w.heap.size, 5, none⟩ = some (.slice A.xa B.excl.length A.xc) := (block_cell (i := 5) hx3).trans rfl
 have k6 : W3.cell? ⟨w.heap.size, 6, none⟩ = some (.slice A.ba B.bidi.length A.bc) := (block_cell (i := 6) hx3).trans rfl
 have k7 : W3.cell? ⟨w.heap.size, 7, none⟩ = some (.slice A.ja B.join.length A.jc) := (block_cell (i := 7) hx3).trans rfl
 have k8 : W3.cell? ⟨w.heap.size, 8, none⟩ = some (.slice A.qa B.marks.length A.qc) := (block_cell (i := 8) hx3).trans rfl
 have k9 : W3.cell? ⟨w.heap.size, 9, none⟩ = some (.slice A.ra B.script.length A.rc) := (block_cell (i := 9) hx3).trans rfl
 have k10 : W3.cell? ⟨w.heap.size, 10, none⟩ = some (.slice A.la B.like.length A.lc) := (block_cell (i := 10) hx3).trans rfl
 clear hx3
 go_wp2_with fail
 try rw [hW3]
 generalize hd : w2.heap.size = d at *
 clear hW3 HX1
 refine (CPR.out _ HTW.out.b.b).mono ?_
 rintro e w4 ⟨hre, hb4⟩
 have HRE := Lib.hid hre
 have HT4 := Lib.hid (HTW.out.next hb4)
 clear hre hb4 HTW
 clear k0 k1 k2 k3 k4 k5 k6 k7 k8 k9 k10
 rcases HRE.out with ⟨hF, s, rfl, hst⟩ | ⟨hF, rfl⟩
 ·have HST := Lib.hid hst
  have j0 : w4.cell? ⟨d, 0, none⟩ = some (.slice A1.na B.names.length A1.nc) := (block_cell (i := 0) HT4.out.t).trans rfl
  have j1 : w4.cell? ⟨d, 1, none⟩ = some (.slice A1.sa B.status.length A1.sc) := (block_cell (i := 1) HT4.out.t).trans rfl
  have j2 : w4.cell? ⟨d, 2, none⟩ = some (.slice A1.ma B.maps.length A1.mc) := (block_cell (i := 2) HT4.out.t).trans rfl
  have j3 : w4.cell? ⟨d, 3, none⟩ = some (.slice A1.ka B.cls.length A1.kc) := (block_cell (i := 3) HT4.out.t).trans rfl
  have j4 : w4.cell? ⟨d, 4, none⟩ = some (.slice A1.da B.decomp.length A1.dc) := (block_cell (i := 4) HT4.out.t).trans rfl
  have j5 : w4.cell? ⟨d, 5, none⟩ = some (.slice A1.xa B.excl.length A1.xc) := (block_cell (i := 5) HT4.out.t).trans rfl
  have j6 : w4.cell? ⟨d, 6, none⟩ = some (.slice A1.ba B.bidi.length A1.bc) := (block_cell (i := 6) HT4.out.t).trans rfl
  have j7 : w4.cell? ⟨d, 7, none⟩ = some (.slice A1.ja B.join.length A1.jc) := (block_cell (i := 7) HT4.out.t).trans rfl
  have j8 : w4.cell? ⟨d, 8, none⟩ = some (.slice A1.qa B.marks.length A1.qc) := (block_cell (i := 8) HT4.out.t).trans rfl
  have j9 : w4.cell? ⟨d, 9, none⟩ = some (.slice A1.ra B.script.length A1.rc) := (block_cell (i := 9) HT4.out.t).trans rfl
  have j10 : w4.cell? ⟨d, 10, none⟩ = some (.slice A1.la B.like.length A1.lc) := (block_cell (i := 10) HT4.out.t).trans rfl
  go_wp2_with fail
  refine (CRP.out A1 _ HT4.out.l HNC.out.1 HNC.out.2).mono ?_
  rintro e w5 ⟨hre5, hb5⟩
  have HT5 := Lib.hid (HT4.out.next hb5)
  obtain ⟨t, rfl, htt⟩ : ∃ t : ByteArray, e = .returned (.tuple #[.string t, .int .i64 0]) ∧ t.data.toList = txt B 10 := by
   rcases hre5 with ⟨_, t, h1, h2⟩ | ⟨h, _⟩
   ·exact ⟨t, h1, h2⟩
   ·exact absurd hF h
  obtain rfl : s = t := text_eq (by rw [hst, htt])
  clear hre5 htt hst hb5 HRE HT4
  clear j0 j1 j2 j3 j4 j5 j6 j7 j8 j9 j10
  have k0 : w5.cell? ⟨w.heap.size, 0, none⟩ = some (.slice A.na B.names.length A.nc) := (block_cell (i := 0) HT5.out.b.x).trans rfl
  have k1 : w5.cell? ⟨w.heap.size, 1, none⟩ = some (.slice A.sa B.status.length A.sc) := (block_cell (i := 1) HT5.out.b.x).trans rfl
  have k2 : w5.cell? ⟨w.heap.size, 2, none⟩ = some (.slice A.ma B.maps.length A.mc) := (block_cell (i := 2) HT5.out.b.x).trans rfl
  have k3 : w5.cell? ⟨w.heap.size, 3, none⟩ = some (.slice A.ka B.cls.length A.kc) := (block_cell (i := 3) HT5.out.b.x).trans rfl
  have k4 : w5.cell? ⟨w.heap.size, 4, none⟩ = some (.slice A.da B.decomp.length A.dc) := (block_cell (i := 4) HT5.out.b.x).trans rfl
  have k5 : w5.cell? ⟨w.heap.size, 5, none⟩ = some (.slice A.xa B.excl.length A.xc) := (block_cell (i := 5) HT5.out.b.x).trans rfl
  have k6 : w5.cell? ⟨w.heap.size, 6, none⟩ = some (.slice A.ba B.bidi.length A.bc) := (block_cell (i := 6) HT5.out.b.x).trans rfl
  have k7 : w5.cell? ⟨w.heap.size, 7, none⟩ = some (.slice A.ja B.join.length A.jc) := (block_cell (i := 7) HT5.out.b.x).trans rfl
  have k8 : w5.cell? ⟨w.heap.size, 8, none⟩ = some (.slice A.qa B.marks.length A.qc) := (block_cell (i := 8) HT5.out.b.x).trans rfl
  have k9 : w5.cell? ⟨w.heap.size, 9, none⟩ = some (.slice A.ra B.script.length A.rc) := (block_cell (i := 9) HT5.out.b.x).trans rfl
  have k10 : w5.cell? ⟨w.heap.size, 10, none⟩ = some (.slice A.la B.like.length A.lc) := (block_cell (i := 10) HT5.out.b.x).trans rfl
  have j0 : w5.cell? ⟨d, 0, none⟩ = some (.slice A1.na B.names.length A1.nc) := (block_cell (i := 0) HT5.out.t).trans rfl
  have j1 : w5.cell? ⟨d, 1, none⟩ = some (.slice A1.sa B.status.length A1.sc) := (block_cell (i := 1) HT5.out.t).trans rfl
  have j2 : w5.cell? ⟨d, 2, none⟩ = some (.slice A1.ma B.maps.length A1.mc) := (block_cell (i := 2) HT5.out.t).trans rfl
  have j3 : w5.cell? ⟨d, 3, none⟩ = some (.slice A1.ka B.cls.length A1.kc) := (block_cell (i := 3) HT5.out.t).trans rfl
  have j4 : w5.cell? ⟨d, 4, none⟩ = some (.slice A1.da B.decomp.length A1.dc) := (block_cell (i := 4) HT5.out.t).trans rfl
  have j5 : w5.cell? ⟨d, 5, none⟩ = some (.slice A1.xa B.excl.length A1.xc) := (block_cell (i := 5) HT5.out.t).trans rfl
  have j6 : w5.cell? ⟨d, 6, none⟩ = some (.slice A1.ba B.bidi.length A1.bc) := (block_cell (i := 6) HT5.out.t).trans rfl
  have j7 : w5.cell? ⟨d, 7, none⟩ = some (.slice A1.ja B.join.length A1.jc) := (block_cell (i := 7) HT5.out.t).trans rfl
  have j8 : w5.cell? ⟨d, 8, none⟩ = some (.slice A1.qa B.marks.length A1.qc) := (block_cell (i := 8) HT5.out.t).trans rfl
  have j9 : w5.cell? ⟨d, 9, none⟩ = some (.slice A1.ra B.script.length A1.rc) := (block_cell (i := 9) HT5.out.t).trans rfl
  have j10 : w5.cell? ⟨d, 10, none⟩ = some (.slice A1.la B.like.length A1.lc) := (block_cell (i := 10) HT5.out.t).trans rfl
  go_wp2_with fail
  go_region_held3 (fun w' => w'.cell? ⟨w.heap.size, 0, none⟩ = some (.slice A.na B.names.length A.nc) ∧ w'.cell? ⟨w.heap.size, 1, none⟩ = some (.slice A.sa B.status.length A.sc) ∧ w'.cell? ⟨w.heap.size, 2, none⟩ = some (.slice A.ma B.maps.length A.mc) ∧ w'.cell? ⟨w.heap.size, 3, none⟩ = some (.slice A.ka B.cls.length A.kc) ∧ w'.cell? ⟨w.heap.size, 4, none⟩ = some (.slice A.da B.decomp.length A.dc) ∧ w'.cell? ⟨w.heap.size, 5, none⟩ = some (.slice A.xa B.excl.length A.xc) ∧ w'.cell? ⟨w.heap.size, 6, none⟩ = some (.slice A.ba B.bidi.length A.bc) ∧ w'.cell? ⟨w.heap.size, 7, none⟩ = some (.slice A.ja B.join.length A.jc) ∧ w'.cell? ⟨w.heap.size, 8, none⟩ = some (.slice A.qa B.marks.length A.qc) ∧ w'.cell? ⟨w.heap.size, 9, none⟩ = some (.slice A.ra B.script.length A.rc) ∧ w'.cell? ⟨w.heap.size, 10, none⟩ = some (.slice A.la B.like.length A.lc) ∧ w'.cell? ⟨d, 0, none⟩ = some (.slice A1.na B.names.length A1.nc) ∧ w'.cell? ⟨d, 1, none⟩ = some (.slice A1.sa B.status.length A1.sc) ∧ w'.cell? ⟨d, 2, none⟩ = some (.slice A1.ma B.maps.length A1.mc) ∧ w'.cell? ⟨d, 3, none⟩ = some (.slice A1.ka B.cls.length A1.kc) ∧ w'.cell? ⟨d, 4, none⟩ = some (.slice A1.da B.decomp.length A1.dc) ∧ w'.cell? ⟨d, 5, none⟩ = some (.slice A1.xa B.excl.length A1.xc) ∧ w'.cell? ⟨d, 6, none⟩ = some (.slice A1.ba B.bidi.length A1.bc) ∧ w'.cell? ⟨d, 7, none⟩ = some (.slice A1.ja B.join.length A1.jc) ∧ w'.cell? ⟨d, 8, none⟩ = some (.slice A1.qa B.marks.length A1.qc) ∧ w'.cell? ⟨d, 9, none⟩ = some (.slice A1.ra B.script.length A1.rc) ∧ w'.cell? ⟨d, 10, none⟩ = some (.slice A1.la B.like.length A1.lc))
   (first | exact ⟨r0, r1, r2, r3, r4, r5, r6, r7, r8, r9, r10, s0, s1, s2, s3, s4, s5, s6, s7, s8, s9, s10⟩ | exact ⟨p0, p1, p2, p3, p4, p5, p6, p7, p8, p9, p10, q0, q1, q2, q3, q4, q5, q6, q7, q8, q9, q10⟩ | exact ⟨k0, k1, k2, k3, k4, k5, k6, k7, k8, k9, k10, j0, j1, j2, j3, j4, j5, j6, j7, j8, j9, j10⟩ | go_keep)
   ((first | (go_at_call 5; refine (COF.out _ (HL.out.below (HT5.out.next (drew_below _)).b.b)).mono ?_; rintro e w6 ⟨A2, rfl, hL6, hb6, _, _⟩; have HT6 := Lib.hid ((HT5.out.next (drew_below _)).next hb6); have HL6 := Lib.hid hL6; have p0 : w6.cell? ⟨w.heap.size, 0, none⟩ = some (.slice A.na B.names.length A.nc) := (block_cell (i := 0) HT6.out.b.x).trans rfl; have p1 : w6.cell? ⟨w.heap.size, 1, none⟩ = some (.slice A.sa B.status.length A.sc) := (block_cell (i := 1) HT6.out.b.x).trans rfl; have p2 : w6.cell? ⟨w.heap.size, 2, none⟩ = some (.slice A.ma B.maps.length A.mc) := (block_cell (i := 2) HT6.out.b.x).trans rfl; have p3 : w6.cell? ⟨w.heap.size, 3, none⟩ = some (.slice A.ka B.cls.length A.kc) := (block_cell (i := 3) HT6.out.b.x).trans rfl; have p4 : w6.cell? ⟨w.heap.size, 4, none⟩ = some (.slice A.da B.decomp.length A.dc) := (block_cell (i := 4) HT6.out.b.x).trans rfl; have p5 : w6.cell? ⟨w.heap.size, 5, none⟩ = some (.slice A.xa B.excl.length A.xc) := (block_cell (i := 5) HT6.out.b.x).trans rfl; have p6 : w6.cell? ⟨w.heap.size, 6, none⟩ = some (.slice A.ba B.bidi.length A.bc) := (block_cell (i := 6) HT6.out.b.x).trans rfl; have p7 : w6.cell? ⟨w.heap.size, 7, none⟩ = some (.slice A.ja B.join.length A.jc) := (block_cell (i := 7) HT6.out.b.x).trans rfl; have p8 : w6.cell? ⟨w.heap.size, 8, none⟩ = some (.slice A.qa B.marks.length A.qc) := (block_cell (i := 8) HT6.out.b.x).trans rfl; have p9 : w6.cell? ⟨w.heap.size, 9, none⟩ = some (.slice A.ra B.script.length A.rc) := (block_cell (i := 9) HT6.out.b.x).trans rfl; have p10 : w6.cell? ⟨w.heap.size, 10, none⟩ = some (.slice A.la B.like.length A.lc) := (block_cell (i := 10) HT6.out.b.x).trans rfl; have q0 : w6.cell? ⟨d, 0, none⟩ = some (.slice A1.na B.names.length A1.nc) := (block_cell (i := 0) HT6.out.t).trans rfl; have q1 : w6.cell? ⟨d, 1, none⟩ = some (.slice A1.sa B.status.length A1.sc) := (block_cell (i := 1) HT6.out.t).trans rfl; have q2 : w6.cell? ⟨d, 2, none⟩ = some (.slice A1.ma B.maps.length A1.mc) := (block_cell (i := 2) HT6.out.t).trans rfl; have q3 : w6.cell? ⟨d, 3, none⟩ = some (.slice A1.ka B.cls.length A1.kc) := (block_cell (i := 3) HT6.out.t).trans rfl; have q4 : w6.cell? ⟨d, 4, none⟩ = some (.slice A1.da B.decomp.length A1.dc) := (block_cell (i := 4) HT6.out.t).trans rfl; have q5 : w6.cell? ⟨d, 5, none⟩ = some (.slice A1.xa B.excl.length A1.xc) := (block_cell (i := 5) HT6.out.t).trans rfl; have q6 : w6.cell? ⟨d, 6, none⟩ = some (.slice A1.ba B.bidi.length A1.bc) := (block_cell (i := 6) HT6.out.t).trans rfl; have q7 : w6.cell? ⟨d, 7, none⟩ = some (.slice A1.ja B.join.length A1.jc) := (block_cell (i := 7) HT6.out.t).trans rfl; have q8 : w6.cell? ⟨d, 8, none⟩ = some (.slice A1.qa B.marks.length A1.qc) := (block_cell (i := 8) HT6.out.t).trans rfl; have q9 : w6.cell? ⟨d, 9, none⟩ = some (.slice A1.ra B.script.length A1.rc) := (block_cell (i := 9) HT6.out.t).trans rfl; have q10 : w6.cell? ⟨d, 10, none⟩ = some (.slice A1.la B.like.length A1.lc) := (block_cell (i := 10) HT6.out.t).trans rfl; clear hb6 hL6) | (go_at_call 8; refine (CSM.out A2 A1 _ HL6.out HT6.out.l).mono ?_; rintro e w7 ⟨rfl, hb7⟩; have HT7 := Lib.hid (HT6.out.next hb7); have r0 : w7.cell? ⟨w.heap.size, 0, none⟩ = some (.slice A.na B.names.length A.nc) := (block_cell (i := 0) HT7.out.b.x).trans rfl; have r1 : w7.cell? ⟨w.heap.size, 1, none⟩ = some (.slice A.sa B.status.length A.sc) := (block_cell (i := 1) HT7.out.b.x).trans rfl; have r2 : w7.cell? ⟨w.heap.size, 2, none⟩ = some (.slice A.ma B.maps.length A.mc) := (block_cell (i := 2) HT7.out.b.x).trans rfl; have r3 : w7.cell? ⟨w.heap.size, 3, none⟩ = some (.slice A.ka B.cls.length A.kc) := (block_cell (i := 3) HT7.out.b.x).trans rfl; have r4 : w7.cell? ⟨w.heap.size, 4, none⟩ = some (.slice A.da B.decomp.length A.dc) := (block_cell (i := 4) HT7.out.b.x).trans rfl; have r5 : w7.cell? ⟨w.heap.size, 5, none⟩ = some (.slice A.xa B.excl.length A.xc) := (block_cell (i := 5) HT7.out.b.x).trans rfl; have r6 : w7.cell? ⟨w.heap.size, 6, none⟩ = some (.slice A.ba B.bidi.length A.bc) := (block_cell (i := 6) HT7.out.b.x).trans rfl; have r7 : w7.cell? ⟨w.heap.size, 7, none⟩ = some (.slice A.ja B.join.length A.jc) := (block_cell (i := 7) HT7.out.b.x).trans rfl; have r8 : w7.cell? ⟨w.heap.size, 8, none⟩ = some (.slice A.qa B.marks.length A.qc) := (block_cell (i := 8) HT7.out.b.x).trans rfl; have r9 : w7.cell? ⟨w.heap.size, 9, none⟩ = some (.slice A.ra B.script.length A.rc) := (block_cell (i := 9) HT7.out.b.x).trans rfl; have r10 : w7.cell? ⟨w.heap.size, 10, none⟩ = some (.slice A.la B.like.length A.lc) := (block_cell (i := 10) HT7.out.b.x).trans rfl; have s0 : w7.cell? ⟨d, 0, none⟩ = some (.slice A1.na B.names.length A1.nc) := (block_cell (i := 0) HT7.out.t).trans rfl; have s1 : w7.cell? ⟨d, 1, none⟩ = some (.slice A1.sa B.status.length A1.sc) := (block_cell (i := 1) HT7.out.t).trans rfl; have s2 : w7.cell? ⟨d, 2, none⟩ = some (.slice A1.ma B.maps.length A1.mc) := (block_cell (i := 2) HT7.out.t).trans rfl; have s3 : w7.cell? ⟨d, 3, none⟩ = some (.slice A1.ka B.cls.length A1.kc) := (block_cell (i := 3) HT7.out.t).trans rfl; have s4 : w7.cell? ⟨d, 4, none⟩ = some (.slice A1.da B.decomp.length A1.dc) := (block_cell (i := 4) HT7.out.t).trans rfl; have s5 : w7.cell? ⟨d, 5, none⟩ = some (.slice A1.xa B.excl.length A1.xc) := (block_cell (i := 5) HT7.out.t).trans rfl; have s6 : w7.cell? ⟨d, 6, none⟩ = some (.slice A1.ba B.bidi.length A1.bc) := (block_cell (i := 6) HT7.out.t).trans rfl; have s7 : w7.cell? ⟨d, 7, none⟩ = some (.slice A1.ja B.join.length A1.jc) := (block_cell (i := 7) HT7.out.t).trans rfl; have s8 : w7.cell? ⟨d, 8, none⟩ = some (.slice A1.qa B.marks.length A1.qc) := (block_cell (i := 8) HT7.out.t).trans rfl; have s9 : w7.cell? ⟨d, 9, none⟩ = some (.slice A1.ra B.script.length A1.rc) := (block_cell (i := 9) HT7.out.t).trans rfl; have s10 : w7.cell? ⟨d, 10, none⟩ = some (.slice A1.la B.like.length A1.lc) := (block_cell (i := 10) HT7.out.t).trans rfl; clear hb7)))
  have HG := Lib.hid (good_of hF)
  have hrl := rows_le HG.out
  have hll : (lnsOf B).length = Turn.rows B := lns_len B
  have HCT := Lib.hid (CTU.out w7 HT7.out.b.b)
  cases hit : Turn.inTurn B with
  | false =>
   rw [hit] at HCT
   go_wp2_with (go_at_call 9; refine HCT.out.mono ?_; rintro e w8 ⟨rfl, hb8⟩)
   go_ret
   exact ⟨rfl, (HT7.out.next hb8).b.b⟩
  | true =>
   rw [hit] at HCT
   have HIT := Lib.hid hit
   have HFO := Lib.hid (fold_lns HG.out hit)
   have HTX := Lib.hid (HST.out.trans (txt_lns HG.out))
   have HSZ : Hid (s.size ≤ 1073741824) := Lib.hid (by
    have h1 := txt_le HG.out 10
    rw [← HST.out, size_data] at h1
    omega)
   have HRD := Lib.hid (fun W (hW : Below w.heap.size w W) => read_any s (lnsOf B) W (lns_ok HG.out) HTX.out HSZ.out (by omega) (HQ.out.below hW))
   clear hit
   go_wp2_with (go_at_call 9; refine HCT.out.mono ?_; rintro e w8 ⟨rfl, hb8⟩)
   have HT8 := Lib.hid (HT7.out.next hb8)
   go_wp2_with fail
   refine (HRD.out _ HT8.out.b.b).mono ?_
   rintro e w9 ⟨hre9, hb9⟩
   have HT9 := Lib.hid (HT8.out.next hb9)
   have HR9 := Lib.hid hre9
   clear k0 k1 k2 k3 k4 k5 k6 k7 k8 k9 k10 j0 j1 j2 j3 j4 j5 j6 j7 j8 j9 j10 p0 p1 p2 p3 p4 p5 p6 p7 p8 p9 p10 q0 q1 q2 q3 q4 q5 q6 q7 q8 q9 q10 r0 r1 r2 r3 r4 r5 r6 r7 r8 r9 r10 s0 s1 s2 s3 s4 s5 s6 s7 s8 s9 s10
   clear hb8 hb9 hre9 HT5 HT6 HT7 HT8 HCT
   rcases HR9.out with ⟨hle, A3, rfl, hL3, _, _⟩ | ⟨hgt, rfl⟩
   ·rw [HFO.out] at hL3 ⊢
    have hgr : decide ((Turn.rows B : Int) > 262144) = false := decide_eq_false (by omega)
    have HTX10 := Lib.hid (HT9.out.next ((Below.refl _ _).alloc (Nat.le_refl _) (apiBox B A3)))
    have HL10 := Lib.hid (hL3.below ((Below.refl _ _).alloc (Nat.le_refl _) (apiBox B A3)))
    have HC10 := Lib.hid (heap_alloc_new w9 (apiBox B A3))
    clear hL3
    unfold bookV
    obtain ⟨W10, hW10⟩ : ∃ W10, w9.alloc (apiBox B A3) = W10 := ⟨_, rfl⟩
    rw [hW10] at HTX10 HL10 HC10
    unfold apiBox at hW10
    have k0 : W10.cell? ⟨w.heap.size, 0, none⟩ = some (.slice A.na B.names.length A.nc) := (block_cell (i := 0) HTX10.out.b.x).trans rfl
    have k1 : W10.cell? ⟨w.heap.size, 1, none⟩ = some (.slice A.sa B.status.length A.sc) := (block_cell (i := 1) HTX10.out.b.x).trans rfl
    have k2 : W10.cell? ⟨w.heap.size, 2, none⟩ = some (.slice A.ma B.maps.length A.mc) := (block_cell (i := 2) HTX10.out.b.x).trans rfl
    have k3 : W10.cell? ⟨w.heap.size, 3, none⟩ = some (.slice A.ka B.cls.length A.kc) := (block_cell (i := 3) HTX10.out.b.x).trans rfl
    have k4 : W10.cell? ⟨w.heap.size, 4, none⟩ = some (.slice A.da B.decomp.length A.dc) := (block_cell (i := 4) HTX10.out.b.x).trans rfl
    have k5 : W10.cell? ⟨w.heap.size, 5, none⟩ = some (.slice A.xa B.excl.length A.xc) := (block_cell (i := 5) HTX10.out.b.x).trans rfl
    have k6 : W10.cell? ⟨w.heap.size, 6, none⟩ = some (.slice A.ba B.bidi.length A.bc) := (block_cell (i := 6) HTX10.out.b.x).trans rfl
    have k7 : W10.cell? ⟨w.heap.size, 7, none⟩ = some (.slice A.ja B.join.length A.jc) := (block_cell (i := 7) HTX10.out.b.x).trans rfl
    have k8 : W10.cell? ⟨w.heap.size, 8, none⟩ = some (.slice A.qa B.marks.length A.qc) := (block_cell (i := 8) HTX10.out.b.x).trans rfl
    have k9 : W10.cell? ⟨w.heap.size, 9, none⟩ = some (.slice A.ra B.script.length A.rc) := (block_cell (i := 9) HTX10.out.b.x).trans rfl
    have k10 : W10.cell? ⟨w.heap.size, 10, none⟩ = some (.slice A.la B.like.length A.lc) := (block_cell (i := 10) HTX10.out.b.x).trans rfl
    go_wp2_with (go_at_call 11; refine (CRW.out _).mono ?_; rintro e w11 ⟨rfl, hb11⟩)
    have COF3 := Lib.hid (fun W (h : Lies W B A3) => of_any B A3 W HS.out h)
    unfold bookV at COF3
    generalize hd2 : w9.heap.size = d2 at *
    clear hW10
    have HT11 := Lib.hid (HTX10.out.next hb11)
    have HC11 := Lib.hid ((hb11.block _ (block_lt HC10.out)).trans HC10.out)
    have HL11 := Lib.hid (HL10.out.below hb11)
    clear hb11 k0 k1 k2 k3 k4 k5 k6 k7 k8 k9 k10
    clear HTX10 HL10 HC10
    have k0 : w11.cell? ⟨d2, 0, none⟩ = some (.slice A3.na B.names.length A3.nc) := (block_cell (i := 0) HC11.out).trans rfl
    have k1 : w11.cell? ⟨d2, 1, none⟩ = some (.slice A3.sa B.status.length A3.sc) := (block_cell (i := 1) HC11.out).trans rfl
    have k2 : w11.cell? ⟨d2, 2, none⟩ = some (.slice A3.ma B.maps.length A3.mc) := (block_cell (i := 2) HC11.out).trans rfl
    have k3 : w11.cell? ⟨d2, 3, none⟩ = some (.slice A3.ka B.cls.length A3.kc) := (block_cell (i := 3) HC11.out).trans rfl
    have k4 : w11.cell? ⟨d2, 4, none⟩ = some (.slice A3.da B.decomp.length A3.dc) := (block_cell (i := 4) HC11.out).trans rfl
    have k5 : w11.cell? ⟨d2, 5, none⟩ = some (.slice A3.xa B.excl.length A3.xc) := (block_cell (i := 5) HC11.out).trans rfl
    have k6 : w11.cell? ⟨d2, 6, none⟩ = some (.slice A3.ba B.bidi.length A3.bc) := (block_cell (i := 6) HC11.out).trans rfl
    have k7 : w11.cell? ⟨d2, 7, none⟩ = some (.slice A3.ja B.join.length A3.jc) := (block_cell (i := 7) HC11.out).trans rfl
    have k8 : w11.cell? ⟨d2, 8, none⟩ = some (.slice A3.qa B.marks.length A3.qc) := (block_cell (i := 8) HC11.out).trans rfl
    have k9 : w11.cell? ⟨d2, 9, none⟩ = some (.slice A3.ra B.script.length A3.rc) := (block_cell (i := 9) HC11.out).trans rfl
    have k10 : w11.cell? ⟨d2, 10, none⟩ = some (.slice A3.la B.like.length A3.lc) := (block_cell (i := 10) HC11.out).trans rfl
    have j0 : w11.cell? ⟨d, 0, none⟩ = some (.slice A1.na B.names.length A1.nc) := (block_cell (i := 0) HT11.out.t).trans rfl
    have j1 : w11.cell? ⟨d, 1, none⟩ = some (.slice A1.sa B.status.length A1.sc) := (block_cell (i := 1) HT11.out.t).trans rfl
    have j2 : w11.cell? ⟨d, 2, none⟩ = some (.slice A1.ma B.maps.length A1.mc) := (block_cell (i := 2) HT11.out.t).trans rfl
    have j3 : w11.cell? ⟨d, 3, none⟩ = some (.slice A1.ka B.cls.length A1.kc) := (block_cell (i := 3) HT11.out.t).trans rfl
    have j4 : w11.cell? ⟨d, 4, none⟩ = some (.slice A1.da B.decomp.length A1.dc) := (block_cell (i := 4) HT11.out.t).trans rfl
    have j5 : w11.cell? ⟨d, 5, none⟩ = some (.slice A1.xa B.excl.length A1.xc) := (block_cell (i := 5) HT11.out.t).trans rfl
    have j6 : w11.cell? ⟨d, 6, none⟩ = some (.slice A1.ba B.bidi.length A1.bc) := (block_cell (i := 6) HT11.out.t).trans rfl
    have j7 : w11.cell? ⟨d, 7, none⟩ = some (.slice A1.ja B.join.length A1.jc) := (block_cell (i := 7) HT11.out.t).trans rfl
    have j8 : w11.cell? ⟨d, 8, none⟩ = some (.slice A1.qa B.marks.length A1.qc) := (block_cell (i := 8) HT11.out.t).trans rfl
    have j9 : w11.cell? ⟨d, 9, none⟩ = some (.slice A1.ra B.script.length A1.rc) := (block_cell (i := 9) HT11.out.t).trans rfl
    have j10 : w11.cell? ⟨d, 10, none⟩ = some (.slice A1.la B.like.length A1.lc) := (block_cell (i := 10) HT11.out.t).trans rfl
    go_wp2_with fail
    go_region_held3 (fun w' => w'.cell? ⟨d2, 0, none⟩ = some (.slice A3.na B.names.length A3.nc) ∧ w'.cell? ⟨d2, 1, none⟩ = some (.slice A3.sa B.status.length A3.sc) ∧ w'.cell? ⟨d2, 2, none⟩ = some (.slice A3.ma B.maps.length A3.mc) ∧ w'.cell? ⟨d2, 3, none⟩ = some (.slice A3.ka B.cls.length A3.kc) ∧ w'.cell? ⟨d2, 4, none⟩ = some (.slice A3.da B.decomp.length A3.dc) ∧ w'.cell? ⟨d2, 5, none⟩ = some (.slice A3.xa B.excl.length A3.xc) ∧ w'.cell? ⟨d2, 6, none⟩ = some (.slice A3.ba B.bidi.length A3.bc) ∧ w'.cell? ⟨d2, 7, none⟩ = some (.slice A3.ja B.join.length A3.jc) ∧ w'.cell? ⟨d2, 8, none⟩ = some (.slice A3.qa B.marks.length A3.qc) ∧ w'.cell? ⟨d2, 9, none⟩ = some (.slice A3.ra B.script.length A3.rc) ∧ w'.cell? ⟨d2, 10, none⟩ = some (.slice A3.la B.like.length A3.lc) ∧ w'.cell? ⟨d, 0, none⟩ = some (.slice A1.na B.names.length A1.nc) ∧ w'.cell? ⟨d, 1, none⟩ = some (.slice A1.sa B.status.length A1.sc) ∧ w'.cell? ⟨d, 2, none⟩ = some (.slice A1.ma B.maps.length A1.mc) ∧ w'.cell? ⟨d, 3, none⟩ = some (.slice A1.ka B.cls.length A1.kc) ∧ w'.cell? ⟨d, 4, none⟩ = some (.slice A1.da B.decomp.length A1.dc) ∧ w'.cell? ⟨d, 5, none⟩ = some (.slice A1.xa B.excl.length A1.xc) ∧ w'.cell? ⟨d, 6, none⟩ = some (.slice A1.ba B.bidi.length A1.bc) ∧ w'.cell? ⟨d, 7, none⟩ = some (.slice A1.ja B.join.length A1.jc) ∧ w'.cell? ⟨d, 8, none⟩ = some (.slice A1.qa B.marks.length A1.qc) ∧ w'.cell? ⟨d, 9, none⟩ = some (.slice A1.ra B.script.length A1.rc) ∧ w'.cell? ⟨d, 10, none⟩ = some (.slice A1.la B.like.length A1.lc))
     (first | exact ⟨r0, r1, r2, r3, r4, r5, r6, r7, r8, r9, r10, s0, s1, s2, s3, s4, s5, s6, s7, s8, s9, s10⟩ | exact ⟨p0, p1, p2, p3, p4, p5, p6, p7, p8, p9, p10, q0, q1, q2, q3, q4, q5, q6, q7, q8, q9, q10⟩ | exact ⟨k0, k1, k2, k3, k4, k5, k6, k7, k8, k9, k10, j0, j1, j2, j3, j4, j5, j6, j7, j8, j9, j10⟩ | go_keep)
     ((first | (go_at_call 5; refine (COF3.out _ (HL11.out.below (drew_below _))).mono ?_; rintro e w12 ⟨A4, rfl, hL12, hb12, _, _⟩; have HT12 := Lib.hid ((HT11.out.next (drew_below _)).next hb12); have HL12 := Lib.hid hL12; have HC12 := Lib.hid ((hb12.block _ (block_lt HC11.out)).trans HC11.out); have p0 : w12.cell? ⟨d2, 0, none⟩ = some (.slice A3.na B.names.length A3.nc) := (block_cell (i := 0) HC12.out).trans rfl; have p1 : w12.cell? ⟨d2, 1, none⟩ = some (.slice A3.sa B.status.length A3.sc) := (block_cell (i := 1) HC12.out).trans rfl; have p2 : w12.cell? ⟨d2, 2, none⟩ = some (.slice A3.ma B.maps.length A3.mc) := (block_cell (i := 2) HC12.out).trans rfl; have p3 : w12.cell? ⟨d2, 3, none⟩ = some (.slice A3.ka B.cls.length A3.kc) := (block_cell (i := 3) HC12.out).trans rfl; have p4 : w12.cell? ⟨d2, 4, none⟩ = some (.slice A3.da B.decomp.length A3.dc) := (block_cell (i := 4) HC12.out).trans rfl; have p5 : w12.cell? ⟨d2, 5, none⟩ = some (.slice A3.xa B.excl.length A3.xc) := (block_cell (i := 5) HC12.out).trans rfl; have p6 : w12.cell? ⟨d2, 6, none⟩ = some (.slice A3.ba B.bidi.length A3.bc) := (block_cell (i := 6) HC12.out).trans rfl; have p7 : w12.cell? ⟨d2, 7, none⟩ = some (.slice A3.ja B.join.length A3.jc) := (block_cell (i := 7) HC12.out).trans rfl; have p8 : w12.cell? ⟨d2, 8, none⟩ = some (.slice A3.qa B.marks.length A3.qc) := (block_cell (i := 8) HC12.out).trans rfl; have p9 : w12.cell? ⟨d2, 9, none⟩ = some (.slice A3.ra B.script.length A3.rc) := (block_cell (i := 9) HC12.out).trans rfl; have p10 : w12.cell? ⟨d2, 10, none⟩ = some (.slice A3.la B.like.length A3.lc) := (block_cell (i := 10) HC12.out).trans rfl; have q0 : w12.cell? ⟨d, 0, none⟩ = some (.slice A1.na B.names.length A1.nc) := (block_cell (i := 0) HT12.out.t).trans rfl; have q1 : w12.cell? ⟨d, 1, none⟩ = some (.slice A1.sa B.status.length A1.sc) := (block_cell (i := 1) HT12.out.t).trans rfl; have q2 : w12.cell? ⟨d, 2, none⟩ = some (.slice A1.ma B.maps.length A1.mc) := (block_cell (i := 2) HT12.out.t).trans rfl; have q3 : w12.cell? ⟨d, 3, none⟩ = some (.slice A1.ka B.cls.length A1.kc) := (block_cell (i := 3) HT12.out.t).trans rfl; have q4 : w12.cell? ⟨d, 4, none⟩ = some (.slice A1.da B.decomp.length A1.dc) := (block_cell (i := 4) HT12.out.t).trans rfl; have q5 : w12.cell? ⟨d, 5, none⟩ = some (.slice A1.xa B.excl.length A1.xc) := (block_cell (i := 5) HT12.out.t).trans rfl; have q6 : w12.cell? ⟨d, 6, none⟩ = some (.slice A1.ba B.bidi.length A1.bc) := (block_cell (i := 6) HT12.out.t).trans rfl; have q7 : w12.cell? ⟨d, 7, none⟩ = some (.slice A1.ja B.join.length A1.jc) := (block_cell (i := 7) HT12.out.t).trans rfl; have q8 : w12.cell? ⟨d, 8, none⟩ = some (.slice A1.qa B.marks.length A1.qc) := (block_cell (i := 8) HT12.out.t).trans rfl; have q9 : w12.cell? ⟨d, 9, none⟩ = some (.slice A1.ra B.script.length A1.rc) := (block_cell (i := 9) HT12.out.t).trans rfl; have q10 : w12.cell? ⟨d, 10, none⟩ = some (.slice A1.la B.like.length A1.lc) := (block_cell (i := 10) HT12.out.t).trans rfl; clear hb12 hL12) | (go_at_call 8; refine (CSM.out A4 A1 _ HL12.out HT12.out.l).mono ?_; rintro e w14 ⟨rfl, hb14⟩; have HT14 := Lib.hid (HT12.out.next hb14); have HC14 := Lib.hid ((hb14.block _ (block_lt HC12.out)).trans HC12.out); have r0 : w14.cell? ⟨d2, 0, none⟩ = some (.slice A3.na B.names.length A3.nc) := (block_cell (i := 0) HC14.out).trans rfl; have r1 : w14.cell? ⟨d2, 1, none⟩ = some (.slice A3.sa B.status.length A3.sc) := (block_cell (i := 1) HC14.out).trans rfl; have r2 : w14.cell? ⟨d2, 2, none⟩ = some (.slice A3.ma B.maps.length A3.mc) := (block_cell (i := 2) HC14.out).trans rfl; have r3 : w14.cell? ⟨d2, 3, none⟩ = some (.slice A3.ka B.cls.length A3.kc) := (block_cell (i := 3) HC14.out).trans rfl; have r4 : w14.cell? ⟨d2, 4, none⟩ = some (.slice A3.da B.decomp.length A3.dc) := (block_cell (i := 4) HC14.out).trans rfl; have r5 : w14.cell? ⟨d2, 5, none⟩ = some (.slice A3.xa B.excl.length A3.xc) := (block_cell (i := 5) HC14.out).trans rfl; have r6 : w14.cell? ⟨d2, 6, none⟩ = some (.slice A3.ba B.bidi.length A3.bc) := (block_cell (i := 6) HC14.out).trans rfl; have r7 : w14.cell? ⟨d2, 7, none⟩ = some (.slice A3.ja B.join.length A3.jc) := (block_cell (i := 7) HC14.out).trans rfl; have r8 : w14.cell? ⟨d2, 8, none⟩ = some (.slice A3.qa B.marks.length A3.qc) := (block_cell (i := 8) HC14.out).trans rfl; have r9 : w14.cell? ⟨d2, 9, none⟩ = some (.slice A3.ra B.script.length A3.rc) := (block_cell (i := 9) HC14.out).trans rfl; have r10 : w14.cell? ⟨d2, 10, none⟩ = some (.slice A3.la B.like.length A3.lc) := (block_cell (i := 10) HC14.out).trans rfl; have s0 : w14.cell? ⟨d, 0, none⟩ = some (.slice A1.na B.names.length A1.nc) := (block_cell (i := 0) HT14.out.t).trans rfl; have s1 : w14.cell? ⟨d, 1, none⟩ = some (.slice A1.sa B.status.length A1.sc) := (block_cell (i := 1) HT14.out.t).trans rfl; have s2 : w14.cell? ⟨d, 2, none⟩ = some (.slice A1.ma B.maps.length A1.mc) := (block_cell (i := 2) HT14.out.t).trans rfl; have s3 : w14.cell? ⟨d, 3, none⟩ = some (.slice A1.ka B.cls.length A1.kc) := (block_cell (i := 3) HT14.out.t).trans rfl; have s4 : w14.cell? ⟨d, 4, none⟩ = some (.slice A1.da B.decomp.length A1.dc) := (block_cell (i := 4) HT14.out.t).trans rfl; have s5 : w14.cell? ⟨d, 5, none⟩ = some (.slice A1.xa B.excl.length A1.xc) := (block_cell (i := 5) HT14.out.t).trans rfl; have s6 : w14.cell? ⟨d, 6, none⟩ = some (.slice A1.ba B.bidi.length A1.bc) := (block_cell (i := 6) HT14.out.t).trans rfl; have s7 : w14.cell? ⟨d, 7, none⟩ = some (.slice A1.ja B.join.length A1.jc) := (block_cell (i := 7) HT14.out.t).trans rfl; have s8 : w14.cell? ⟨d, 8, none⟩ = some (.slice A1.qa B.marks.length A1.qc) := (block_cell (i := 8) HT14.out.t).trans rfl; have s9 : w14.cell? ⟨d, 9, none⟩ = some (.slice A1.ra B.script.length A1.rc) := (block_cell (i := 9) HT14.out.t).trans rfl; have s10 : w14.cell? ⟨d, 10, none⟩ = some (.slice A1.la B.like.length A1.lc) := (block_cell (i := 10) HT14.out.t).trans rfl; clear hb14)))
    go_wp2_with fail
    go_ret
    exact ⟨rfl, HT14.out.b.b⟩
   ·have hgr : decide ((Turn.rows B : Int) > 262144) = true := decide_eq_true (by omega)
    have hx9 := HT9.out.b.x
    have k0 : w9.cell? ⟨w.heap.size, 0, none⟩ = some (.slice A.na B.names.length A.nc) := (block_cell (i := 0) hx9).trans rfl
    have k1 : w9.cell? ⟨w.heap.size, 1, none⟩ = some (.slice A.sa B.status.length A.sc) := (block_cell (i := 1) hx9).trans rfl
    have k2 : w9.cell? ⟨w.heap.size, 2, none⟩ = some (.slice A.ma B.maps.length A.mc) := (block_cell (i := 2) hx9).trans rfl
    have k3 : w9.cell? ⟨w.heap.size, 3, none⟩ = some (.slice A.ka B.cls.length A.kc) := (block_cell (i := 3) hx9).trans rfl
    have k4 : w9.cell? ⟨w.heap.size, 4, none⟩ = some (.slice A.da B.decomp.length A.dc) := (block_cell (i := 4) hx9).trans rfl
    have k5 : w9.cell? ⟨w.heap.size, 5, none⟩ = some (.slice A.xa B.excl.length A.xc) := (block_cell (i := 5) hx9).trans rfl
    have k6 : w9.cell? ⟨w.heap.size, 6, none⟩ = some (.slice A.ba B.bidi.length A.bc) := (block_cell (i := 6) hx9).trans rfl
    have k7 : w9.cell? ⟨w.heap.size, 7, none⟩ = some (.slice A.ja B.join.length A.jc) := (block_cell (i := 7) hx9).trans rfl
    have k8 : w9.cell? ⟨w.heap.size, 8, none⟩ = some (.slice A.qa B.marks.length A.qc) := (block_cell (i := 8) hx9).trans rfl
    have k9 : w9.cell? ⟨w.heap.size, 9, none⟩ = some (.slice A.ra B.script.length A.rc) := (block_cell (i := 9) hx9).trans rfl
    have k10 : w9.cell? ⟨w.heap.size, 10, none⟩ = some (.slice A.la B.like.length A.lc) := (block_cell (i := 10) hx9).trans rfl
    have hlt9 : w.heap.size < w9.heap.size := block_lt hx9
    clear hx9
    unfold bookV emptyB nilAds
    simp only [List.length_nil]
    go_wp2_with (go_at_call 11; refine (CRW.out _).mono ?_; rintro e w11 ⟨rfl, hb11⟩)
    have hfin := (HT9.out.next ((Below.refl _ _).alloc (Nat.le_refl _) _)).next hb11
    go_wp2_with fail
    go_ret
    exact ⟨rfl, hfin.b.b⟩
 ·have j0 : w4.cell? ⟨d, 0, none⟩ = some (.slice A1.na B.names.length A1.nc) := (block_cell (i := 0) HT4.out.t).trans rfl
  have j1 : w4.cell? ⟨d, 1, none⟩ = some (.slice A1.sa B.status.length A1.sc) := (block_cell (i := 1) HT4.out.t).trans rfl
  have j2 : w4.cell? ⟨d, 2, none⟩ = some (.slice A1.ma B.maps.length A1.mc) := (block_cell (i := 2) HT4.out.t).trans rfl
  have j3 : w4.cell? ⟨d, 3, none⟩ = some (.slice A1.ka B.cls.length A1.kc) := (block_cell (i := 3) HT4.out.t).trans rfl
  have j4 : w4.cell? ⟨d, 4, none⟩ = some (.slice A1.da B.decomp.length A1.dc) := (block_cell (i := 4) HT4.out.t).trans rfl
  have j5 : w4.cell? ⟨d, 5, none⟩ = some (.slice A1.xa B.excl.length A1.xc) := (block_cell (i := 5) HT4.out.t).trans rfl
  have j6 : w4.cell? ⟨d, 6, none⟩ = some (.slice A1.ba B.bidi.length A1.bc) := (block_cell (i := 6) HT4.out.t).trans rfl
  have j7 : w4.cell? ⟨d, 7, none⟩ = some (.slice A1.ja B.join.length A1.jc) := (block_cell (i := 7) HT4.out.t).trans rfl
  have j8 : w4.cell? ⟨d, 8, none⟩ = some (.slice A1.qa B.marks.length A1.qc) := (block_cell (i := 8) HT4.out.t).trans rfl
  have j9 : w4.cell? ⟨d, 9, none⟩ = some (.slice A1.ra B.script.length A1.rc) := (block_cell (i := 9) HT4.out.t).trans rfl
  have j10 : w4.cell? ⟨d, 10, none⟩ = some (.slice A1.la B.like.length A1.lc) := (block_cell (i := 10) HT4.out.t).trans rfl
  go_wp2_with fail
  refine (CRP.out A1 _ HT4.out.l HNC.out.1 HNC.out.2).mono ?_
  rintro e w5 ⟨hre5, hb5⟩
  have HT5 := Lib.hid (HT4.out.next hb5)
  obtain rfl : e = .returned (.tuple #[.string ⟨#[]⟩, .int .i64 100]) := by
   rcases hre5 with ⟨h, _⟩ | ⟨_, h⟩
   ·exact absurd h hF
   ·exact h
  clear hre5 hb5 HRE HT4
  clear j0 j1 j2 j3 j4 j5 j6 j7 j8 j9 j10
  have k0 : w5.cell? ⟨w.heap.size, 0, none⟩ = some (.slice A.na B.names.length A.nc) := (block_cell (i := 0) HT5.out.b.x).trans rfl
  have k1 : w5.cell? ⟨w.heap.size, 1, none⟩ = some (.slice A.sa B.status.length A.sc) := (block_cell (i := 1) HT5.out.b.x).trans rfl
  have k2 : w5.cell? ⟨w.heap.size, 2, none⟩ = some (.slice A.ma B.maps.length A.mc) := (block_cell (i := 2) HT5.out.b.x).trans rfl
  have k3 : w5.cell? ⟨w.heap.size, 3, none⟩ = some (.slice A.ka B.cls.length A.kc) := (block_cell (i := 3) HT5.out.b.x).trans rfl
  have k4 : w5.cell? ⟨w.heap.size, 4, none⟩ = some (.slice A.da B.decomp.length A.dc) := (block_cell (i := 4) HT5.out.b.x).trans rfl
  have k5 : w5.cell? ⟨w.heap.size, 5, none⟩ = some (.slice A.xa B.excl.length A.xc) := (block_cell (i := 5) HT5.out.b.x).trans rfl
  have k6 : w5.cell? ⟨w.heap.size, 6, none⟩ = some (.slice A.ba B.bidi.length A.bc) := (block_cell (i := 6) HT5.out.b.x).trans rfl
  have k7 : w5.cell? ⟨w.heap.size, 7, none⟩ = some (.slice A.ja B.join.length A.jc) := (block_cell (i := 7) HT5.out.b.x).trans rfl
  have k8 : w5.cell? ⟨w.heap.size, 8, none⟩ = some (.slice A.qa B.marks.length A.qc) := (block_cell (i := 8) HT5.out.b.x).trans rfl
  have k9 : w5.cell? ⟨w.heap.size, 9, none⟩ = some (.slice A.ra B.script.length A.rc) := (block_cell (i := 9) HT5.out.b.x).trans rfl
  have k10 : w5.cell? ⟨w.heap.size, 10, none⟩ = some (.slice A.la B.like.length A.lc) := (block_cell (i := 10) HT5.out.b.x).trans rfl
  have j0 : w5.cell? ⟨d, 0, none⟩ = some (.slice A1.na B.names.length A1.nc) := (block_cell (i := 0) HT5.out.t).trans rfl
  have j1 : w5.cell? ⟨d, 1, none⟩ = some (.slice A1.sa B.status.length A1.sc) := (block_cell (i := 1) HT5.out.t).trans rfl
  have j2 : w5.cell? ⟨d, 2, none⟩ = some (.slice A1.ma B.maps.length A1.mc) := (block_cell (i := 2) HT5.out.t).trans rfl
  have j3 : w5.cell? ⟨d, 3, none⟩ = some (.slice A1.ka B.cls.length A1.kc) := (block_cell (i := 3) HT5.out.t).trans rfl
  have j4 : w5.cell? ⟨d, 4, none⟩ = some (.slice A1.da B.decomp.length A1.dc) := (block_cell (i := 4) HT5.out.t).trans rfl
  have j5 : w5.cell? ⟨d, 5, none⟩ = some (.slice A1.xa B.excl.length A1.xc) := (block_cell (i := 5) HT5.out.t).trans rfl
  have j6 : w5.cell? ⟨d, 6, none⟩ = some (.slice A1.ba B.bidi.length A1.bc) := (block_cell (i := 6) HT5.out.t).trans rfl
  have j7 : w5.cell? ⟨d, 7, none⟩ = some (.slice A1.ja B.join.length A1.jc) := (block_cell (i := 7) HT5.out.t).trans rfl
  have j8 : w5.cell? ⟨d, 8, none⟩ = some (.slice A1.qa B.marks.length A1.qc) := (block_cell (i := 8) HT5.out.t).trans rfl
  have j9 : w5.cell? ⟨d, 9, none⟩ = some (.slice A1.ra B.script.length A1.rc) := (block_cell (i := 9) HT5.out.t).trans rfl
  have j10 : w5.cell? ⟨d, 10, none⟩ = some (.slice A1.la B.like.length A1.lc) := (block_cell (i := 10) HT5.out.t).trans rfl
  go_wp2_with fail
  go_region_held3 (fun w' => w'.cell? ⟨w.heap.size, 0, none⟩ = some (.slice A.na B.names.length A.nc) ∧ w'.cell? ⟨w.heap.size, 1, none⟩ = some (.slice A.sa B.status.length A.sc) ∧ w'.cell? ⟨w.heap.size, 2, none⟩ = some (.slice A.ma B.maps.length A.mc) ∧ w'.cell? ⟨w.heap.size, 3, none⟩ = some (.slice A.ka B.cls.length A.kc) ∧ w'.cell? ⟨w.heap.size, 4, none⟩ = some (.slice A.da B.decomp.length A.dc) ∧ w'.cell? ⟨w.heap.size, 5, none⟩ = some (.slice A.xa B.excl.length A.xc) ∧ w'.cell? ⟨w.heap.size, 6, none⟩ = some (.slice A.ba B.bidi.length A.bc) ∧ w'.cell? ⟨w.heap.size, 7, none⟩ = some (.slice A.ja B.join.length A.jc) ∧ w'.cell? ⟨w.heap.size, 8, none⟩ = some (.slice A.qa B.marks.length A.qc) ∧ w'.cell? ⟨w.heap.size, 9, none⟩ = some (.slice A.ra B.script.length A.rc) ∧ w'.cell? ⟨w.heap.size, 10, none⟩ = some (.slice A.la B.like.length A.lc) ∧ w'.cell? ⟨d, 0, none⟩ = some (.slice A1.na B.names.length A1.nc) ∧ w'.cell? ⟨d, 1, none⟩ = some (.slice A1.sa B.status.length A1.sc) ∧ w'.cell? ⟨d, 2, none⟩ = some (.slice A1.ma B.maps.length A1.mc) ∧ w'.cell? ⟨d, 3, none⟩ = some (.slice A1.ka B.cls.length A1.kc) ∧ w'.cell? ⟨d, 4, none⟩ = some (.slice A1.da B.decomp.length A1.dc) ∧ w'.cell? ⟨d, 5, none⟩ = some (.slice A1.xa B.excl.length A1.xc) ∧ w'.cell? ⟨d, 6, none⟩ = some (.slice A1.ba B.bidi.length A1.bc) ∧ w'.cell? ⟨d, 7, none⟩ = some (.slice A1.ja B.join.length A1.jc) ∧ w'.cell? ⟨d, 8, none⟩ = some (.slice A1.qa B.marks.length A1.qc) ∧ w'.cell? ⟨d, 9, none⟩ = some (.slice A1.ra B.script.length A1.rc) ∧ w'.cell? ⟨d, 10, none⟩ = some (.slice A1.la B.like.length A1.lc))
   (first | exact ⟨r0, r1, r2, r3, r4, r5, r6, r7, r8, r9, r10, s0, s1, s2, s3, s4, s5, s6, s7, s8, s9, s10⟩ | exact ⟨p0, p1, p2, p3, p4, p5, p6, p7, p8, p9, p10, q0, q1, q2, q3, q4, q5, q6, q7, q8, q9, q10⟩ | exact ⟨k0, k1, k2, k3, k4, k5, k6, k7, k8, k9, k10, j0, j1, j2, j3, j4, j5, j6, j7, j8, j9, j10⟩ | go_keep)
   ((first | (go_at_call 5; refine (COF.out _ (HL.out.below (HT5.out.next (drew_below _)).b.b)).mono ?_; rintro e w6 ⟨A2, rfl, hL6, hb6, _, _⟩; have HT6 := Lib.hid ((HT5.out.next (drew_below _)).next hb6); have HL6 := Lib.hid hL6; have p0 : w6.cell? ⟨w.heap.size, 0, none⟩ = some (.slice A.na B.names.length A.nc) := (block_cell (i := 0) HT6.out.b.x).trans rfl; have p1 : w6.cell? ⟨w.heap.size, 1, none⟩ = some (.slice A.sa B.status.length A.sc) := (block_cell (i := 1) HT6.out.b.x).trans rfl; have p2 : w6.cell? ⟨w.heap.size, 2, none⟩ = some (.slice A.ma B.maps.length A.mc) := (block_cell (i := 2) HT6.out.b.x).trans rfl; have p3 : w6.cell? ⟨w.heap.size, 3, none⟩ = some (.slice A.ka B.cls.length A.kc) := (block_cell (i := 3) HT6.out.b.x).trans rfl; have p4 : w6.cell? ⟨w.heap.size, 4, none⟩ = some (.slice A.da B.decomp.length A.dc) := (block_cell (i := 4) HT6.out.b.x).trans rfl; have p5 : w6.cell? ⟨w.heap.size, 5, none⟩ = some (.slice A.xa B.excl.length A.xc) := (block_cell (i := 5) HT6.out.b.x).trans rfl; have p6 : w6.cell? ⟨w.heap.size, 6, none⟩ = some (.slice A.ba B.bidi.length A.bc) := (block_cell (i := 6) HT6.out.b.x).trans rfl; have p7 : w6.cell? ⟨w.heap.size, 7, none⟩ = some (.slice A.ja B.join.length A.jc) := (block_cell (i := 7) HT6.out.b.x).trans rfl; have p8 : w6.cell? ⟨w.heap.size, 8, none⟩ = some (.slice A.qa B.marks.length A.qc) := (block_cell (i := 8) HT6.out.b.x).trans rfl; have p9 : w6.cell? ⟨w.heap.size, 9, none⟩ = some (.slice A.ra B.script.length A.rc) := (block_cell (i := 9) HT6.out.b.x).trans rfl; have p10 : w6.cell? ⟨w.heap.size, 10, none⟩ = some (.slice A.la B.like.length A.lc) := (block_cell (i := 10) HT6.out.b.x).trans rfl; have q0 : w6.cell? ⟨d, 0, none⟩ = some (.slice A1.na B.names.length A1.nc) := (block_cell (i := 0) HT6.out.t).trans rfl; have q1 : w6.cell? ⟨d, 1, none⟩ = some (.slice A1.sa B.status.length A1.sc) := (block_cell (i := 1) HT6.out.t).trans rfl; have q2 : w6.cell? ⟨d, 2, none⟩ = some (.slice A1.ma B.maps.length A1.mc) := (block_cell (i := 2) HT6.out.t).trans rfl; have q3 : w6.cell? ⟨d, 3, none⟩ = some (.slice A1.ka B.cls.length A1.kc) := (block_cell (i := 3) HT6.out.t).trans rfl; have q4 : w6.cell? ⟨d, 4, none⟩ = some (.slice A1.da B.decomp.length A1.dc) := (block_cell (i := 4) HT6.out.t).trans rfl; have q5 : w6.cell? ⟨d, 5, none⟩ = some (.slice A1.xa B.excl.length A1.xc) := (block_cell (i := 5) HT6.out.t).trans rfl; have q6 : w6.cell? ⟨d, 6, none⟩ = some (.slice A1.ba B.bidi.length A1.bc) := (block_cell (i := 6) HT6.out.t).trans rfl; have q7 : w6.cell? ⟨d, 7, none⟩ = some (.slice A1.ja B.join.length A1.jc) := (block_cell (i := 7) HT6.out.t).trans rfl; have q8 : w6.cell? ⟨d, 8, none⟩ = some (.slice A1.qa B.marks.length A1.qc) := (block_cell (i := 8) HT6.out.t).trans rfl; have q9 : w6.cell? ⟨d, 9, none⟩ = some (.slice A1.ra B.script.length A1.rc) := (block_cell (i := 9) HT6.out.t).trans rfl; have q10 : w6.cell? ⟨d, 10, none⟩ = some (.slice A1.la B.like.length A1.lc) := (block_cell (i := 10) HT6.out.t).trans rfl; clear hb6 hL6) | (go_at_call 8; refine (CSM.out A2 A1 _ HL6.out HT6.out.l).mono ?_; rintro e w7 ⟨rfl, hb7⟩; have HT7 := Lib.hid (HT6.out.next hb7); have r0 : w7.cell? ⟨w.heap.size, 0, none⟩ = some (.slice A.na B.names.length A.nc) := (block_cell (i := 0) HT7.out.b.x).trans rfl; have r1 : w7.cell? ⟨w.heap.size, 1, none⟩ = some (.slice A.sa B.status.length A.sc) := (block_cell (i := 1) HT7.out.b.x).trans rfl; have r2 : w7.cell? ⟨w.heap.size, 2, none⟩ = some (.slice A.ma B.maps.length A.mc) := (block_cell (i := 2) HT7.out.b.x).trans rfl; have r3 : w7.cell? ⟨w.heap.size, 3, none⟩ = some (.slice A.ka B.cls.length A.kc) := (block_cell (i := 3) HT7.out.b.x).trans rfl; have r4 : w7.cell? ⟨w.heap.size, 4, none⟩ = some (.slice A.da B.decomp.length A.dc) := (block_cell (i := 4) HT7.out.b.x).trans rfl; have r5 : w7.cell? ⟨w.heap.size, 5, none⟩ = some (.slice A.xa B.excl.length A.xc) := (block_cell (i := 5) HT7.out.b.x).trans rfl; have r6 : w7.cell? ⟨w.heap.size, 6, none⟩ = some (.slice A.ba B.bidi.length A.bc) := (block_cell (i := 6) HT7.out.b.x).trans rfl; have r7 : w7.cell? ⟨w.heap.size, 7, none⟩ = some (.slice A.ja B.join.length A.jc) := (block_cell (i := 7) HT7.out.b.x).trans rfl; have r8 : w7.cell? ⟨w.heap.size, 8, none⟩ = some (.slice A.qa B.marks.length A.qc) := (block_cell (i := 8) HT7.out.b.x).trans rfl; have r9 : w7.cell? ⟨w.heap.size, 9, none⟩ = some (.slice A.ra B.script.length A.rc) := (block_cell (i := 9) HT7.out.b.x).trans rfl; have r10 : w7.cell? ⟨w.heap.size, 10, none⟩ = some (.slice A.la B.like.length A.lc) := (block_cell (i := 10) HT7.out.b.x).trans rfl; have s0 : w7.cell? ⟨d, 0, none⟩ = some (.slice A1.na B.names.length A1.nc) := (block_cell (i := 0) HT7.out.t).trans rfl; have s1 : w7.cell? ⟨d, 1, none⟩ = some (.slice A1.sa B.status.length A1.sc) := (block_cell (i := 1) HT7.out.t).trans rfl; have s2 : w7.cell? ⟨d, 2, none⟩ = some (.slice A1.ma B.maps.length A1.mc) := (block_cell (i := 2) HT7.out.t).trans rfl; have s3 : w7.cell? ⟨d, 3, none⟩ = some (.slice A1.ka B.cls.length A1.kc) := (block_cell (i := 3) HT7.out.t).trans rfl; have s4 : w7.cell? ⟨d, 4, none⟩ = some (.slice A1.da B.decomp.length A1.dc) := (block_cell (i := 4) HT7.out.t).trans rfl; have s5 : w7.cell? ⟨d, 5, none⟩ = some (.slice A1.xa B.excl.length A1.xc) := (block_cell (i := 5) HT7.out.t).trans rfl; have s6 : w7.cell? ⟨d, 6, none⟩ = some (.slice A1.ba B.bidi.length A1.bc) := (block_cell (i := 6) HT7.out.t).trans rfl; have s7 : w7.cell? ⟨d, 7, none⟩ = some (.slice A1.ja B.join.length A1.jc) := (block_cell (i := 7) HT7.out.t).trans rfl; have s8 : w7.cell? ⟨d, 8, none⟩ = some (.slice A1.qa B.marks.length A1.qc) := (block_cell (i := 8) HT7.out.t).trans rfl; have s9 : w7.cell? ⟨d, 9, none⟩ = some (.slice A1.ra B.script.length A1.rc) := (block_cell (i := 9) HT7.out.t).trans rfl; have s10 : w7.cell? ⟨d, 10, none⟩ = some (.slice A1.la B.like.length A1.lc) := (block_cell (i := 10) HT7.out.t).trans rfl; clear hb7)))
  go_wp2_with fail
  go_ret
  exact ⟨rfl, HT7.out.b.b⟩
end Go.Proofs.YtgdambmineeboaaGreatDoor.Law10
