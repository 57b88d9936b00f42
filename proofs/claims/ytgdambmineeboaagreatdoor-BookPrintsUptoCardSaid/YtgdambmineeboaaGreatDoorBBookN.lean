/- The walk of the reference's Of at a book whose list of names is nil. -/
import Derived.Test.YtgdambmineeboaaGreatDoorBBook
set_option linter.unusedSimpArgs false
set_option linter.unusedVariables false
namespace Go.Proofs.YtgdambmineeboaaGreatDoor.Book
open Go.RowKit Go.Lib Go.Proofs.YtgdambmineeboaaGreatDoor.Text Go.Proofs.YtgdambmineeboaaGreatDoor.Runes Go.Proofs.YtgdambmineeboaaGreatDoor.Print Go.Proofs.YtgdambmineeboaaGreatDoor.RefNine Go.Proofs.YtgdambmineeboaaGreatDoor.RefPrint Go.Proofs.YtgdambmineeboaaGreatDoor.Format Go.Proofs.YtgdambmineeboaaGreatDoor.Tell Go.Proofs.YtgdambmineeboaaGreatDoor.Given Go.Proofs.YtgdambmineeboaaGreatDoor.Mem Go.Proofs.YtgdambmineeboaaGreatDoor.Of Go.Proofs.YtgdambmineeboaaGreatDoor.Lists

set_option maxRecDepth 100000 in
set_option maxHeartbeats 8000000 in
theorem of_nil (B : Mem.Book) (A : Ads) (w : World) (hs : Small B) (h0 : B.names = []) (hA : A.na = none)
    (hL : Lies w B A) :
    Calls Tryz.prog 5 #[bookV B A] w fun e w' => ∃ A', e = .returned (bookV B A') ∧ Lies w' B A' ∧ Below w.heap.size w w' ∧ B.names.length ≤ A'.nc ∧ B.decomp.length ≤ A'.dc := by
  obtain ⟨i0, hi, hz0, hz1, hz2⟩ := info_parts info_strs
  have hnl := hs.n
  have cs : ∀ W, Below w.heap.size w W → Calls Tryz.prog 13 #[.slice A.sa B.status.length A.sc] W fun e w' => ∃ a' c', e = .returned (.slice a' B.status.length c') ∧ Vals w' a' B.status ∧ Below W.heap.size W w' := fun W hW => values_any A.sa B.status A.sc W hs.s (hL.s.below hW)
  have cm : ∀ W, Below w.heap.size w W → Calls Tryz.prog 14 #[.slice A.ma B.maps.length A.mc] W fun e w' => ∃ a' c', e = .returned (.slice a' B.maps.length c') ∧ Chrs w' a' B.maps ∧ Below W.heap.size W w' := fun W hW => (lists_any A.ma B.maps A.mc W hs.m hs.mi (hL.m.below hW)).mono fun _ _ ⟨a', c', h1, h2, h3, _⟩ => ⟨a', c', h1, h2, h3⟩
  have ck : ∀ W, Below w.heap.size w W → Calls Tryz.prog 13 #[.slice A.ka B.cls.length A.kc] W fun e w' => ∃ a' c', e = .returned (.slice a' B.cls.length c') ∧ Vals w' a' B.cls ∧ Below W.heap.size W w' := fun W hW => values_any A.ka B.cls A.kc W hs.k (hL.k.below hW)
  have cd : ∀ W, Below w.heap.size w W → Calls Tryz.prog 14 #[.slice A.da B.decomp.length A.dc] W fun e w' => ∃ a' c', e = .returned (.slice a' B.decomp.length c') ∧ Chrs w' a' B.decomp ∧ Below W.heap.size W w' ∧ B.decomp.length ≤ c' := fun W hW => lists_any A.da B.decomp A.dc W hs.d hs.di (hL.d.below hW)
  have cx : ∀ W, Below w.heap.size w W → Calls Tryz.prog 15 #[.slice A.xa B.excl.length A.xc] W fun e w' => ∃ a' c', e = .returned (.slice a' B.excl.length c') ∧ Spns w' a' B.excl ∧ Below W.heap.size W w' := fun W hW => plain_any A.xa B.excl A.xc W hs.x (hL.x.below hW)
  have cb : ∀ W, Below w.heap.size w W → Calls Tryz.prog 13 #[.slice A.ba B.bidi.length A.bc] W fun e w' => ∃ a' c', e = .returned (.slice a' B.bidi.length c') ∧ Vals w' a' B.bidi ∧ Below W.heap.size W w' := fun W hW => values_any A.ba B.bidi A.bc W hs.b (hL.b.below hW)
  have cj : ∀ W, Below w.heap.size w W → Calls Tryz.prog 13 #[.slice A.ja B.join.length A.jc] W fun e w' => ∃ a' c', e = .returned (.slice a' B.join.length c') ∧ Vals w' a' B.join ∧ Below W.heap.size W w' := fun W hW => values_any A.ja B.join A.jc W hs.j (hL.j.below hW)
  have cq : ∀ W, Below w.heap.size w W → Calls Tryz.prog 15 #[.slice A.qa B.marks.length A.qc] W fun e w' => ∃ a' c', e = .returned (.slice a' B.marks.length c') ∧ Spns w' a' B.marks ∧ Below W.heap.size W w' := fun W hW => plain_any A.qa B.marks A.qc W hs.q (hL.q.below hW)
  have cr : ∀ W, Below w.heap.size w W → Calls Tryz.prog 13 #[.slice A.ra B.script.length A.rc] W fun e w' => ∃ a' c', e = .returned (.slice a' B.script.length c') ∧ Vals w' a' B.script ∧ Below W.heap.size W w' := fun W hW => values_any A.ra B.script A.rc W hs.r (hL.r.below hW)
  have cl : ∀ W, Below w.heap.size w W → Calls Tryz.prog 14 #[.slice A.la B.like.length A.lc] W fun e w' => ∃ a' c', e = .returned (.slice a' B.like.length c') ∧ Chrs w' a' B.like ∧ Below W.heap.size W w' := fun W hW => (lists_any A.la B.like A.lc W hs.l hs.li (hL.l.below hW)).mono fun _ _ ⟨a', c', h1, h2, h3, _⟩ => ⟨a', c', h1, h2, h3⟩
  have Cs := Lib.hid cs
  have Cm := Lib.hid cm
  have Ck := Lib.hid ck
  have Cd := Lib.hid cd
  have Cx := Lib.hid cx
  have Cb := Lib.hid cb
  have Cj := Lib.hid cj
  have Cq := Lib.hid cq
  have Cr := Lib.hid cr
  have Cl := Lib.hid cl
  clear cs cm ck cd cx cb cj cq cr cl hL
  unfold bookV
  rw [hA]
  have hn0 : B.names.length = 0 := by rw [h0]; rfl
  rw [hn0]
  have hbW : Below w.heap.size w (((w.alloc (.cells #[.slice none 0 A.nc, .slice A.sa B.status.length A.sc, .slice A.ma B.maps.length A.mc, .slice A.ka B.cls.length A.kc, .slice A.da B.decomp.length A.dc, .slice A.xa B.excl.length A.xc, .slice A.ba B.bidi.length A.bc, .slice A.ja B.join.length A.jc, .slice A.qa B.marks.length A.qc, .slice A.ra B.script.length A.rc, .slice A.la B.like.length A.lc] 27 (0, 0))).alloc (.cells #[.slice none 0 0, .slice none 0 0, .slice none 0 0, .slice none 0 0, .slice none 0 0, .slice none 0 0, .slice none 0 0, .slice none 0 0, .slice none 0 0, .slice none 0 0, .slice none 0 0] 33 (0, 0))).alloc (.cells #[] 9 (0, 0))).drew := ((((Below.refl _ _).alloc (Nat.le_refl _) _).alloc (by simp) _).alloc (by simp; omega) _).drew
  have hres1 : (((w.alloc (.cells #[.slice none 0 A.nc, .slice A.sa B.status.length A.sc, .slice A.ma B.maps.length A.mc, .slice A.ka B.cls.length A.kc, .slice A.da B.decomp.length A.dc, .slice A.xa B.excl.length A.xc, .slice A.ba B.bidi.length A.bc, .slice A.ja B.join.length A.jc, .slice A.qa B.marks.length A.qc, .slice A.ra B.script.length A.rc, .slice A.la B.like.length A.lc] 27 (0, 0))).alloc (.cells #[.slice none 0 0, .slice none 0 0, .slice none 0 0, .slice none 0 0, .slice none 0 0, .slice none 0 0, .slice none 0 0, .slice none 0 0, .slice none 0 0, .slice none 0 0, .slice none 0 0] 33 (0, 0))).alloc (.cells #[] 9 (0, 0))).drew.heap[w.heap.size + 1]? = some (.cells #[.slice none 0 0, .slice none 0 0, .slice none 0 0, .slice none 0 0, .slice none 0 0, .slice none 0 0, .slice none 0 0, .slice none 0 0, .slice none 0 0, .slice none 0 0, .slice none 0 0] 33 (0, 0)) := by
    have h1 := heap_alloc_new (w.alloc (.cells #[.slice none 0 A.nc, .slice A.sa B.status.length A.sc, .slice A.ma B.maps.length A.mc, .slice A.ka B.cls.length A.kc, .slice A.da B.decomp.length A.dc, .slice A.xa B.excl.length A.xc, .slice A.ba B.bidi.length A.bc, .slice A.ja B.join.length A.jc, .slice A.qa B.marks.length A.qc, .slice A.ra B.script.length A.rc, .slice A.la B.like.length A.lc] 27 (0, 0))) (.cells #[.slice none 0 0, .slice none 0 0, .slice none 0 0, .slice none 0 0, .slice none 0 0, .slice none 0 0, .slice none 0 0, .slice none 0 0, .slice none 0 0, .slice none 0 0, .slice none 0 0] 33 (0, 0))
    rw [World.size_alloc] at h1
    exact (heap_alloc_old ((w.alloc (.cells #[.slice none 0 A.nc, .slice A.sa B.status.length A.sc, .slice A.ma B.maps.length A.mc, .slice A.ka B.cls.length A.kc, .slice A.da B.decomp.length A.dc, .slice A.xa B.excl.length A.xc, .slice A.ba B.bidi.length A.bc, .slice A.ja B.join.length A.jc, .slice A.qa B.marks.length A.qc, .slice A.ra B.script.length A.rc, .slice A.la B.like.length A.lc] 27 (0, 0))).alloc (.cells #[.slice none 0 0, .slice none 0 0, .slice none 0 0, .slice none 0 0, .slice none 0 0, .slice none 0 0, .slice none 0 0, .slice none 0 0, .slice none 0 0, .slice none 0 0, .slice none 0 0] 33 (0, 0))) _ (by simp)).trans h1
  have hb00 := hbW
  have hr0 := hres1
  have hs0 := block_lt hr0
  have hlt1 := Nat.lt_of_succ_lt hs0
  have hst0 : Strs (((w.alloc (.cells #[.slice none 0 A.nc, .slice A.sa B.status.length A.sc, .slice A.ma B.maps.length A.mc, .slice A.ka B.cls.length A.kc, .slice A.da B.decomp.length A.dc, .slice A.xa B.excl.length A.xc, .slice A.ba B.bidi.length A.bc, .slice A.ja B.join.length A.jc, .slice A.qa B.marks.length A.qc, .slice A.ra B.script.length A.rc, .slice A.la B.like.length A.lc] 27 (0, 0))).alloc (.cells #[.slice none 0 0, .slice none 0 0, .slice none 0 0, .slice none 0 0, .slice none 0 0, .slice none 0 0, .slice none 0 0, .slice none 0 0, .slice none 0 0, .slice none 0 0, .slice none 0 0] 33 (0, 0))).alloc (.cells #[] 9 (0, 0))).drew (some ⟨w.heap.size + 2, 0, none⟩) B.names := .inl h0
  clear hbW hres1
  go_enter Tryz.func5, Tryz.ntmps5
  go_wp2_with fail
  go_region_held3 (fun w' => w'.cell? ⟨w.heap.size, 0, none⟩ = some (.slice none 0 A.nc) ∧ w'.cell? ⟨w.heap.size, 1, none⟩ = some (.slice A.sa B.status.length A.sc) ∧ w'.cell? ⟨w.heap.size, 2, none⟩ = some (.slice A.ma B.maps.length A.mc) ∧ w'.cell? ⟨w.heap.size, 3, none⟩ = some (.slice A.ka B.cls.length A.kc) ∧ w'.cell? ⟨w.heap.size, 4, none⟩ = some (.slice A.da B.decomp.length A.dc) ∧ w'.cell? ⟨w.heap.size, 5, none⟩ = some (.slice A.xa B.excl.length A.xc) ∧ w'.cell? ⟨w.heap.size, 6, none⟩ = some (.slice A.ba B.bidi.length A.bc) ∧ w'.cell? ⟨w.heap.size, 7, none⟩ = some (.slice A.ja B.join.length A.jc) ∧ w'.cell? ⟨w.heap.size, 8, none⟩ = some (.slice A.qa B.marks.length A.qc) ∧ w'.cell? ⟨w.heap.size, 9, none⟩ = some (.slice A.ra B.script.length A.rc) ∧ w'.cell? ⟨w.heap.size, 10, none⟩ = some (.slice A.la B.like.length A.lc))
    (first
      | go_keep
      | (go_split_ands
         refine ⟨?_, ?_, ?_, ?_, ?_, ?_, ?_, ?_, ?_, ?_, ?_⟩ <;> (rw [hb10.cell (by first | exact hlt10 | skip)]; assumption))
      | (go_split_ands
         refine ⟨?_, ?_, ?_, ?_, ?_, ?_, ?_, ?_, ?_, ?_, ?_⟩ <;> (rw [hb9.cell (by first | exact hlt9 | skip)]; assumption))
      | (go_split_ands
         refine ⟨?_, ?_, ?_, ?_, ?_, ?_, ?_, ?_, ?_, ?_, ?_⟩ <;> (rw [hb8.cell (by first | exact hlt8 | skip)]; assumption))
      | (go_split_ands
         refine ⟨?_, ?_, ?_, ?_, ?_, ?_, ?_, ?_, ?_, ?_, ?_⟩ <;> (rw [hb7.cell (by first | exact hlt7 | skip)]; assumption))
      | (go_split_ands
         refine ⟨?_, ?_, ?_, ?_, ?_, ?_, ?_, ?_, ?_, ?_, ?_⟩ <;> (rw [hb6.cell (by first | exact hlt6 | skip)]; assumption))
      | (go_split_ands
         refine ⟨?_, ?_, ?_, ?_, ?_, ?_, ?_, ?_, ?_, ?_, ?_⟩ <;> (rw [hb5.cell (by first | exact hlt5 | skip)]; assumption))
      | (go_split_ands
         refine ⟨?_, ?_, ?_, ?_, ?_, ?_, ?_, ?_, ?_, ?_, ?_⟩ <;> (rw [hb4.cell (by first | exact hlt4 | skip)]; assumption))
      | (go_split_ands
         refine ⟨?_, ?_, ?_, ?_, ?_, ?_, ?_, ?_, ?_, ?_, ?_⟩ <;> (rw [hb3.cell (by first | exact hlt3 | skip)]; assumption))
      | (go_split_ands
         refine ⟨?_, ?_, ?_, ?_, ?_, ?_, ?_, ?_, ?_, ?_, ?_⟩ <;> (rw [hb2.cell (by first | exact hlt2 | skip)]; assumption))
      | (go_split_ands
         refine ⟨?_, ?_, ?_, ?_, ?_, ?_, ?_, ?_, ?_, ?_, ?_⟩ <;> (rw [hb1.cell (by first | exact hlt1 | skip)]; assumption)))
    ((first
      | (go_at_call_of 13 B.status
         refine (Cs.out _ hb00).mono ?_
         rintro e w1 ⟨a1, c1, rfl, ks1, hb1⟩
         have hb01 := hb00.trans (hb1.mono hb00.size)
         have hr1 := (hb1.block _ hs0).trans hr0
         have hs1 := block_lt hr1
         have hst1 := hst0.below hb1
         have hlt2 : w.heap.size < w1.heap.size := by omega)
      | (go_at_call_of 14 B.maps
         refine (Cm.out _ hb01).mono ?_
         rintro e w2 ⟨a2, c2, rfl, km2, hb2⟩
         have hb02 := hb01.trans (hb2.mono hb01.size)
         have hr2 := (hb2.block _ hs1).trans hr1
         have hs2 := block_lt hr2
         have hst2 := hst1.below hb2
         have ks2 := ks1.below hb2
         have hlt3 : w.heap.size < w2.heap.size := by omega)
      | (go_at_call_of 13 B.cls
         refine (Ck.out _ hb02).mono ?_
         rintro e w3 ⟨a3, c3, rfl, kk3, hb3⟩
         have hb03 := hb02.trans (hb3.mono hb02.size)
         have hr3 := (hb3.block _ hs2).trans hr2
         have hs3 := block_lt hr3
         have hst3 := hst2.below hb3
         have ks3 := ks2.below hb3
         have km3 := km2.below hb3
         have hlt4 : w.heap.size < w3.heap.size := by omega)
      | (go_at_call_of 14 B.decomp
         refine (Cd.out _ hb03).mono ?_
         rintro e w4 ⟨a4, c4, rfl, kd4, hb4, hcd0⟩
         have HCD := Lib.hid hcd0
         clear hcd0
         have hb04 := hb03.trans (hb4.mono hb03.size)
         have hr4 := (hb4.block _ hs3).trans hr3
         have hs4 := block_lt hr4
         have hst4 := hst3.below hb4
         have ks4 := ks3.below hb4
         have km4 := km3.below hb4
         have kk4 := kk3.below hb4
         have hlt5 : w.heap.size < w4.heap.size := by omega)
      | (go_at_call_of 15 B.excl
         refine (Cx.out _ hb04).mono ?_
         rintro e w5 ⟨a5, c5, rfl, kx5, hb5⟩
         have hb05 := hb04.trans (hb5.mono hb04.size)
         have hr5 := (hb5.block _ hs4).trans hr4
         have hs5 := block_lt hr5
         have hst5 := hst4.below hb5
         have ks5 := ks4.below hb5
         have km5 := km4.below hb5
         have kk5 := kk4.below hb5
         have kd5 := kd4.below hb5
         have hlt6 : w.heap.size < w5.heap.size := by omega)
      | (go_at_call_of 13 B.bidi
         refine (Cb.out _ hb05).mono ?_
         rintro e w6 ⟨a6, c6, rfl, kb6, hb6⟩
         have hb06 := hb05.trans (hb6.mono hb05.size)
         have hr6 := (hb6.block _ hs5).trans hr5
         have hs6 := block_lt hr6
         have hst6 := hst5.below hb6
         have ks6 := ks5.below hb6
         have km6 := km5.below hb6
         have kk6 := kk5.below hb6
         have kd6 := kd5.below hb6
         have kx6 := kx5.below hb6
         have hlt7 : w.heap.size < w6.heap.size := by omega)
      | (go_at_call_of 13 B.join
         refine (Cj.out _ hb06).mono ?_
         rintro e w7 ⟨a7, c7, rfl, kj7, hb7⟩
         have hb07 := hb06.trans (hb7.mono hb06.size)
         have hr7 := (hb7.block _ hs6).trans hr6
         have hs7 := block_lt hr7
         have hst7 := hst6.below hb7
         have ks7 := ks6.below hb7
         have km7 := km6.below hb7
         have kk7 := kk6.below hb7
         have kd7 := kd6.below hb7
         have kx7 := kx6.below hb7
         have kb7 := kb6.below hb7
         have hlt8 : w.heap.size < w7.heap.size := by omega)
      | (go_at_call_of 15 B.marks
         refine (Cq.out _ hb07).mono ?_
         rintro e w8 ⟨a8, c8, rfl, kq8, hb8⟩
         have hb08 := hb07.trans (hb8.mono hb07.size)
         have hr8 := (hb8.block _ hs7).trans hr7
         have hs8 := block_lt hr8
         have hst8 := hst7.below hb8
         have ks8 := ks7.below hb8
         have km8 := km7.below hb8
         have kk8 := kk7.below hb8
         have kd8 := kd7.below hb8
         have kx8 := kx7.below hb8
         have kb8 := kb7.below hb8
         have kj8 := kj7.below hb8
         have hlt9 : w.heap.size < w8.heap.size := by omega)
      | (go_at_call_of 13 B.script
         refine (Cr.out _ hb08).mono ?_
         rintro e w9 ⟨a9, c9, rfl, kr9, hb9⟩
         have hb09 := hb08.trans (hb9.mono hb08.size)
         have hr9 := (hb9.block _ hs8).trans hr8
         have hs9 := block_lt hr9
         have hst9 := hst8.below hb9
         have ks9 := ks8.below hb9
         have km9 := km8.below hb9
         have kk9 := kk8.below hb9
         have kd9 := kd8.below hb9
         have kx9 := kx8.below hb9
         have kb9 := kb8.below hb9
         have kj9 := kj8.below hb9
         have kq9 := kq8.below hb9
         have hlt10 : w.heap.size < w9.heap.size := by omega)
      | (go_at_call_of 14 B.like
         refine (Cl.out _ hb09).mono ?_
         rintro e w10 ⟨a10, c10, rfl, kl10, hb10⟩
         have hb010 := hb09.trans (hb10.mono hb09.size)
         have hr10 := (hb10.block _ hs9).trans hr9
         have hs10 := block_lt hr10
         have hst10 := hst9.below hb10
         have ks10 := ks9.below hb10
         have km10 := km9.below hb10
         have kk10 := kk9.below hb10
         have kd10 := kd9.below hb10
         have kx10 := kx9.below hb10
         have kb10 := kb9.below hb10
         have kj10 := kj9.below hb10
         have kq10 := kq9.below hb10
         have kr10 := kr9.below hb10
         have hlt11 : w.heap.size < w10.heap.size := by omega
         have f0 := block_free (i := 0) hr10
         have r0 : w10.cell? ⟨w.heap.size + 1, 0, none⟩ = some (.slice none 0 0) := (block_cell (i := 0) hr10).trans rfl
         have f1 := block_free (i := 1) hr10
         have r1 : w10.cell? ⟨w.heap.size + 1, 1, none⟩ = some (.slice none 0 0) := (block_cell (i := 1) hr10).trans rfl
         have f2 := block_free (i := 2) hr10
         have r2 : w10.cell? ⟨w.heap.size + 1, 2, none⟩ = some (.slice none 0 0) := (block_cell (i := 2) hr10).trans rfl
         have f3 := block_free (i := 3) hr10
         have r3 : w10.cell? ⟨w.heap.size + 1, 3, none⟩ = some (.slice none 0 0) := (block_cell (i := 3) hr10).trans rfl
         have f4 := block_free (i := 4) hr10
         have r4 : w10.cell? ⟨w.heap.size + 1, 4, none⟩ = some (.slice none 0 0) := (block_cell (i := 4) hr10).trans rfl
         have f5 := block_free (i := 5) hr10
         have r5 : w10.cell? ⟨w.heap.size + 1, 5, none⟩ = some (.slice none 0 0) := (block_cell (i := 5) hr10).trans rfl
         have f6 := block_free (i := 6) hr10
         have r6 : w10.cell? ⟨w.heap.size + 1, 6, none⟩ = some (.slice none 0 0) := (block_cell (i := 6) hr10).trans rfl
         have f7 := block_free (i := 7) hr10
         have r7 : w10.cell? ⟨w.heap.size + 1, 7, none⟩ = some (.slice none 0 0) := (block_cell (i := 7) hr10).trans rfl
         have f8 := block_free (i := 8) hr10
         have r8 : w10.cell? ⟨w.heap.size + 1, 8, none⟩ = some (.slice none 0 0) := (block_cell (i := 8) hr10).trans rfl
         have f9 := block_free (i := 9) hr10
         have r9 : w10.cell? ⟨w.heap.size + 1, 9, none⟩ = some (.slice none 0 0) := (block_cell (i := 9) hr10).trans rfl
         have f10 := block_free (i := 10) hr10
         have r10 : w10.cell? ⟨w.heap.size + 1, 10, none⟩ = some (.slice none 0 0) := (block_cell (i := 10) hr10).trans rfl)))
  have hset := set11 w10 (w.heap.size + 1) (.slice none 0 0) (.slice none 0 0) (.slice none 0 0) (.slice none 0 0) (.slice none 0 0) (.slice none 0 0) (.slice none 0 0) (.slice none 0 0) (.slice none 0 0) (.slice none 0 0) (.slice none 0 0) (.slice (some ⟨w.heap.size + 2, 0, none⟩) 0 0) (.slice a1 B.status.length c1) (.slice a2 B.maps.length c2) (.slice a3 B.cls.length c3) (.slice a4 B.decomp.length c4) (.slice a5 B.excl.length c5) (.slice a6 B.bidi.length c6) (.slice a7 B.join.length c7) (.slice a8 B.marks.length c8) (.slice a9 B.script.length c9) (.slice a10 B.like.length c10) 33 hr10
  obtain ⟨hfin, hoth, hbel⟩ := hset
  have hbf := hbel _ _ hb010 (Nat.le_succ _)
  clear hbel
  go_wp2_with fail
  generalize (((((((((((w10.setCell ⟨w.heap.size + 1, 0, none⟩ (.slice (some ⟨w.heap.size + 2, 0, none⟩) 0 0)).setCell ⟨w.heap.size + 1, 1, none⟩ (.slice a1 B.status.length c1)).setCell ⟨w.heap.size + 1, 2, none⟩ (.slice a2 B.maps.length c2)).setCell ⟨w.heap.size + 1, 3, none⟩ (.slice a3 B.cls.length c3)).setCell ⟨w.heap.size + 1, 4, none⟩ (.slice a4 B.decomp.length c4)).setCell ⟨w.heap.size + 1, 5, none⟩ (.slice a5 B.excl.length c5)).setCell ⟨w.heap.size + 1, 6, none⟩ (.slice a6 B.bidi.length c6)).setCell ⟨w.heap.size + 1, 7, none⟩ (.slice a7 B.join.length c7)).setCell ⟨w.heap.size + 1, 8, none⟩ (.slice a8 B.marks.length c8)).setCell ⟨w.heap.size + 1, 9, none⟩ (.slice a9 B.script.length c9)).setCell ⟨w.heap.size + 1, 10, none⟩ (.slice a10 B.like.length c10)) = W2 at *

  have z0 : W2.cell? ⟨w.heap.size + 1, 0, none⟩ = some (.slice (some ⟨w.heap.size + 2, 0, none⟩) 0 0) := (block_cell (i := 0) hfin).trans rfl
  have z1 : W2.cell? ⟨w.heap.size + 1, 1, none⟩ = some (.slice a1 B.status.length c1) := (block_cell (i := 1) hfin).trans rfl
  have z2 : W2.cell? ⟨w.heap.size + 1, 2, none⟩ = some (.slice a2 B.maps.length c2) := (block_cell (i := 2) hfin).trans rfl
  have z3 : W2.cell? ⟨w.heap.size + 1, 3, none⟩ = some (.slice a3 B.cls.length c3) := (block_cell (i := 3) hfin).trans rfl
  have z4 : W2.cell? ⟨w.heap.size + 1, 4, none⟩ = some (.slice a4 B.decomp.length c4) := (block_cell (i := 4) hfin).trans rfl
  have z5 : W2.cell? ⟨w.heap.size + 1, 5, none⟩ = some (.slice a5 B.excl.length c5) := (block_cell (i := 5) hfin).trans rfl
  have z6 : W2.cell? ⟨w.heap.size + 1, 6, none⟩ = some (.slice a6 B.bidi.length c6) := (block_cell (i := 6) hfin).trans rfl
  have z7 : W2.cell? ⟨w.heap.size + 1, 7, none⟩ = some (.slice a7 B.join.length c7) := (block_cell (i := 7) hfin).trans rfl
  have z8 : W2.cell? ⟨w.heap.size + 1, 8, none⟩ = some (.slice a8 B.marks.length c8) := (block_cell (i := 8) hfin).trans rfl
  have z9 : W2.cell? ⟨w.heap.size + 1, 9, none⟩ = some (.slice a9 B.script.length c9) := (block_cell (i := 9) hfin).trans rfl
  have z10 : W2.cell? ⟨w.heap.size + 1, 10, none⟩ = some (.slice a10 B.like.length c10) := (block_cell (i := 10) hfin).trans rfl
  have hsz2 : w10.heap.size ≤ W2.heap.size := size_other hr10 hfin hoth
  refine bodyPost_ret (v := .agg #[.slice (some ⟨w.heap.size + 2, 0, none⟩) 0 0, .slice a1 B.status.length c1, .slice a2 B.maps.length c2, .slice a3 B.cls.length c3, .slice a4 B.decomp.length c4, .slice a5 B.excl.length c5, .slice a6 B.bidi.length c6, .slice a7 B.join.length c7, .slice a8 B.marks.length c8, .slice a9 B.script.length c9, .slice a10 B.like.length c10]) ?_ rfl ⟨⟨some ⟨w.heap.size + 2, 0, none⟩, 0, a1, c1, a2, c2, a3, c3, a4, c4, a5, c5, a6, c6, a7, c7, a8, c8, a9, c9, a10, c10⟩, rfl, ⟨strs_other hst10 hr10 hoth hsz2, tab_other ks10 hr10 first_val hoth hsz2, chrs_other km10 hr10 hoth hsz2, tab_other kk10 hr10 first_val hoth hsz2, chrs_other kd10 hr10 hoth hsz2, tab_other kx10 hr10 first_spn hoth hsz2, tab_other kb10 hr10 first_val hoth hsz2, tab_other kj10 hr10 first_val hoth hsz2, tab_other kq10 hr10 first_spn hoth hsz2, tab_other kr10 hr10 first_val hoth hsz2, chrs_other kl10 hr10 hoth hsz2⟩, hbf, Nat.zero_le _, HCD.out⟩
  simp [results, Tryz.results5, go_sem, z0, z1, z2, z3, z4, z5, z6, z7, z8, z9, z10]
end Go.Proofs.YtgdambmineeboaaGreatDoor.Book
