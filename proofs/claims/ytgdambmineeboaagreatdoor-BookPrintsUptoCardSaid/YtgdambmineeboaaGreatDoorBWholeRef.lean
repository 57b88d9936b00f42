/- The walk of the reference's whole. -/
import Derived.Test.YtgdambmineeboaaGreatDoorBLong
import Derived.Deep.QuietTactic
import Derived.BigQuiet
set_option linter.unusedSimpArgs false
set_option linter.unusedVariables false
namespace Go.Proofs.YtgdambmineeboaaGreatDoor.WholeRef
open Go.RowKit Go.Lib Go.Proofs.YtgdambmineeboaaGreatDoor.Text Go.Proofs.YtgdambmineeboaaGreatDoor.Runes Go.Proofs.YtgdambmineeboaaGreatDoor.Print Go.Proofs.YtgdambmineeboaaGreatDoor.RefNine Go.Proofs.YtgdambmineeboaaGreatDoor.RefPrint Go.Proofs.YtgdambmineeboaaGreatDoor.Format Go.Proofs.YtgdambmineeboaaGreatDoor.Tell Go.Proofs.YtgdambmineeboaaGreatDoor.Given Go.Proofs.YtgdambmineeboaaGreatDoor.Mem Go.Proofs.YtgdambmineeboaaGreatDoor.Book Go.Proofs.YtgdambmineeboaaGreatDoor.Chars Go.Proofs.YtgdambmineeboaaGreatDoor.Parts Go.Proofs.YtgdambmineeboaaGreatDoor.Full Go.Proofs.YtgdambmineeboaaGreatDoor.Long

theorem drawn {n : Nat} {a b : World} (h : Below n a b) (m : Nat) : Below n a (b.drewN m) := h.trans ⟨rfl, rfl, rfl, Nat.le_refl _, fun _ _ => rfl⟩
/-- Have two rows the same two parts? -/
def samePair (x y : List Int) : Bool := decide (x.length = 2) && decide (y.length = 2) && decide (x[0]? = y[0]?) && decide (x[1]? = y[1]?)
/-- May a row stand there, the whole being looked at? -/
def OkW (D : List Chr) (i : Nat) : Prop := ∀ x, D[i]? = some x → longF D (D.length + 1) x.a ≤ 18 ∧ ∀ j y, j < i → D[j]? = some y → samePair x.is y.is = false
def WholeOk (D : List Chr) : Prop := ∀ i, i < D.length → OkW D i

set_option maxRecDepth 100000 in
set_option maxHeartbeats 1000000 in
theorem whole_any (B : Mem.Book) (A : Ads) (w : World) (hs : Small B) (hL : Lies w B A) (hcap : B.decomp.length ≤ A.dc) :
    Calls Tryz.prog 89 #[bookV B A] w fun e w' => ∃ r, e = .returned (.int .i64 r) ∧ (0 ≤ r ↔ ¬ WholeOk B.decomp) ∧ Below w.heap.size w w' := by
  have HLG : Hid (∀ (p : Int) W, Below w.heap.size w W → Calls Tryz.prog 144 #[bookV B A, .int .i32 p, .int .i64 0] W fun e w' => e = .returned (.int .i64 (longF B.decomp (B.decomp.length + 1) p : Int)) ∧ Below W.heap.size W w') := Lib.hid (fun p W hW => long_any B A hs (B.decomp.length + 1) p 0 W (by omega) (hL.below hW))
  have HB0 := Lib.hid ((Below.refl w.heap.size w).alloc (Nat.le_refl _) (boxCells B A))
  have hbx0 := Lib.hid (heap_alloc_new w (boxCells B A))
  unfold boxCells at HB0 hbx0
  have hd := hs.d
  have hdi := Lib.hid hs.di
  obtain ⟨rs, t1, p1, n1⟩ := hL.d
  have hrl : B.decomp.length = rs.length := by rw [← p1, List.length_map]
  have HV := Lib.hid t1
  have HP := Lib.hid p1
  have HN := Lib.hid n1
  clear hL t1 p1 n1
  unfold bookV at *
  generalize A.da = da at *
  generalize hD : B.decomp.length = n at *
  have HD := Lib.hid hD
  have HRL := Lib.hid hrl
  clear hD hrl
  go_enter Tryz.func89, Tryz.ntmps89
  go_wp2_with fail
  go_loopw [10] (fun v w' => ∃ (i : Nat), v = .int .i64 i ∧ i ≤ n ∧ Hid (∀ j, j < i → OkW B.decomp j) ∧ Below w.heap.size w w' ∧ Hid (w'.heap[w.heap.size]? = some (.cells #[.slice A.na B.names.length A.nc, .slice A.sa B.status.length A.sc, .slice A.ma B.maps.length A.mc, .slice A.ka B.cls.length A.kc, .slice da n A.dc, .slice A.xa B.excl.length A.xc, .slice A.ba B.bidi.length A.bc, .slice A.ja B.join.length A.jc, .slice A.qa B.marks.length A.qc, .slice A.ra B.script.length A.rc, .slice A.la B.like.length A.lc] 33 (0, 0))) ∧ w.heap.size < w'.heap.size) (fun v _ => n - (intOf v).toNat)
  case atStart => exact ⟨0, rfl, Nat.zero_le _, Lib.hid (fun j h => by omega), HB0.out, hbx0, by simp⟩
  case round =>
    obtain ⟨i, rfl, hi, hok, hb, hx0, hlw⟩ := hrel
    by_cases hlt : i < n
    · obtain ⟨x, hx⟩ : ∃ x, rs[i]? = some x := ⟨_, List.getElem?_eq_getElem (by have := HRL.out; omega)⟩
      rcases HV.out.below hb with h0 | ⟨bk, o, rfl, hbk, hc⟩
      · rw [h0] at hx; simp at hx
      obtain ⟨q0, q1, q2⟩ := raws_at (hc i x hx)
      have hDx : B.decomp[i]? = some x.plain := by rw [← HP.out, List.getElem?_map, hx]; rfl
      have HDX := Lib.hid hDx
      have HX := Lib.hid hx
      have hbx := hb.alloc hb.size (.cells #[.int .i32 x.a, .int .i32 x.b, .slice x.ad x.is.length x.cap] 95 (0, 0))
      have hblk := Lib.hid (heap_alloc_new wr (.cells #[.int .i32 x.a, .int .i32 x.b, .slice x.ad x.is.length x.cap] 95 (0, 0)))
      have HC := Lib.hid (HLG.out x.a _ hbx)
      clear hc hDx hx
      have hal := Lib.hid ((Below.refl wr.heap.size wr).alloc (Nat.le_refl _) (.cells #[.int .i32 x.a, .int .i32 x.b, .slice x.ad x.is.length x.cap] 95 (0, 0)))
      generalize hmm : longF B.decomp (n + 1) x.a = m at *
      have HM := Lib.hid hmm
      clear hmm
      have hncap : i ≤ A.dc := by omega
      have hno1 : 18 < m → ¬ WholeOk B.decomp := fun h hw => by
        have := (hw i (by rw [HD.out]; exact hlt) x.plain HDX.out).1
        rw [HD.out] at this
        exact absurd (Nat.lt_of_lt_of_le h (HM.out ▸ this)) (by omega)
      have HNO1 := Lib.hid hno1
      clear hno1
      have k0 : wr.cell? ⟨w.heap.size, 0, none⟩ = some (.slice A.na B.names.length A.nc) := (block_cell (i := 0) hx0.out).trans rfl
      have k1 : wr.cell? ⟨w.heap.size, 1, none⟩ = some (.slice A.sa B.status.length A.sc) := (block_cell (i := 1) hx0.out).trans rfl
      have k2 : wr.cell? ⟨w.heap.size, 2, none⟩ = some (.slice A.ma B.maps.length A.mc) := (block_cell (i := 2) hx0.out).trans rfl
      have k3 : wr.cell? ⟨w.heap.size, 3, none⟩ = some (.slice A.ka B.cls.length A.kc) := (block_cell (i := 3) hx0.out).trans rfl
      have k4 : wr.cell? ⟨w.heap.size, 4, none⟩ = some (.slice (some ⟨bk, o, none⟩) n A.dc) := (block_cell (i := 4) hx0.out).trans rfl
      have k5 : wr.cell? ⟨w.heap.size, 5, none⟩ = some (.slice A.xa B.excl.length A.xc) := (block_cell (i := 5) hx0.out).trans rfl
      have k6 : wr.cell? ⟨w.heap.size, 6, none⟩ = some (.slice A.ba B.bidi.length A.bc) := (block_cell (i := 6) hx0.out).trans rfl
      have k7 : wr.cell? ⟨w.heap.size, 7, none⟩ = some (.slice A.ja B.join.length A.jc) := (block_cell (i := 7) hx0.out).trans rfl
      have k8 : wr.cell? ⟨w.heap.size, 8, none⟩ = some (.slice A.qa B.marks.length A.qc) := (block_cell (i := 8) hx0.out).trans rfl
      have k9 : wr.cell? ⟨w.heap.size, 9, none⟩ = some (.slice A.ra B.script.length A.rc) := (block_cell (i := 9) hx0.out).trans rfl
      have k10 : wr.cell? ⟨w.heap.size, 10, none⟩ = some (.slice A.la B.like.length A.lc) := (block_cell (i := 10) hx0.out).trans rfl
      by_cases hm : 18 < m
      · go_wp2_with (go_at_call 144; refine HC.out.mono ?_; rintro e w2 ⟨rfl, hb2⟩)
        go_ret
        exact ⟨i, rfl, ⟨fun _ => HNO1.out hm, fun _ => by omega⟩, hbx.trans (hb2.mono hbx.size)⟩
      · go_wp2_with (go_at_call 144; refine HC.out.mono ?_; rintro e w2 ⟨rfl, hb2⟩; have b4 : w2.cell? ⟨w.heap.size, 4, none⟩ = some (.slice (some ⟨bk, o, none⟩) n A.dc) := (hb2.cell (p := ⟨w.heap.size, 4, none⟩) (by simp; omega)).trans ((hal.out.cell (p := ⟨w.heap.size, 4, none⟩) hlw).trans k4))
        have hbW2 : Below w.heap.size w w2 := hbx.trans (hb2.mono hbx.size)
        have hx2 := Lib.hid ((hb2.block _ (by simp; omega)).trans ((hal.out.block _ hlw).trans hx0.out))
        have hxb2 := Lib.hid ((hb2.block _ (by simp)).trans hblk.out)
        have hlw2 : w.heap.size < w2.heap.size := Nat.lt_of_lt_of_le hlw (Nat.le_trans hal.out.size hb2.size)
        have hxl2 : wr.heap.size < w2.heap.size := Nat.lt_of_lt_of_le (by simp) hb2.size
        have hwx : w.heap.size < wr.heap.size := hlw
        have HIs := HN.out x (List.mem_of_getElem? HX.out)
        clear k0 k1 k2 k3 k4 k5 k6 k7 k8 k9 k10 b4 hb hx0 hbx hblk hal HC hb2 hbk q0 q1 q2 hlw
        generalize wr.heap.size = xb at *
        go_loopw [26] (fun v w' => ∃ (k : Nat), v = .int .i64 k ∧ k ≤ i ∧ Hid (∀ j z, j < k → B.decomp[j]? = some z → samePair x.is z.is = false) ∧ Below w.heap.size w w' ∧ Hid (w'.heap[w.heap.size]? = some (.cells #[.slice A.na B.names.length A.nc, .slice A.sa B.status.length A.sc, .slice A.ma B.maps.length A.mc, .slice A.ka B.cls.length A.kc, .slice (some ⟨bk, o, none⟩) n A.dc, .slice A.xa B.excl.length A.xc, .slice A.ba B.bidi.length A.bc, .slice A.ja B.join.length A.jc, .slice A.qa B.marks.length A.qc, .slice A.ra B.script.length A.rc, .slice A.la B.like.length A.lc] 33 (0, 0))) ∧ Hid (w'.heap[xb]? = some (.cells #[.int .i32 x.a, .int .i32 x.b, .slice x.ad x.is.length x.cap] 95 (0, 0))) ∧ w.heap.size < w'.heap.size ∧ xb < w'.heap.size) (fun v _ => i - (intOf v).toNat)
        case atStart => exact ⟨0, rfl, Nat.zero_le _, Lib.hid (fun j z h => by omega), hbW2, hx2, hxb2, hlw2, hxl2⟩
        case round =>
          obtain ⟨k, rfl, hk, hne, hbv, hx1, hxb, hlv, hxlt⟩ := hrel
          by_cases hki : k < i
          · obtain ⟨y, hy⟩ : ∃ y, rs[k]? = some y := ⟨_, List.getElem?_eq_getElem (by have := HRL.out; omega)⟩
            have HDY : Hid (B.decomp[k]? = some y.plain) := Lib.hid (by rw [← HP.out, List.getElem?_map, hy]; rfl)
            rcases HV.out.below hbv with h0 | ⟨bk', o', had, hbk, hc⟩
            · rw [h0] at hy; simp at hy
            obtain ⟨rfl, rfl, _⟩ : bk = bk' ∧ o = o' ∧ True := by simpa using had
            obtain ⟨q0, q1, q2⟩ := raws_at (hc k y hy)
            have HBY := Lib.hid (hbv.alloc hbv.size (.cells #[.int .i32 y.a, .int .i32 y.b, .slice y.ad y.is.length y.cap] 95 (0, 0)))
            have haly := (Below.refl wr.heap.size wr).alloc (Nat.le_refl _) (.cells #[.int .i32 y.a, .int .i32 y.b, .slice y.ad y.is.length y.cap] 95 (0, 0))
            have HX1 := Lib.hid ((haly.block _ hlv).trans hx1.out)
            have HXB := Lib.hid ((haly.block _ hxlt).trans hxb.out)
            have x2 : wr.cell? ⟨xb, 2, none⟩ = some (.slice x.ad x.is.length x.cap) := (block_cell (i := 2) hxb.out).trans rfl
            have HIx := HIs.below hbv
            have HIy := (HN.out y (List.mem_of_getElem? hy)).below hbv
            have hnx : samePair x.is y.is = false → ∀ j z, j < k + 1 → B.decomp[j]? = some z → samePair x.is z.is = false := fun h j z h1 h2 => by
              by_cases e : j = k
              · subst e
                rw [HDY.out] at h2
                cases h2
                exact h
              · exact hne.out j z (by omega) h2
            have hno : samePair x.is y.is = true → ¬ WholeOk B.decomp := fun h hw => by
              have := (hw i (by rw [HD.out]; exact hlt) x.plain HDX.out).2 k y.plain hki HDY.out
              rw [show x.plain.is = x.is from rfl, show y.plain.is = y.is from rfl, h] at this
              cases this
            have HNO := Lib.hid hno
            have HNX0 := Lib.hid hnx
            have HHX := Lib.hid HIx
            have HHY := Lib.hid HIy
            clear hc hy hnx hno HIx HIy
            generalize x.ad = xad at *
            generalize y.ad = yad at *
            by_cases hl1 : x.is.length = 2
            · by_cases hl2 : y.is.length = 2
              · have e1 : ((x.is.length : Int) == 2) = true := by rw [beq_iff_eq]; omega
                have e2 : ((y.is.length : Int) == 2) = true := by rw [beq_iff_eq]; omega
                have l1 : 1 < x.is.length := by omega
                have l2 : 1 < y.is.length := by omega
                have l3 : 0 < x.is.length := by omega
                have l4 : 0 < y.is.length := by omega
                obtain ⟨p0, hp0⟩ : ∃ p, x.is[0]? = some p := ⟨_, List.getElem?_eq_getElem l3⟩
                obtain ⟨p1, hp1⟩ : ∃ p, x.is[1]? = some p := ⟨_, List.getElem?_eq_getElem l1⟩
                obtain ⟨r0, hr0⟩ : ∃ p, y.is[0]? = some p := ⟨_, List.getElem?_eq_getElem l4⟩
                obtain ⟨r1, hr1⟩ : ∃ p, y.is[1]? = some p := ⟨_, List.getElem?_eq_getElem l2⟩
                have HSP : Hid (samePair x.is y.is = (decide (p0 = r0) && decide (p1 = r1))) := Lib.hid (by
                  unfold samePair
                  rw [decide_eq_true hl1, decide_eq_true hl2, hp0, hp1, hr0, hr1]
                  simp)
                rcases HHX.out with h0 | ⟨b1, o1, rfl, hb1, hc1⟩
                · rw [h0] at l1; simp at l1
                rcases HHY.out with h0 | ⟨b2, o2, rfl, hb2, hc2⟩
                · rw [h0] at l2; simp at l2
                have c0 := hc1 0 p0 hp0
                have c1 := hc1 1 p1 hp1
                have d0 := hc2 0 r0 hr0
                have d1 := hc2 1 r1 hr1
                rw [Nat.add_zero] at c0 d0
                clear hl1 hl2 hp0 hp1 hr0 hr1 hc1 hc2
                by_cases h1 : p0 = r0
                · have f1 : (p0 == r0) = true := by rw [beq_iff_eq]; exact h1
                  by_cases h2 : p1 = r1
                  · have f2 : (p1 == r1) = true := by rw [beq_iff_eq]; exact h2
                    have HNW := Lib.hid (HNO.out (by rw [HSP.out, decide_eq_true h1, decide_eq_true h2]; rfl))
                    clear h1 h2
                    go_wp2
                    go_quiet (fail)
                    go_wp2
                    go_ret
                    exact ⟨i, rfl, ⟨fun _ => HNW.out, fun _ => by omega⟩, drawn HBY.out _⟩
                  · have f2 : (p1 == r1) = false := by rw [beq_eq_false_iff_ne]; exact h2
                    have HNX := Lib.hid (HNX0.out (by rw [HSP.out, decide_eq_false h2, Bool.and_false]))
                    clear h1 h2
                    go_wp2
                    go_quiet (fail)
                    go_wp2
                    go_roundw
                    case rel => exact ⟨k + 1, by go_num, by omega, HNX.out, drawn HBY.out _, HX1.out, HXB.out, by simp; omega, by simp; omega⟩
                    case measure => simp [intOf]; omega
                · have f1 : (p0 == r0) = false := by rw [beq_eq_false_iff_ne]; exact h1
                  have HNX := Lib.hid (HNX0.out (by rw [HSP.out, decide_eq_false h1, Bool.false_and]))
                  clear h1
                  go_wp2
                  go_quiet (fail)
                  go_wp2
                  go_roundw
                  case rel => exact ⟨k + 1, by go_num, by omega, HNX.out, drawn HBY.out _, HX1.out, HXB.out, by simp; omega, by simp; omega⟩
                  case measure => simp [intOf]; omega
              · have e1 : ((x.is.length : Int) == 2) = true := by rw [beq_iff_eq]; omega
                have e2 : ((y.is.length : Int) == 2) = false := by rw [beq_eq_false_iff_ne]; omega
                have HNX := Lib.hid (HNX0.out (by unfold samePair; rw [decide_eq_false hl2]; simp))
                clear hl1 hl2
                go_wp2
                go_quiet (fail)
                go_wp2
                go_roundw
                case rel => exact ⟨k + 1, by go_num, by omega, HNX.out, drawn HBY.out _, HX1.out, HXB.out, by simp; omega, by simp; omega⟩
                case measure => simp [intOf]; omega
            · have e1 : ((x.is.length : Int) == 2) = false := by rw [beq_eq_false_iff_ne]; omega
              have HNX := Lib.hid (HNX0.out (by unfold samePair; rw [decide_eq_false hl1]; simp))
              clear hl1
              go_wp2
              go_quiet (fail)
              go_wp2
              go_roundw
              case rel => exact ⟨k + 1, by go_num, by omega, HNX.out, drawn HBY.out _, HX1.out, HXB.out, by simp; omega, by simp; omega⟩
              case measure => simp [intOf]; omega
          · obtain rfl : k = i := by omega
            have HO : Hid (OkW B.decomp k) := Lib.hid (fun z hz => by
              rw [HDX.out] at hz
              cases hz
              refine ⟨?_, fun j z h1 h2 => hne.out j z h1 h2⟩
              rw [HD.out]
              show longF B.decomp (n + 1) x.a ≤ 18
              rw [HM.out]
              omega)
            go_wp2_with fail
            go_roundw
            case rel => exact ⟨k + 1, by go_num, by omega, Lib.hid (fun j h => by
              by_cases e : j = k
              · subst e; exact HO.out
              · exact hok.out j (by omega)), hbv, hx1, hlv⟩
            case measure => simp [intOf]; omega
    · obtain rfl : i = n := by omega
      have HT : Hid (WholeOk B.decomp) := Lib.hid (fun j hj => hok.out j (by rw [HD.out] at hj; exact hj))
      go_wp2_with fail
      go_ret
      exact ⟨-1, rfl, ⟨fun h => by omega, fun h => absurd HT.out h⟩, hb⟩
end Go.Proofs.YtgdambmineeboaaGreatDoor.WholeRef
