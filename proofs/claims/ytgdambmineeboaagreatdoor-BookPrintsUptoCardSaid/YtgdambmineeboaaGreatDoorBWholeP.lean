/- The walk of the program's length: a search through decompositions, with a memo. -/
import Derived.Test.YtgdambmineeboaaGreatDoorBMemo
import Derived.Test.YtgdambmineeboaaGreatDoorBRising
import Derived.Outline
import Derived.Test.YtgdambmineeboaaGreatDoorBPairs
import Derived.Deep.RegionHeld3
set_option linter.unusedSimpArgs false
set_option linter.unusedVariables false
namespace Go.Proofs.YtgdambmineeboaaGreatDoor.Length
open Go.RowKit Go.Lib Go.Maps Go.Proofs.YtgdambmineeboaaGreatDoor.Text Go.Proofs.YtgdambmineeboaaGreatDoor.Runes Go.Proofs.YtgdambmineeboaaGreatDoor.Print Go.Proofs.YtgdambmineeboaaGreatDoor.RefNine Go.Proofs.YtgdambmineeboaaGreatDoor.RefPrint Go.Proofs.YtgdambmineeboaaGreatDoor.Format Go.Proofs.YtgdambmineeboaaGreatDoor.Tell Go.Proofs.YtgdambmineeboaaGreatDoor.Given Go.Proofs.YtgdambmineeboaaGreatDoor.Mem Go.Proofs.YtgdambmineeboaaGreatDoor.Chars Go.Proofs.YtgdambmineeboaaGreatDoor.Full Go.Proofs.YtgdambmineeboaaGreatDoor.Memo Go.Proofs.YtgdambmineeboaaGreatDoor.Rising

theorem keyedI : Keyed Tryz.prog 3 := int_keyed Tryz.underlying3
theorem keyedR : Keyed Tryz.prog 21 := int_keyed Tryz.underlying21
theorem zeroI (w : World) : (zeroValue 3).run Tryz.prog w = .ok (.int .i64 0) w := by kernel_rfl

/-- A map of ints in memory. -/
abbrev OwnI (W : World) (b cnt : Nat) (M : Dat) : Prop := W.ownsMap Tryz.prog 3 (plainElem Tryz.prog 3) b cnt M
abbrev OwnR (W : World) (b cnt : Nat) (R : Dat) : Prop := W.ownsMap Tryz.prog 21 (plainElem Tryz.prog 3) b cnt R

/-- The search's things in memory: the rows, the struct and its two maps. -/
structure Tree (w0 : World) (rs : List Raw) (la : Option Addr) (c T RB LB nR : Nat) (R : Dat) (W : World) : Prop where
  low : Below w0.heap.size w0 W
  cells : W.heap[T]? = some (.cells #[.slice la rs.length c, .map (some RB), .map (some LB)] 165 (0, 0))
  rows : OwnR W RB nR R
theorem Tree.grown {w0 : World} {rs : List Raw} {la : Option Addr} {c T RB LB nR : Nat} {R : Dat} {W W' : World} (h : Tree w0 rs la c T RB LB nR R W) (hg : W.grownBy W' (some LB)) (hL : w0.heap.size ≤ LB) (hT : T ≠ LB) (hR : RB ≠ LB) : Tree w0 rs la c T RB LB nR R W' :=
  ⟨h.low.grown hg h.low.size (fun k hk => by obtain rfl := Option.some.inj hk; exact hL), (hg.block T (block_lt h.cells) (fun e => hT (Option.some.inj e))).trans h.cells, h.rows.kept hg (fun e => hR (Option.some.inj e))⟩

set_option maxRecDepth 100000 in
set_option maxHeartbeats 1000000 in
theorem length_seen (w0 : World) (rs : List Raw) (la : Option Addr) (c T RB LB nR : Nat) (R : Dat) (hl : rs.length ≤ 65536)
    (m : Nat → Option Nat) (S : List Nat) (i v : Nat) (x : Raw) (M : Dat) (cnt : Nat) (W : World) (hx : rs[i]? = some x) (hmi : m i = some v) (hm : MemoOk (rs.map Raw.plain) S m) (hS : ∀ s ∈ S, ∃ y, (rs.map Raw.plain)[s]? = some y ∧ Leads (rs.map Raw.plain) y.a x.a) (hrep : Rep rs.length M m) (hown : OwnI W LB cnt M) (Bd : Nat) (hcnt : cnt + 2 * unseen rs.length m ≤ Bd) (htree : Tree w0 rs la c T RB LB nR R W) :
    Calls Tryz.prog 124 #[.pointer (some ⟨T, 0, none⟩), .int .i64 i] W fun e W' => ∃ (v : Nat) (m' : Nat → Option Nat) (M' : Dat) (cnt' : Nat), e = .returned (.int .i64 v) ∧ Ans (rs.map Raw.plain) x.a v ∧ MemoOk (rs.map Raw.plain) S m' ∧ Rep rs.length M' m' ∧ Grows m m' ∧ OwnI W' LB cnt' M' ∧ cnt' + 2 * unseen rs.length m' ≤ Bd ∧ W.grownBy W' (some LB) := by
  have hilt : i < rs.length := (List.getElem?_eq_some_iff.1 hx).1
  have hxD : (rs.map Raw.plain)[i]? = some x.plain := by rw [List.getElem?_map, hx]; rfl
  have HA := Lib.hid (hm.seen hxD hmi hS)
  obtain ⟨hhas, hat0⟩ := hrep i hilt
  have HH : Hid (Maps.has M (.int .i64 (i : Int)) = true) := Lib.hid (by rw [hhas, hmi]; rfl)
  have HAT := Lib.hid (hat0 v hmi)
  have k2 : W.cell? ⟨T, 2, none⟩ = some (.map (some LB)) := (block_cell (i := 2) htree.cells).trans rfl
  have HM := Lib.hid hm
  have HREP := Lib.hid hrep
  have HCNT := Lib.hid hcnt
  clear hx hm hS hrep htree hhas hat0 hmi hcnt
  go_enter Tryz.func124, Tryz.ntmps124
  go_wp2_with (at_lookup; refine wpList_lookup_own_ok_int _ rfl _ _ 163 rfl 3 3 .i64 keyedI Tryz.underlying163 Tryz.underlying3 (zeroI _) LB cnt M rfl hown _ _ rfl (keyOf_int_mk Tryz.underlying3 (WalkArith.wf_i64 (by omega))) ?_; intro v' hat hwc; rw [HH.out])
  go_ret
  have hvv : v' = (v : Int) := by
    have := hat.symm.trans HAT.out
    simpa using this
  exact ⟨v, m, M, cnt, by rw [hvv]; rfl, HA.out, HM.out, HREP.out, fun _ h => h, hown, HCNT.out, grown_of (Below.refl _ _)⟩

set_option maxRecDepth 100000 in
set_option maxHeartbeats 4000000 in
theorem length_any (w0 : World) (rs : List Raw) (la : Option Addr) (c T RB LB nR : Nat) (R : Dat) (hl : rs.length ≤ 65536) (hV : Tab 3 Mem.encR w0 la rs) (hI : ∀ r ∈ rs, Rs w0 r.ad r.is) (hD : Memo.Rows (rs.map Raw.plain)) (hR : RepR (rs.map Raw.plain) rs.length R)
    (hL : w0.heap.size ≤ LB) (hT : T ≠ LB) (hRB : RB ≠ LB) :
    ∀ (f : Nat) (m : Nat → Option Nat) (S : List Nat) (i : Nat) (x : Raw) (M : Dat) (cnt : Nat) (W : World), unseen rs.length m ≤ f → rs[i]? = some x → MemoOk (rs.map Raw.plain) S m → (∀ s ∈ S, ∃ y, (rs.map Raw.plain)[s]? = some y ∧ Leads (rs.map Raw.plain) y.a x.a) → Rep rs.length M m → OwnI W LB cnt M → ∀ Bd, Bd ≤ 2 * rs.length → cnt + 2 * unseen rs.length m ≤ Bd → Tree w0 rs la c T RB LB nR R W →
      Calls Tryz.prog 124 #[.pointer (some ⟨T, 0, none⟩), .int .i64 i] W fun e W' => ∃ (v : Nat) (m' : Nat → Option Nat) (M' : Dat) (cnt' : Nat), e = .returned (.int .i64 v) ∧ Ans (rs.map Raw.plain) x.a v ∧ MemoOk (rs.map Raw.plain) S m' ∧ Rep rs.length M' m' ∧ Grows m m' ∧ OwnI W' LB cnt' M' ∧ cnt' + 2 * unseen rs.length m' ≤ Bd ∧ W.grownBy W' (some LB) := by
  have HV := Lib.hid hV
  have HI := Lib.hid hI
  have HD := Lib.hid hD
  have HR := Lib.hid hR
  clear hV hI hD hR
  intro f
  induction f with
  | zero =>
    intro m S i x M cnt W hf hx hm hS hrep hown Bd hBd hcnt htree
    cases hmi : m i with
    | some v => exact length_seen w0 rs la c T RB LB nR R hl m S i v x M cnt W hx hmi hm hS hrep hown Bd hcnt htree
    | none =>
      have := unseen_put 0 (List.getElem?_eq_some_iff.1 hx).1 hmi
      omega
  | succ f ih =>
    intro m S i x M cnt W hf hx hm hS hrep hown Bd hBd hcnt htree
    cases hmi : m i with
    | some v => exact length_seen w0 rs la c T RB LB nR R hl m S i v x M cnt W hx hmi hm hS hrep hown Bd hcnt htree
    | none =>
      have hilt : i < rs.length := (List.getElem?_eq_some_iff.1 hx).1
      have hxD : (rs.map Raw.plain)[i]? = some x.plain := by rw [List.getElem?_map, hx]; rfl
      have HXD := Lib.hid hxD
      have HX := Lib.hid hx
      have hun := unseen_put 0 hilt hmi
      obtain ⟨hhas, _⟩ := hrep i hilt
      have HH : Hid (Maps.has M (.int .i64 (i : Int)) = false) := Lib.hid (by rw [hhas, hmi]; rfl)
      have k2 : W.cell? ⟨T, 2, none⟩ = some (.map (some LB)) := (block_cell (i := 2) htree.cells).trans rfl
      have k0 : W.cell? ⟨T, 0, none⟩ = some (.slice la rs.length c) := (block_cell (i := 0) htree.cells).trans rfl
      have HM1 := Lib.hid (hm.enter i)
      have HREP1 := Lib.hid (hrep.put hown.isMap i 0)
      have HTR := Lib.hid htree
      have HGR0 := Lib.hid (put_grows m i 0)
      have HMI := Lib.hid hmi
      have HS1 : Hid (∀ q ∈ x.is, ∀ s ∈ i :: S, ∃ y, (rs.map Raw.plain)[s]? = some y ∧ Leads (rs.map Raw.plain) y.a q) := Lib.hid (fun q hq s hs => by
        have hsaid : said x.a (rs.map Raw.plain) = x.is := said_of HD.out hxD
        rcases List.mem_cons.1 hs with rfl | hs
        · exact ⟨_, hxD, .one (by rw [show x.plain.a = x.a from rfl, hsaid]; exact hq)⟩
        · obtain ⟨y, h1, h2⟩ := hS s hs
          exact ⟨y, h1, .more h2 (by rw [hsaid]; exact hq)⟩)
      have HSAID : Hid (said x.a (rs.map Raw.plain) = x.is) := Lib.hid (said_of HD.out hxD)
      have hxi := HD.out.size x.plain (List.mem_of_getElem? hxD)
      have hli : x.is.length ≤ 2 := hxi.2
      have HNE : Hid (x.is ≠ []) := Lib.hid (fun e => by have := hxi.1; rw [show x.plain.is = x.is from rfl, e] at this; simp at this)
      have HXI := Lib.hid (HI.out x (List.mem_of_getElem? hx))
      have HPL := Lib.hid (HD.out.parts x.plain (List.mem_of_getElem? hxD))
      have HIH := Lib.hid ih
      rcases (HV.out.below htree.low) with h0 | ⟨bk, o, had, hbk, hc⟩
      · rw [h0] at hx; simp at hx
      subst had
      obtain ⟨q0, q1, q2⟩ := raws_at (hc i x hx)
      have hbL : bk ≠ LB := by
        rcases HV.out with h0 | ⟨bk', o', h1, h2, _⟩
        · rw [h0] at hx; simp at hx
        · cases h1; omega
      clear hx hm hS hrep htree hhas hmi ih hxD hc hxi
      go_enter Tryz.func124, Tryz.ntmps124
      go_wp2_with (first
        | (at_lookup; refine wpList_lookup_own_ok_int _ rfl _ _ 163 rfl 3 3 .i64 keyedI Tryz.underlying163 Tryz.underlying3 (zeroI _) LB cnt M rfl hown _ _ rfl (keyOf_int_mk Tryz.underlying3 (WalkArith.wf_i64 (by omega))) ?_; intro v' hat hwc; rw [HH.out])
        | (at_mapUpdate; refine wpList_mapUpdate_own _ rfl _ _ _ 163 rfl 3 3 keyedI Tryz.underlying163 _ LB cnt M rfl hown (by unfold maxLen; omega) _ _ _ rfl rfl (keyOf_int_mk Tryz.underlying3 (WalkArith.wf_i64 (by omega))) _ [] (plainElem_int Tryz.underlying3 (by decide)) ?_; intro W1 hown1 hg1; have kk0 := (World.cell?_of_block (a := ⟨T, 0, none⟩) (hg1.block T (block_lt HTR.out.cells) (fun e => hT (Option.some.inj e)))).trans k0; have qq2 := (World.cell?_of_block (a := ⟨bk, o + i * 3 + 2, none⟩) (hg1.block bk hbk (fun e => hbL (Option.some.inj e)))).trans q2))
      have HH2 := Lib.hid HH.out
      have hcnt1 : cnt + 1 + 2 * unseen rs.length (put m i 0) + 1 ≤ Bd := by omega
      have HCN := Lib.hid hcnt1
      have hun1 : unseen rs.length (put m i 0) ≤ f := by omega
      have HUN := Lib.hid hun1
      clear hcnt hun hf hcnt1 hun1 kk0 qq2 k0 k2 q0 q1 q2
      go_loopw [7, 38] (fun u v w' => ∃ (k nn : Nat) (m1 : Nat → Option Nat) (M1 : Dat) (cnt1 : Nat), v = .int .i64 k ∧ u = .int .i64 nn ∧ k ≤ x.is.length ∧ nn ≤ 18 * k ∧ Hid (SoFar (rs.map Raw.plain) x.is k nn) ∧ Hid (MemoOk (rs.map Raw.plain) (i :: S) m1) ∧ Hid (Rep rs.length M1 m1) ∧ Hid (Grows (put m i 0) m1) ∧ OwnI w' LB cnt1 M1 ∧ Hid (cnt1 + 2 * unseen rs.length m1 + 1 ≤ Bd) ∧ W.grownBy w' (some LB)) (fun _ v _ => x.is.length - (intOf v).toNat)
      case atStart => exact ⟨0, 0, _, _, _, rfl, rfl, Nat.zero_le _, Nat.zero_le _, Lib.hid (SoFar.zero _ _), HM1, HREP1, Lib.hid (fun _ h => h), hown1, HCN, hg1⟩
      case round =>
        obtain ⟨k, nn, m1, M1, cnt1, rfl, rfl, hk, hnn, hsf, hm1, hrep1, hgr1, hown2, hcn1, hgw⟩ := hrel
        have htr := HTR.out.grown hgw hL hT hRB
        by_cases hkl : k < x.is.length
        · obtain ⟨p, hp⟩ : ∃ p, x.is[k]? = some p := ⟨_, List.getElem?_eq_getElem hkl⟩
          rcases (HXI.out.below htr.low) with h0 | ⟨b1, o1, had1, hb1, hc1⟩
          · rw [h0] at hkl; simp at hkl
          have q3 := hc1 k p hp
          have hpm : p ∈ x.is := List.mem_of_getElem? hp
          obtain ⟨hp0, hp1⟩ := HPL.out p hpm
          have k1 : wr.cell? ⟨T, 1, none⟩ = some (.map (some RB)) := (block_cell (i := 1) htr.cells).trans rfl
          have HPP := Lib.hid hp
          have HPM := Lib.hid hpm
          clear hc1 hp hpm
          generalize x.ad = xad at *
          subst had1
          cases hhr : Maps.has R (.int .i32 p) with
          | false =>
            have HHR := Lib.hid hhr
            have hleaf : Sett (rs.map Raw.plain) p 1 := Sett.leaf (said_not HD.out fun k' y hy e => by
              have h1 := (HR.out.1 k' y hy (by have := (List.getElem?_eq_some_iff.1 hy).1; simpa using this)).1
              rw [e, hhr] at h1
              cases h1)
            have HSF := Lib.hid (hsf.out.succ HPP.out hleaf)
            clear hhr hleaf
            go_wp2_with (at_lookup; refine wpList_lookup_own_ok_int _ rfl _ _ 162 rfl 21 3 .i64 keyedR Tryz.underlying162 Tryz.underlying3 (zeroI _) RB nR R rfl htr.rows _ _ rfl (keyOf_int_mk Tryz.underlying21 (WalkArith.wf_i32 (by omega))) ?_; intro v2 hat2 hwc2; rw [HHR.out])
            go_roundw
            case rel => exact ⟨k + 1, nn + 1, m1, M1, cnt1, by go_num, by go_num, by omega, by omega, HSF, hm1, hrep1, hgr1, hown2, hcn1, hgw⟩
            case measure => simp [intOf]; omega
          | true =>
            have HHR := Lib.hid hhr
            obtain ⟨k', y, hy, hya, hk'⟩ := HR.out.2 p hhr
            obtain ⟨yr, hyr, hyp⟩ : ∃ yr, rs[k']? = some yr ∧ yr.plain = y := by
              rw [List.getElem?_map] at hy
              cases h : rs[k']? with
              | none => rw [h] at hy; cases hy
              | some yr => rw [h] at hy; cases hy; exact ⟨yr, rfl, rfl⟩
            have hyra : yr.a = p := by rw [← hya, ← hyp]; rfl
            have HATR : Hid (R.atKey (.int .i32 p) z0 = .lit (.int .i64 (k' : Int))) := Lib.hid (by have := (HR.out.1 k' y hy hk').2; rw [hya] at this; exact this)
            have HC := Lib.hid (HIH.out m1 (i :: S) k' yr M1 cnt1 wr (by have := unseen_grows rs.length hgr1.out; have := HUN.out; omega) hyr hm1.out (fun s hs => by rw [hyra]; exact HS1.out p HPM.out s hs) hrep1.out hown2 (Bd - 1) (by omega) (by have := hcn1.out; omega) htr)
            rw [hyra] at HC
            clear hhr hy hya hyr hyp hyra
            go_wp2_with (at_lookup; refine wpList_lookup_own_ok_int _ rfl _ _ 162 rfl 21 3 .i64 keyedR Tryz.underlying162 Tryz.underlying3 (zeroI _) RB nR R rfl htr.rows _ _ rfl (keyOf_int_mk Tryz.underlying21 (WalkArith.wf_i32 (by omega))) ?_; intro v2 hat2 hwc2; rw [HHR.out])
            obtain rfl : v2 = (k' : Int) := by
              have := hat2.symm.trans HATR.out
              simpa using this
            refine HC.out.mono ?_
            rintro e w4 ⟨v, m2, M2, cnt2, rfl, hans, hm2, hrep2, hgr2, hown3, hcn2, hg2⟩
            rcases Nat.eq_zero_or_pos v with hv | hv
            · subst hv
              have HF : Hid (∀ n, ¬ Sett (rs.map Raw.plain) x.a n) := Lib.hid (part_none (by rw [HSAID.out]; exact HPM.out) (hans.2 rfl))
              have HM2 := Lib.hid (hm2.failed HXD.out HF.out)
              have HR2 := Lib.hid hrep2
              have HGR2 := Lib.hid ((HGR0.out.trans hgr1.out).trans hgr2)
              have HCC : Hid (cnt2 + 2 * unseen rs.length m2 ≤ Bd) := Lib.hid (by omega)
              clear hm2 hrep2 hgr2 hans hcn2
              go_wp2_with fail
              go_ret
              exact ⟨0, m2, M2, cnt2, rfl, ⟨fun h => absurd rfl h, fun _ => HF.out⟩, HM2.out, HR2.out, HGR2.out, hown3, HCC.out, hgw.trans hg2⟩
            · have hv0 : ((v : Int) == 0) = false := by rw [beq_eq_false_iff_ne]; omega
              have hst := hans.1 (by omega)
              have hv18 := hst.1
              have HSF := Lib.hid (hsf.out.succ HPP.out hst)
              have HM2 := Lib.hid hm2
              have HR2 := Lib.hid hrep2
              have HGR2 := Lib.hid (hgr1.out.trans hgr2)
              have HCC : Hid (cnt2 + 2 * unseen rs.length m2 + 1 ≤ Bd) := Lib.hid (by have := hcn1.out; omega)
              clear hm2 hrep2 hgr2 hans hcn2 hst
              go_wp2_with fail
              go_roundw
              case rel => exact ⟨k + 1, nn + v, m2, M2, cnt2, by go_num, by go_num, by omega, by omega, HSF, HM2, HR2, HGR2, hown3, HCC, hgw.trans hg2⟩
              case measure => simp [intOf]; omega
        · obtain rfl : x.is.length = k := by omega
          have hdone := SoFar.done (p := x.a) (D := rs.map Raw.plain) (by rw [HSAID.out]; exact HNE.out) (by rw [HSAID.out]; exact hsf.out)
          by_cases h18 : nn ≤ 18
          · have hans := hdone.1
            rw [if_pos h18] at hans
            have HANS := Lib.hid hans
            have HNZ := Lib.hid hdone.2
            have k2 : wr.cell? ⟨T, 2, none⟩ = some (.map (some LB)) := (block_cell (i := 2) htr.cells).trans rfl
            clear hans hdone
            go_wp2_with (at_mapUpdate; refine wpList_mapUpdate_own _ rfl _ _ _ 163 rfl 3 3 keyedI Tryz.underlying163 _ LB cnt1 M1 rfl hown2 (by have := hcn1.out; unfold maxLen; omega) _ _ _ rfl rfl (keyOf_int_mk Tryz.underlying3 (WalkArith.wf_i64 (by omega))) _ [] (plainElem_int Tryz.underlying3 (WalkArith.wf_i64 (by omega))) ?_; intro W5 hown5 hg5)
            go_ret
            have hM5 := hm1.out.leave HXD.out HNZ.out (HANS.out.1 HNZ.out)
            have hcc := unseen_grows rs.length (put_grows m1 i nn)
            exact ⟨nn, _, _, _, rfl, HANS.out, hM5, hrep1.out.put hown2.isMap i nn, (HGR0.out.trans hgr1.out).trans (put_grows m1 i nn), hown5, by have := hcn1.out; omega, hgw.trans hg5⟩
          · have hans := hdone.1
            rw [if_neg h18] at hans
            have HANS := Lib.hid hans
            have HM2 := Lib.hid (hm1.out.failed HXD.out (hans.2 rfl))
            have HGR2 := Lib.hid (HGR0.out.trans hgr1.out)
            have HCC : Hid (cnt1 + 2 * unseen rs.length m1 ≤ Bd) := Lib.hid (by have := hcn1.out; omega)
            clear hans hdone
            go_wp2_with fail
            go_ret
            exact ⟨0, m1, M1, cnt1, rfl, HANS.out, HM2.out, hrep1.out, HGR2.out, hown2, HCC.out, hgw⟩
end Go.Proofs.YtgdambmineeboaaGreatDoor.Length

/- The walk of the program's whole. -/
namespace Go.Proofs.YtgdambmineeboaaGreatDoor.WholeP
open Go.RowKit Go.Lib Go.Maps Go.Proofs.YtgdambmineeboaaGreatDoor.Text Go.Proofs.YtgdambmineeboaaGreatDoor.Runes Go.Proofs.YtgdambmineeboaaGreatDoor.Print Go.Proofs.YtgdambmineeboaaGreatDoor.RefNine Go.Proofs.YtgdambmineeboaaGreatDoor.RefPrint Go.Proofs.YtgdambmineeboaaGreatDoor.Format Go.Proofs.YtgdambmineeboaaGreatDoor.Tell Go.Proofs.YtgdambmineeboaaGreatDoor.Given Go.Proofs.YtgdambmineeboaaGreatDoor.Mem Go.Proofs.YtgdambmineeboaaGreatDoor.Chars Go.Proofs.YtgdambmineeboaaGreatDoor.Full Go.Proofs.YtgdambmineeboaaGreatDoor.Memo Go.Proofs.YtgdambmineeboaaGreatDoor.Rising Go.Proofs.YtgdambmineeboaaGreatDoor.Length Go.Proofs.YtgdambmineeboaaGreatDoor.Pairs Go.Proofs.YtgdambmineeboaaGreatDoor.WholeRef

theorem bool_of {a b : Bool} (h : (.lit (.bool a) : Dat) = .lit (.bool b)) : a = b := by cases h; rfl
theorem tree_other {w0 : World} {rs : List Raw} {la : Option Addr} {c T RB LB nR : Nat} {R : Dat} {W W' : World} {SB : Nat} (h : Tree w0 rs la c T RB LB nR R W) (hg : W.grownBy W' (some SB)) (hL : w0.heap.size ≤ SB) (hT : T ≠ SB) (hR : RB ≠ SB) : Tree w0 rs la c T RB LB nR R W' :=
  ⟨h.low.grown hg h.low.size (fun k hk => by obtain rfl := Option.some.inj hk; exact hL), (hg.block T (block_lt h.cells) (fun e => hT (Option.some.inj e))).trans h.cells, h.rows.kept hg (fun e => hR (Option.some.inj e))⟩
abbrev OwnB (W : World) (b cnt : Nat) (M : Dat) : Prop := W.ownsMap Tryz.prog 168 (plainElem Tryz.prog 4) b cnt M
set_option maxRecDepth 100000 in
set_option maxHeartbeats 4000000 in
theorem wholeP_any (a : Option Addr) (rs : List Raw) (c : Nat) (w : World) (hl : rs.length ≤ 65536) (hV : Tab 3 Mem.encR w a rs) (hI : ∀ r ∈ rs, Rs w r.ad r.is) (hD : Memo.Rows (rs.map Raw.plain)) :
    Calls Tryz.prog 71 #[.slice a rs.length c] w fun e w' => ∃ r, e = .returned (.int .i64 r) ∧ (0 ≤ r ↔ ¬ WholeOk (rs.map Raw.plain)) ∧ Below w.heap.size w w' := by
  have hmm := @run_makeMap Tryz.prog
  have HV := Lib.hid hV
  have HI := Lib.hid hI
  have HD := Lib.hid hD
  clear hV hI hD
  obtain ⟨W0, hW0⟩ : ∃ W0, W0 = ((w.alloc (.map #[] 0)).alloc (.map #[] 0)).alloc (.cells #[.slice a rs.length c, .map (some w.heap.size), .map (some (w.heap.size + 1))] 165 (0, 0)) := ⟨_, rfl⟩
  have hb0 : Below w.heap.size w W0 := by rw [hW0]; exact (((Below.refl w.heap.size w).alloc (Nat.le_refl _) _).alloc (by simp) _).alloc (by simp; omega) _
  have hr0 : OwnR W0 w.heap.size 0 (.map []) := by
    rw [hW0]; exact ((World.ownsMap_made w _ _ _).alloc _).alloc _
  have hl0 : OwnI W0 (w.heap.size + 1) 0 (.map []) := by
    have h := World.ownsMap_made (H := Unit) (w.alloc (.map #[] 0)) Tryz.prog 3 (plainElem Tryz.prog 3)
    rw [World.size_alloc] at h
    rw [hW0]
    exact h.alloc _
  have ht0 : W0.heap[w.heap.size + 1 + 1]? = some (.cells #[.slice a rs.length c, .map (some w.heap.size), .map (some (w.heap.size + 1))] 165 (0, 0)) := by
    have h := heap_alloc_new ((w.alloc (.map #[] 0)).alloc (.map #[] 0)) (.cells #[.slice a rs.length c, .map (some w.heap.size), .map (some (w.heap.size + 1))] 165 (0, 0))
    rw [World.size_alloc, World.size_alloc] at h
    rw [hW0]
    exact h
  have HT0 := Lib.hid ht0
  have hz0 : W0.heap.size = w.heap.size + 3 := by rw [hW0]; simp
  go_enter Tryz.func71, Tryz.ntmps71
  go_wp2_with fail
  rw [← hW0]
  clear hW0 ht0
  go_loopw [17] (fun v w' => ∃ (i : Nat) (R : Dat), v = .int .i64 i ∧ i ≤ rs.length ∧ Hid (RepR (rs.map Raw.plain) i R) ∧ OwnR w' w.heap.size i R ∧ W0.grownBy w' (some w.heap.size)) (fun v _ => rs.length - (intOf v).toNat)
  case atStart => exact ⟨0, _, rfl, Nat.zero_le _, Lib.hid (RepR.zero _), hr0, grown_of (Below.refl _ _)⟩
  case round =>
    obtain ⟨i, R, rfl, hi, hrr, hown, hg⟩ := hrel
    have hb : Below w.heap.size w wr := hb0.grown hg hb0.size (fun k hk => by obtain rfl := Option.some.inj hk; exact Nat.le_refl _)
    have htree := (hg.block (w.heap.size + 1 + 1) (by omega) (fun e => by have := Option.some.inj e; omega)).trans HT0.out
    have hwz := hg.size
    by_cases hlt : i < rs.length
    · obtain ⟨x, hx⟩ : ∃ x, rs[i]? = some x := ⟨_, List.getElem?_eq_getElem hlt⟩
      rcases HV.out.below hb with h0 | ⟨bk, o, rfl, hbk, hc⟩
      · rw [h0] at hx; simp at hx
      obtain ⟨q0, q1, q2⟩ := raws_at (hc i x hx)
      have hxD : (rs.map Raw.plain)[i]? = some x.plain := by rw [List.getElem?_map, hx]; rfl
      obtain ⟨xa0, xa1⟩ := HD.out.low x.plain (List.mem_of_getElem? hxD)
      have hxa0 : 0 ≤ x.a := xa0
      have hxa1 : x.a ≤ 1114111 := xa1
      have HRR := Lib.hid (hrr.out.succ HD.out hown.isMap hxD)
      have k1 : wr.cell? ⟨w.heap.size + 1 + 1, 1, none⟩ = some (.map (some w.heap.size)) := (block_cell (i := 1) htree).trans rfl
      have hownA := hown.alloc (.cells #[.int .i32 x.a, .int .i32 x.b, .slice x.ad x.is.length x.cap] 68 (0, 0))
      have hgA := hg.trans (World.grownBy_alloc wr (.cells #[.int .i32 x.a, .int .i32 x.b, .slice x.ad x.is.length x.cap] 68 (0, 0)) (some w.heap.size))
      clear hc hx hxD xa0 xa1 hrr
      obtain ⟨w5, hrun, hown5, hg5⟩ := hownA.drew.update keyedR Tryz.underlying162 (by unfold maxLen; omega) (val := .int .i64 (i : Int)) (keyOf_int_mk Tryz.underlying21 (a := x.a) (WalkArith.wf_i32 (by omega))) (plainElem_int Tryz.underlying3 (WalkArith.wf_i64 (by omega)))
      have hne1 : w.heap.size + 1 + 1 ≠ w.heap.size := by omega
      have hne2 : wr.heap.size ≠ w.heap.size := by omega
      have d1 : (wr.alloc (.cells #[.int .i32 x.a, .int .i32 x.b, .slice x.ad x.is.length x.cap] 68 (0, 0))).drew.cell? ⟨w.heap.size + 1 + 1, 1, none⟩ = some (.map (some w.heap.size)) := (World.cell?_alloc_lt _ _ _ (by show w.heap.size + 1 + 1 < wr.heap.size; omega)).trans k1
      have d2 : (wr.alloc (.cells #[.int .i32 x.a, .int .i32 x.b, .slice x.ad x.is.length x.cap] 68 (0, 0))).drew.cell? ⟨wr.heap.size, 0, none⟩ = some (.int .i32 x.a) := (block_cell (i := 0) (heap_alloc_new wr (.cells #[.int .i32 x.a, .int .i32 x.b, .slice x.ad x.is.length x.cap] 68 (0, 0)))).trans rfl
      have e1 : w5.cell? ⟨w.heap.size + 1 + 1, 1, none⟩ = some (.map (some w.heap.size)) := (World.cell?_of_block (a := ⟨w.heap.size + 1 + 1, 1, none⟩) (hg5.block _ (by simp; omega) (fun e => hne1 (Option.some.inj e)))).trans d1
      have e2 : w5.cell? ⟨wr.heap.size, 0, none⟩ = some (.int .i32 x.a) := (World.cell?_of_block (a := ⟨wr.heap.size, 0, none⟩) (hg5.block _ (by simp) (fun e => hne2 (Option.some.inj e)))).trans d2
      go_wp2_with fail
      go_region_held3 (fun w' => w'.cell? ⟨w.heap.size + 1 + 1, 1, none⟩ = some (.map (some w.heap.size)) ∧ w'.cell? ⟨wr.heap.size, 0, none⟩ = some (.int .i32 x.a))
        (first | exact ⟨e1, e2⟩ | exact ⟨d1, d2⟩ | go_keep) ((first | fail))
      go_wp2_with fail
      go_roundw
      case rel => exact ⟨i + 1, _, by go_num, by omega, HRR, hown5, (hgA.trans (grown_of (Below.refl _ _).drew)).trans hg5⟩
      case measure => simp [intOf]; omega
    · obtain rfl : rs.length = i := by omega
      have hs0 : OwnB (wr.alloc (.map #[] 0)) wr.heap.size 0 (.map []) := World.ownsMap_made _ _ _ _
      have hlng : OwnI wr (w.heap.size + 1) 0 (.map []) := hl0.kept hg (fun e => by have := Option.some.inj e; omega)
      have htr0 : Tree w rs a c (w.heap.size + 1 + 1) w.heap.size (w.heap.size + 1) rs.length R (wr.alloc (.map #[] 0)) := ⟨hb.alloc hb.size _, (((Below.refl wr.heap.size wr).alloc (Nat.le_refl _) (.map #[] 0)).block _ (block_lt htree)).trans htree, hown.alloc _⟩
      have hl1 : OwnI (wr.alloc (.map #[] 0)) (w.heap.size + 1) 0 (.map []) := hlng.alloc _
      have hRR : Hid (RepR (rs.map Raw.plain) rs.length R) := hrr
      have hSB : w.heap.size + 3 ≤ wr.heap.size := by omega
      go_wp2_with fail
      clear hown hg hlng htree hb hl0 hr0 hrr
      generalize wr.heap.size = SB at *
      generalize wr.alloc (.map #[] 0) = W1 at *
      have hun0 : unseen rs.length (fun _ => none) ≤ rs.length := by
        unfold unseen
        have := List.length_filter_le (fun k => ((fun _ => none : Nat → Option Nat) k).isNone) (List.range rs.length)
        simpa using this
      go_loopw [33] (fun v w' => ∃ (i : Nat) (m : Nat → Option Nat) (M : Dat) (cnt : Nat) (Ms : Dat), v = .int .i64 i ∧ i ≤ rs.length ∧ Hid (MemoOk (rs.map Raw.plain) [] m) ∧ Hid (Rep rs.length M m) ∧ OwnI w' (w.heap.size + 1) cnt M ∧ Hid (cnt + 2 * unseen rs.length m ≤ 2 * rs.length) ∧ Tree w rs a c (w.heap.size + 1 + 1) w.heap.size (w.heap.size + 1) rs.length R w' ∧ OwnB w' SB i Ms ∧ Hid (Rep2 (rs.map Raw.plain) i Ms) ∧ Hid (∀ j, j < i → OkW (rs.map Raw.plain) j)) (fun v _ => rs.length - (intOf v).toNat)
      case atStart => exact ⟨0, _, _, 0, _, rfl, Nat.zero_le _, Lib.hid ⟨fun k x v _ h => (by cases h), fun k x _ h => (by cases h)⟩, Lib.hid (Rep.none _), hl1, Lib.hid (by omega), htr0, hs0, Lib.hid (Rep2.zero _), Lib.hid (fun j h => by omega)⟩
      case round =>
        obtain ⟨i, m, M, cnt, Ms, rfl, hi2, hm, hrep, hown, hcn, htr, hos, hr2, hok⟩ := hrel
        by_cases hlt2 : i < rs.length
        · obtain ⟨x, hx⟩ : ∃ x, rs[i]? = some x := ⟨_, List.getElem?_eq_getElem hlt2⟩
          rcases HV.out.below htr.low with h0 | ⟨bk, o, rfl, hbk, hc⟩
          · rw [h0] at hx; simp at hx
          obtain ⟨q0, q1, q2⟩ := raws_at (hc i x hx)
          have hxD : (rs.map Raw.plain)[i]? = some x.plain := by rw [List.getElem?_map, hx]; rfl
          have HXD := Lib.hid hxD
          have hsz := htr.low.size
          have htlt := block_lt htr.cells
          have htrA : Tree w rs (some ⟨bk, o, none⟩) c (w.heap.size + 1 + 1) w.heap.size (w.heap.size + 1) rs.length R (wr.alloc (.cells #[.int .i32 x.a, .int .i32 x.b, .slice x.ad x.is.length x.cap] 68 (0, 0))) := htr.grown (World.grownBy_alloc wr (.cells #[.int .i32 x.a, .int .i32 x.b, .slice x.ad x.is.length x.cap] 68 (0, 0)) _) (by omega) (by omega) (by omega)
          have HC := Lib.hid (length_any w rs (some ⟨bk, o, none⟩) c (w.heap.size + 1 + 1) w.heap.size (w.heap.size + 1) rs.length R hl HV.out HI.out HD.out hRR.out (by omega) (by omega) (by omega) (unseen rs.length m) m [] i x M cnt (wr.alloc (.cells #[.int .i32 x.a, .int .i32 x.b, .slice x.ad x.is.length x.cap] 68 (0, 0))) (Nat.le_refl _) hx hm.out (fun s hs => by cases hs) hrep.out (hown.alloc _) (2 * rs.length) (Nat.le_refl _) hcn.out htrA)
          have hosA := hos.alloc (.cells #[.int .i32 x.a, .int .i32 x.b, .slice x.ad x.is.length x.cap] 68 (0, 0))
          have hblk := Lib.hid (heap_alloc_new wr (.cells #[.int .i32 x.a, .int .i32 x.b, .slice x.ad x.is.length x.cap] 68 (0, 0)))
          have HIX := HI.out x (List.mem_of_getElem? hx)
          clear hc hx hxD hos hown htr
          go_wp2_with fail
          refine HC.out.mono ?_
          rintro e w2 ⟨v, m2, M2, cnt2, rfl, hans, hm2, hrep2, hgr2, hown2, hcn2, hg2⟩
          have hneL : wr.heap.size ≠ w.heap.size + 1 := by omega
          have hrb := Lib.hid ((hg2.block wr.heap.size (by simp) (fun e => hneL (Option.some.inj e))).trans hblk.out)
          have hos2 : OwnB w2 SB i Ms := hosA.kept hg2 (fun e => by have := Option.some.inj e; omega)
          have htr2 := htrA.grown hg2 (by omega) (by omega) (by omega)
          have hlt3 : wr.heap.size < w2.heap.size := block_lt hrb.out
          have HM2 := Lib.hid hm2
          have HRP2 := Lib.hid hrep2
          have HCN2 := Lib.hid hcn2
          have r2 : w2.cell? ⟨wr.heap.size, 2, none⟩ = some (.slice x.ad x.is.length x.cap) := (block_cell (i := 2) hrb.out).trans rfl
          have hlow := htr2.low
          clear hm2 hrep2 hcn2 hgr2 hg2 q0 q1 q2 htrA hosA hbk HC
          rcases Nat.eq_zero_or_pos v with hv | hv
          · subst hv
            have HF : Hid (¬ WholeOk (rs.map Raw.plain)) := Lib.hid (fun hw => by
              have h1 := (hw i (by rw [List.length_map]; exact hlt2) x.plain HXD.out).1
              exact hans.2 rfl _ ((sett_iff HD.out.one x.a _).2 ⟨h1, rfl⟩))
            clear hans
            go_wp2_with fail
            go_ret
            exact ⟨i, rfl, ⟨fun _ => HF.out, fun _ => by omega⟩, hlow⟩
          · have hv0 : ((v : Int) == 0) = false := by rw [beq_eq_false_iff_ne]; omega
            have HL18 : Hid (longF (rs.map Raw.plain) ((rs.map Raw.plain).length + 1) x.a ≤ 18) := Lib.hid (by
              have h := (sett_iff HD.out.one x.a v).1 (hans.1 (by omega))
              rw [h.2]; exact h.1)
            clear hans
            by_cases hl2 : x.is.length = 2
            · obtain ⟨p, q, hpq⟩ : ∃ p q, x.is = [p, q] := by
                match h : x.is, hl2 with
                | [p, q], _ => exact ⟨p, q, rfl⟩
              have e1 : ((x.is.length : Int) == 2) = true := by rw [beq_iff_eq]; omega
              have hl3 : 0 < x.is.length := by omega
              have hl4 : 1 < x.is.length := by omega
              have hl5 : (1 : Int) < (x.is.length : Int) := by omega
              have hpI : In p := HD.out.parts x.plain (List.mem_of_getElem? HXD.out) p (by rw [show x.plain.is = x.is from rfl, hpq]; simp)
              have hqI : In q := HD.out.parts x.plain (List.mem_of_getElem? HXD.out) q (by rw [show x.plain.is = x.is from rfl, hpq]; simp)
              rcases HIX.below hlow with h0 | ⟨b1, o1, had, hb1, hc1⟩
              · rw [h0] at hl2; simp at hl2
              have c0 := hc1 0 p (by rw [hpq]; rfl)
              have c1 := hc1 1 q (by rw [hpq]; rfl)
              rw [Nat.add_zero] at c0
              have HPQ := Lib.hid hpq
              clear hc1 hpq hl2
              generalize x.ad = xad at *
              subst had
              have f1 : w2.drew.cell? ⟨wr.heap.size, 2, none⟩ = some (.slice (some ⟨b1, o1, none⟩) x.is.length x.cap) := r2
              have f2 : w2.drew.cell? ⟨b1, o1, none⟩ = some (.int .i32 p) := c0
              have f3 : w2.drew.cell? ⟨b1, o1 + 1, none⟩ = some (.int .i32 q) := c1
              have n1 := World.new_ne w2.drew _ f1
              have n2 := World.new_ne w2.drew _ f2
              have n3 := World.new_ne w2.drew _ f3
              go_wp2_with fail
              go_region_held3 (fun w' => w'.cell? ⟨wr.heap.size, 2, none⟩ = some (.slice (some ⟨b1, o1, none⟩) x.is.length x.cap) ∧ w'.cell? ⟨b1, o1, none⟩ = some (.int .i32 p) ∧ w'.cell? ⟨b1, o1 + 1, none⟩ = some (.int .i32 q))
                (first | exact ⟨f1, f2, f3⟩ | go_keep) ((first | fail))
              have hos3 : OwnB (w2.alloc (.cells #[.int .i32 p, .int .i32 q] 168 (0, 0))).drew SB i Ms := (hos2.alloc _).drew
              have hg3 : w2.grownBy (w2.alloc (.cells #[.int .i32 p, .int .i32 q] 168 (0, 0))).drew (some (w.heap.size + 1)) := (World.grownBy_alloc w2 _ _).trans (grown_of (Below.refl _ _).drew)
              have htr3 := htr2.grown hg3 (by omega) (by omega) (by omega)
              have hown3 : OwnI (w2.alloc (.cells #[.int .i32 p, .int .i32 q] 168 (0, 0))).drew (w.heap.size + 1) cnt2 M2 := (hown2.alloc _).drew
              have j0 : (w2.alloc (.cells #[.int .i32 p, .int .i32 q] 168 (0, 0))).drew.cell? ⟨w2.heap.size, 0, none⟩ = some (.int .i32 p) := (block_cell (i := 0) (heap_alloc_new w2 _)).trans rfl
              have j1 : (w2.alloc (.cells #[.int .i32 p, .int .i32 q] 168 (0, 0))).drew.cell? ⟨w2.heap.size, 1, none⟩ = some (.int .i32 q) := (block_cell (i := 1) (heap_alloc_new w2 _)).trans rfl
              have HAT := Lib.hid (hr2.out p q hpI hqI)
              have HPF := Lib.hid (pairs_iff (D := rs.map Raw.plain) (i := i) HPQ.out)
              have HMS := hos2.isMap
              clear hos2 htr2 hown2 hg3 f1 f2 f3 n1 n2 n3 hlow
              generalize hW3 : (w2.alloc (.cells #[.int .i32 p, .int .i32 q] 168 (0, 0))).drew = W3 at *
              clear hW3
              cases hpi : pairIn (rs.map Raw.plain) i p q with
              | true =>
                have HPI : Hid (Ms.atKey (kl p q) (.lit (.bool false)) = .lit (.bool true)) := Lib.hid (by rw [HAT.out, hpi])
                have HF : Hid (¬ WholeOk (rs.map Raw.plain)) := Lib.hid (fun hw => by
                  have h1 := (hw i (by rw [List.length_map]; exact hlt2) x.plain HXD.out).2
                  have h2 := HPF.out.2 (fun j y hj hy => h1 j y hj hy)
                  rw [hpi] at h2
                  cases h2)
                clear hpi
                go_wp2_with (at_lookup; refine wpList_lookup_own_bool _ rfl _ _ 166 rfl 168 4 keyedP Tryz.underlying166 Tryz.underlying4 (zeroB _) SB i Ms rfl hos3 _ _ rfl (key_pair hpI hqI) ?_; intro c' hat; obtain rfl : true = c' := bool_of (HPI.out.symm.trans hat))
                go_ret
                exact ⟨i, rfl, ⟨fun _ => HF.out, fun _ => by omega⟩, htr3.low⟩
              | false =>
                have HPI : Hid (Ms.atKey (kl p q) (.lit (.bool false)) = .lit (.bool false)) := Lib.hid (by rw [HAT.out, hpi])
                have HO : Hid (OkW (rs.map Raw.plain) i) := Lib.hid (fun z hz => by
                  rw [HXD.out] at hz
                  cases hz
                  exact ⟨HL18.out, fun j y hj hy => HPF.out.1 hpi j y hj hy⟩)
                have HR3 := Lib.hid (hr2.out.put HMS HXD.out HPQ.out hpI hqI)
                clear hpi
                go_wp2_with (first | (at_lookup; refine wpList_lookup_own_bool _ rfl _ _ 166 rfl 168 4 keyedP Tryz.underlying166 Tryz.underlying4 (zeroB _) SB i Ms rfl hos3 _ _ rfl (key_pair hpI hqI) ?_; intro c' hat; obtain rfl : false = c' := bool_of (HPI.out.symm.trans hat)) | (at_mapUpdate; refine wpList_mapUpdate_own _ rfl _ _ _ 166 rfl 168 4 keyedP Tryz.underlying166 _ SB i Ms rfl hos3 (by unfold maxLen; omega) _ _ _ rfl rfl (key_pair hpI hqI) _ [] (plainElem_bool Tryz.underlying4 true) ?_; intro w5 hos5 hg5))
                go_roundw
                case rel => exact ⟨i + 1, m2, M2, cnt2, _, by go_num, by omega, HM2, HRP2, hown3.kept hg5 (fun e => by have := Option.some.inj e; omega), HCN2, tree_other htr3 hg5 (by omega) (by omega) (by omega), hos5, HR3, Lib.hid (fun j h => by
                  by_cases e : j = i
                  · subst e; exact HO.out
                  · exact hok.out j (by omega))⟩
                case measure => simp [intOf]; omega
            · have e1 : ((x.is.length : Int) == 2) = false := by rw [beq_eq_false_iff_ne]; omega
              have HO : Hid (OkW (rs.map Raw.plain) i) := Lib.hid (fun z hz => by
                rw [HXD.out] at hz
                cases hz
                exact ⟨HL18.out, fun j y _ _ => same_short hl2⟩)
              have HR3 := Lib.hid (hr2.out.skip HXD.out hl2)
              clear hl2
              go_wp2_with fail
              go_roundw
              case rel => exact ⟨i + 1, m2, M2, cnt2, Ms, by go_num, by omega, HM2, HRP2, hown2, HCN2, htr2, hos2.mono (Nat.le_succ i), HR3, Lib.hid (fun j h => by
                by_cases e : j = i
                · subst e; exact HO.out
                · exact hok.out j (by omega))⟩
              case measure => simp [intOf]; omega
        · obtain rfl : rs.length = i := by omega
          have HT : Hid (WholeOk (rs.map Raw.plain)) := Lib.hid (fun j hj => hok.out j (by rw [List.length_map] at hj; exact hj))
          have hlow := htr.low
          go_wp2_with fail
          go_ret
          exact ⟨-1, rfl, ⟨fun h => by omega, fun h => absurd HT.out h⟩, hlow⟩
end Go.Proofs.YtgdambmineeboaaGreatDoor.WholeP
