/- The walks of the reference's Runes, sameValues, sameSpans, sameLists and Same, at what is the same. -/
import Derived.Test.YtgdambmineeboaaGreatDoorBBook
import Derived.Deep.QuietTactic
import Derived.BigQuiet
set_option linter.unusedSimpArgs false
set_option linter.unusedVariables false
namespace Go.Proofs.YtgdambmineeboaaGreatDoor.Same
open Go.RowKit Go.Lib Go.Proofs.YtgdambmineeboaaGreatDoor.Text Go.Proofs.YtgdambmineeboaaGreatDoor.Runes Go.Proofs.YtgdambmineeboaaGreatDoor.Print Go.Proofs.YtgdambmineeboaaGreatDoor.RefNine Go.Proofs.YtgdambmineeboaaGreatDoor.RefPrint Go.Proofs.YtgdambmineeboaaGreatDoor.Format Go.Proofs.YtgdambmineeboaaGreatDoor.Tell Go.Proofs.YtgdambmineeboaaGreatDoor.Given Go.Proofs.YtgdambmineeboaaGreatDoor.Mem Go.Proofs.YtgdambmineeboaaGreatDoor.Of Go.Proofs.YtgdambmineeboaaGreatDoor.Lists Go.Proofs.YtgdambmineeboaaGreatDoor.Book

set_option maxRecDepth 100000 in
set_option maxHeartbeats 2000000 in
theorem runes_same (a1 a2 : Option Addr) (l : List Int) (c1 c2 : Nat) (w : World) (hl : l.length ≤ 1048576) (h1 : Rs w a1 l) (h2 : Rs w a2 l) :
    Calls Tryz.prog 91 #[.slice a1 l.length c1, .slice a2 l.length c2] w fun e w' => e = .returned (.bool true) ∧ Quiet w w' := by
  have H1 := Lib.hid h1
  have H2 := Lib.hid h2
  clear h1 h2
  go_enter Tryz.func91, Tryz.ntmps91
  go_wp2
  go_loopw [13] (fun v w' => ∃ (i : Nat), v = .int .i64 i ∧ i ≤ l.length ∧ Quiet w w') (fun v _ => l.length - (intOf v).toNat)
  case atStart => exact ⟨0, rfl, Nat.zero_le _, Quiet.refl _⟩
  case round =>
    obtain ⟨i, rfl, hi, hq⟩ := hrel
    by_cases hlt : i < l.length
    · obtain ⟨x, hx⟩ : ∃ x, l[i]? = some x := ⟨_, List.getElem?_eq_getElem hlt⟩
      have hne : l ≠ [] := by rintro rfl; simp at hlt
      rcases H1.out.below hq.below with h0 | ⟨b1, o1, rfl, _, hc1⟩
      · exact absurd h0 hne
      rcases H2.out.below hq.below with h0 | ⟨b2, o2, rfl, _, hc2⟩
      · exact absurd h0 hne
      have q1 := hc1 i x hx
      have q2 := hc2 i x hx
      have HQ := Lib.hid (fun m => hq.more m)
      clear hc1 hc2 hx hne hq
      go_wp2
      go_quiet (fail)
      go_wp2
      go_roundw
      case rel => exact ⟨i + 1, by go_num, by omega, HQ.out _⟩
      case measure => simp [intOf]; omega
    · obtain rfl : i = l.length := by omega
      go_wp2
      go_ret
      exact ⟨rfl, hq⟩

set_option maxRecDepth 100000 in
set_option maxHeartbeats 2000000 in
theorem values_same (a1 a2 : Option Addr) (l : List Val) (c1 c2 : Nat) (w : World) (hl : l.length ≤ 1048576) (h1 : Vals w a1 l) (h2 : Vals w a2 l) :
    Calls Tryz.prog 34 #[.slice a1 l.length c1, .slice a2 l.length c2] w fun e w' => e = .returned (.bool true) ∧ Quiet w w' := by
  have H1 := Lib.hid h1
  have H2 := Lib.hid h2
  clear h1 h2
  go_enter Tryz.func34, Tryz.ntmps34
  go_wp2
  go_loopw [13] (fun v w' => ∃ (i : Nat), v = .int .i64 i ∧ i ≤ l.length ∧ Quiet w w') (fun v _ => l.length - (intOf v).toNat)
  case atStart => exact ⟨0, rfl, Nat.zero_le _, Quiet.refl _⟩
  case round =>
    obtain ⟨i, rfl, hi, hq⟩ := hrel
    by_cases hlt : i < l.length
    · obtain ⟨x, hx⟩ : ∃ x, l[i]? = some x := ⟨_, List.getElem?_eq_getElem hlt⟩
      have hne : l ≠ [] := by rintro rfl; simp at hlt
      rcases H1.out.below hq.below with h0 | ⟨b1, o1, rfl, _, hc1⟩
      · exact absurd h0 hne
      rcases H2.out.below hq.below with h0 | ⟨b2, o2, rfl, _, hc2⟩
      · exact absurd h0 hne
      obtain ⟨q1, q2, q3⟩ := vals_at (hc1 i x hx)
      obtain ⟨q4, q5, q6⟩ := vals_at (hc2 i x hx)
      have HQ := Lib.hid (fun m => hq.more m)
      clear hc1 hc2 hx hne hq
      go_wp2
      go_quiet (fail)
      go_wp2
      go_roundw
      case rel => exact ⟨i + 1, by go_num, by omega, HQ.out _⟩
      case measure => simp [intOf]; omega
    · obtain rfl : i = l.length := by omega
      go_wp2
      go_ret
      exact ⟨rfl, hq⟩
set_option maxRecDepth 100000 in
set_option maxHeartbeats 2000000 in
theorem spans_same (a1 a2 : Option Addr) (l : List Spn) (c1 c2 : Nat) (w : World) (hl : l.length ≤ 1048576) (h1 : Spns w a1 l) (h2 : Spns w a2 l) :
    Calls Tryz.prog 36 #[.slice a1 l.length c1, .slice a2 l.length c2] w fun e w' => e = .returned (.bool true) ∧ Quiet w w' := by
  have H1 := Lib.hid h1
  have H2 := Lib.hid h2
  clear h1 h2
  go_enter Tryz.func36, Tryz.ntmps36
  go_wp2
  go_loopw [13] (fun v w' => ∃ (i : Nat), v = .int .i64 i ∧ i ≤ l.length ∧ Quiet w w') (fun v _ => l.length - (intOf v).toNat)
  case atStart => exact ⟨0, rfl, Nat.zero_le _, Quiet.refl _⟩
  case round =>
    obtain ⟨i, rfl, hi, hq⟩ := hrel
    by_cases hlt : i < l.length
    · obtain ⟨x, hx⟩ : ∃ x, l[i]? = some x := ⟨_, List.getElem?_eq_getElem hlt⟩
      have hne : l ≠ [] := by rintro rfl; simp at hlt
      rcases H1.out.below hq.below with h0 | ⟨b1, o1, rfl, _, hc1⟩
      · exact absurd h0 hne
      rcases H2.out.below hq.below with h0 | ⟨b2, o2, rfl, _, hc2⟩
      · exact absurd h0 hne
      obtain ⟨q1, q2⟩ := spns_at (hc1 i x hx)
      obtain ⟨q4, q5⟩ := spns_at (hc2 i x hx)
      have HQ := Lib.hid (fun m => hq.more m)
      clear hc1 hc2 hx hne hq
      go_wp2
      go_quiet (fail)
      go_wp2
      go_roundw
      case rel => exact ⟨i + 1, by go_num, by omega, HQ.out _⟩
      case measure => simp [intOf]; omega
    · obtain rfl : i = l.length := by omega
      go_wp2
      go_ret
      exact ⟨rfl, hq⟩

theorem plain_len {r1 r2 : List Raw} {l : List Chr} (h1 : r1.map Raw.plain = l) (h2 : r2.map Raw.plain = l) : r1.length = l.length ∧ r2.length = l.length := ⟨by rw [← h1, List.length_map], by rw [← h2, List.length_map]⟩
theorem plain_at {r1 : List Raw} {l : List Chr} (h1 : r1.map Raw.plain = l) {i : Nat} {x : Chr} (hx : l[i]? = some x) : ∃ q : Raw, r1[i]? = some q ∧ q.a = x.a ∧ q.b = x.b ∧ q.is = x.is := by
  rw [← h1, List.getElem?_map] at hx
  cases hq : r1[i]? with
  | none => rw [hq] at hx; cases hx
  | some q => rw [hq] at hx; cases hx; exact ⟨q, rfl, rfl, rfl, rfl⟩

set_option maxRecDepth 100000 in
set_option maxHeartbeats 4000000 in
theorem lists_same (a1 a2 : Option Addr) (l : List Chr) (c1 c2 : Nat) (w : World) (hl : l.length ≤ 1048576) (hz : ∀ x ∈ l, x.is.length ≤ 1048576) (h1 : Chrs w a1 l) (h2 : Chrs w a2 l) :
    Calls Tryz.prog 35 #[.slice a1 l.length c1, .slice a2 l.length c2] w fun e w' => e = .returned (.bool true) ∧ Quiet w w' := by
  have HZ := Lib.hid hz
  obtain ⟨r1, t1, p1, n1⟩ := h1
  obtain ⟨r2, t2, p2, n2⟩ := h2
  have H1 := Lib.hid t1
  have H2 := Lib.hid t2
  have P1 := Lib.hid p1
  have P2 := Lib.hid p2
  have N1 := Lib.hid n1
  have N2 := Lib.hid n2
  clear t1 t2 p1 p2 n1 n2 hz
  go_enter Tryz.func35, Tryz.ntmps35
  go_wp2
  go_loopw [13] (fun v w' => ∃ (i : Nat), v = .int .i64 i ∧ i ≤ l.length ∧ Quiet w w') (fun v _ => l.length - (intOf v).toNat)
  case atStart => exact ⟨0, rfl, Nat.zero_le _, Quiet.refl _⟩
  case round =>
    obtain ⟨i, rfl, hi, hq⟩ := hrel
    by_cases hlt : i < l.length
    · obtain ⟨x, hx⟩ : ∃ x, l[i]? = some x := ⟨_, List.getElem?_eq_getElem hlt⟩
      obtain ⟨x1, hx1, e1, e2, e3⟩ := plain_at P1.out hx
      obtain ⟨x2, hx2, e4, e5, e6⟩ := plain_at P2.out hx
      rcases H1.out.below hq.below with h0 | ⟨b1, o1, rfl, _, hc1⟩
      · subst h0; simp at hx1
      rcases H2.out.below hq.below with h0 | ⟨b2, o2, rfl, _, hc2⟩
      · subst h0; simp at hx2
      obtain ⟨q1, q2, q3⟩ := raws_at (hc1 i x1 hx1)
      obtain ⟨q4, q5, q6⟩ := raws_at (hc2 i x2 hx2)
      have hR1 := (N1.out x1 (List.mem_of_getElem? hx1)).below hq.below
      have hR2 := (N2.out x2 (List.mem_of_getElem? hx2)).below hq.below
      rw [e1] at q1
      rw [e2] at q2
      rw [e4] at q4
      rw [e5] at q5
      rw [e3] at q3 hR1
      rw [e6] at q6 hR2
      have HR := Lib.hid (fun m => runes_same x1.ad x2.ad x.is x1.cap x2.cap (wr.drewN m) (HZ.out x (List.mem_of_getElem? hx)) (hR1.below ⟨rfl, rfl, rfl, Nat.le_refl _, fun _ _ => rfl⟩) (hR2.below ⟨rfl, rfl, rfl, Nat.le_refl _, fun _ _ => rfl⟩))
      have HQ := Lib.hid (fun m => hq.more m)
      clear hc1 hc2 hx hx1 hx2 hq hR1 hR2
      go_wp2
      go_quiet ((go_at_call 91; exact Calls.quiet_of (HR.out _)))
      go_wp2
      go_roundw
      case rel => exact ⟨i + 1, by go_num, by omega, HQ.out _⟩
      case measure => simp [intOf]; omega
    · obtain rfl : i = l.length := by omega
      go_wp2
      go_ret
      exact ⟨rfl, hq⟩

set_option maxRecDepth 100000 in
set_option maxHeartbeats 8000000 in
theorem same_book (B : Mem.Book) (A1 A2 : Ads) (w : World) (hs : Small B) (h1 : Lies w B A1) (h2 : Lies w B A2) :
    Calls Tryz.prog 8 #[bookV B A1, bookV B A2] w fun e w' => e = .returned (.bool true) ∧ Below w.heap.size w w' := by
  have hb0 : Below w.heap.size w ((w.alloc (.cells #[.slice A1.na B.names.length A1.nc, .slice A1.sa B.status.length A1.sc, .slice A1.ma B.maps.length A1.mc, .slice A1.ka B.cls.length A1.kc, .slice A1.da B.decomp.length A1.dc, .slice A1.xa B.excl.length A1.xc, .slice A1.ba B.bidi.length A1.bc, .slice A1.ja B.join.length A1.jc, .slice A1.qa B.marks.length A1.qc, .slice A1.ra B.script.length A1.rc, .slice A1.la B.like.length A1.lc] 33 (0, 0))).alloc (.cells #[.slice A2.na B.names.length A2.nc, .slice A2.sa B.status.length A2.sc, .slice A2.ma B.maps.length A2.mc, .slice A2.ka B.cls.length A2.kc, .slice A2.da B.decomp.length A2.dc, .slice A2.xa B.excl.length A2.xc, .slice A2.ba B.bidi.length A2.bc, .slice A2.ja B.join.length A2.jc, .slice A2.qa B.marks.length A2.qc, .slice A2.ra B.script.length A2.rc, .slice A2.la B.like.length A2.lc] 33 (0, 0))) := ((Below.refl _ _).alloc (Nat.le_refl _) _).alloc (by simp) _
  have hb : ∀ W, Quiet ((w.alloc (.cells #[.slice A1.na B.names.length A1.nc, .slice A1.sa B.status.length A1.sc, .slice A1.ma B.maps.length A1.mc, .slice A1.ka B.cls.length A1.kc, .slice A1.da B.decomp.length A1.dc, .slice A1.xa B.excl.length A1.xc, .slice A1.ba B.bidi.length A1.bc, .slice A1.ja B.join.length A1.jc, .slice A1.qa B.marks.length A1.qc, .slice A1.ra B.script.length A1.rc, .slice A1.la B.like.length A1.lc] 33 (0, 0))).alloc (.cells #[.slice A2.na B.names.length A2.nc, .slice A2.sa B.status.length A2.sc, .slice A2.ma B.maps.length A2.mc, .slice A2.ka B.cls.length A2.kc, .slice A2.da B.decomp.length A2.dc, .slice A2.xa B.excl.length A2.xc, .slice A2.ba B.bidi.length A2.bc, .slice A2.ja B.join.length A2.jc, .slice A2.qa B.marks.length A2.qc, .slice A2.ra B.script.length A2.rc, .slice A2.la B.like.length A2.lc] 33 (0, 0))) W → Below w.heap.size w W := fun W hq => hb0.trans (hq.below.mono (by simp; omega))
  have cs : ∀ W, Quiet ((w.alloc (.cells #[.slice A1.na B.names.length A1.nc, .slice A1.sa B.status.length A1.sc, .slice A1.ma B.maps.length A1.mc, .slice A1.ka B.cls.length A1.kc, .slice A1.da B.decomp.length A1.dc, .slice A1.xa B.excl.length A1.xc, .slice A1.ba B.bidi.length A1.bc, .slice A1.ja B.join.length A1.jc, .slice A1.qa B.marks.length A1.qc, .slice A1.ra B.script.length A1.rc, .slice A1.la B.like.length A1.lc] 33 (0, 0))).alloc (.cells #[.slice A2.na B.names.length A2.nc, .slice A2.sa B.status.length A2.sc, .slice A2.ma B.maps.length A2.mc, .slice A2.ka B.cls.length A2.kc, .slice A2.da B.decomp.length A2.dc, .slice A2.xa B.excl.length A2.xc, .slice A2.ba B.bidi.length A2.bc, .slice A2.ja B.join.length A2.jc, .slice A2.qa B.marks.length A2.qc, .slice A2.ra B.script.length A2.rc, .slice A2.la B.like.length A2.lc] 33 (0, 0))) W → Calls Tryz.prog 34 #[.slice A1.sa B.status.length A1.sc, .slice A2.sa B.status.length A2.sc] W fun e w' => e = .returned (.bool true) ∧ Quiet W w' := fun W hq => values_same A1.sa A2.sa B.status A1.sc A2.sc W hs.s (h1.s.below (hb W hq)) (h2.s.below (hb W hq))
  have cm : ∀ W, Quiet ((w.alloc (.cells #[.slice A1.na B.names.length A1.nc, .slice A1.sa B.status.length A1.sc, .slice A1.ma B.maps.length A1.mc, .slice A1.ka B.cls.length A1.kc, .slice A1.da B.decomp.length A1.dc, .slice A1.xa B.excl.length A1.xc, .slice A1.ba B.bidi.length A1.bc, .slice A1.ja B.join.length A1.jc, .slice A1.qa B.marks.length A1.qc, .slice A1.ra B.script.length A1.rc, .slice A1.la B.like.length A1.lc] 33 (0, 0))).alloc (.cells #[.slice A2.na B.names.length A2.nc, .slice A2.sa B.status.length A2.sc, .slice A2.ma B.maps.length A2.mc, .slice A2.ka B.cls.length A2.kc, .slice A2.da B.decomp.length A2.dc, .slice A2.xa B.excl.length A2.xc, .slice A2.ba B.bidi.length A2.bc, .slice A2.ja B.join.length A2.jc, .slice A2.qa B.marks.length A2.qc, .slice A2.ra B.script.length A2.rc, .slice A2.la B.like.length A2.lc] 33 (0, 0))) W → Calls Tryz.prog 35 #[.slice A1.ma B.maps.length A1.mc, .slice A2.ma B.maps.length A2.mc] W fun e w' => e = .returned (.bool true) ∧ Quiet W w' := fun W hq => lists_same A1.ma A2.ma B.maps A1.mc A2.mc W hs.m hs.mi (h1.m.below (hb W hq)) (h2.m.below (hb W hq))
  have ck : ∀ W, Quiet ((w.alloc (.cells #[.slice A1.na B.names.length A1.nc, .slice A1.sa B.status.length A1.sc, .slice A1.ma B.maps.length A1.mc, .slice A1.ka B.cls.length A1.kc, .slice A1.da B.decomp.length A1.dc, .slice A1.xa B.excl.length A1.xc, .slice A1.ba B.bidi.length A1.bc, .slice A1.ja B.join.length A1.jc, .slice A1.qa B.marks.length A1.qc, .slice A1.ra B.script.length A1.rc, .slice A1.la B.like.length A1.lc] 33 (0, 0))).alloc (.cells #[.slice A2.na B.names.length A2.nc, .slice A2.sa B.status.length A2.sc, .slice A2.ma B.maps.length A2.mc, .slice A2.ka B.cls.length A2.kc, .slice A2.da B.decomp.length A2.dc, .slice A2.xa B.excl.length A2.xc, .slice A2.ba B.bidi.length A2.bc, .slice A2.ja B.join.length A2.jc, .slice A2.qa B.marks.length A2.qc, .slice A2.ra B.script.length A2.rc, .slice A2.la B.like.length A2.lc] 33 (0, 0))) W → Calls Tryz.prog 34 #[.slice A1.ka B.cls.length A1.kc, .slice A2.ka B.cls.length A2.kc] W fun e w' => e = .returned (.bool true) ∧ Quiet W w' := fun W hq => values_same A1.ka A2.ka B.cls A1.kc A2.kc W hs.k (h1.k.below (hb W hq)) (h2.k.below (hb W hq))
  have cd : ∀ W, Quiet ((w.alloc (.cells #[.slice A1.na B.names.length A1.nc, .slice A1.sa B.status.length A1.sc, .slice A1.ma B.maps.length A1.mc, .slice A1.ka B.cls.length A1.kc, .slice A1.da B.decomp.length A1.dc, .slice A1.xa B.excl.length A1.xc, .slice A1.ba B.bidi.length A1.bc, .slice A1.ja B.join.length A1.jc, .slice A1.qa B.marks.length A1.qc, .slice A1.ra B.script.length A1.rc, .slice A1.la B.like.length A1.lc] 33 (0, 0))).alloc (.cells #[.slice A2.na B.names.length A2.nc, .slice A2.sa B.status.length A2.sc, .slice A2.ma B.maps.length A2.mc, .slice A2.ka B.cls.length A2.kc, .slice A2.da B.decomp.length A2.dc, .slice A2.xa B.excl.length A2.xc, .slice A2.ba B.bidi.length A2.bc, .slice A2.ja B.join.length A2.jc, .slice A2.qa B.marks.length A2.qc, .slice A2.ra B.script.length A2.rc, .slice A2.la B.like.length A2.lc] 33 (0, 0))) W → Calls Tryz.prog 35 #[.slice A1.da B.decomp.length A1.dc, .slice A2.da B.decomp.length A2.dc] W fun e w' => e = .returned (.bool true) ∧ Quiet W w' := fun W hq => lists_same A1.da A2.da B.decomp A1.dc A2.dc W hs.d hs.di (h1.d.below (hb W hq)) (h2.d.below (hb W hq))
  have cx : ∀ W, Quiet ((w.alloc (.cells #[.slice A1.na B.names.length A1.nc, .slice A1.sa B.status.length A1.sc, .slice A1.ma B.maps.length A1.mc, .slice A1.ka B.cls.length A1.kc, .slice A1.da B.decomp.length A1.dc, .slice A1.xa B.excl.length A1.xc, .slice A1.ba B.bidi.length A1.bc, .slice A1.ja B.join.length A1.jc, .slice A1.qa B.marks.length A1.qc, .slice A1.ra B.script.length A1.rc, .slice A1.la B.like.length A1.lc] 33 (0, 0))).alloc (.cells #[.slice A2.na B.names.length A2.nc, .slice A2.sa B.status.length A2.sc, .slice A2.ma B.maps.length A2.mc, .slice A2.ka B.cls.length A2.kc, .slice A2.da B.decomp.length A2.dc, .slice A2.xa B.excl.length A2.xc, .slice A2.ba B.bidi.length A2.bc, .slice A2.ja B.join.length A2.jc, .slice A2.qa B.marks.length A2.qc, .slice A2.ra B.script.length A2.rc, .slice A2.la B.like.length A2.lc] 33 (0, 0))) W → Calls Tryz.prog 36 #[.slice A1.xa B.excl.length A1.xc, .slice A2.xa B.excl.length A2.xc] W fun e w' => e = .returned (.bool true) ∧ Quiet W w' := fun W hq => spans_same A1.xa A2.xa B.excl A1.xc A2.xc W hs.x (h1.x.below (hb W hq)) (h2.x.below (hb W hq))
  have cb : ∀ W, Quiet ((w.alloc (.cells #[.slice A1.na B.names.length A1.nc, .slice A1.sa B.status.length A1.sc, .slice A1.ma B.maps.length A1.mc, .slice A1.ka B.cls.length A1.kc, .slice A1.da B.decomp.length A1.dc, .slice A1.xa B.excl.length A1.xc, .slice A1.ba B.bidi.length A1.bc, .slice A1.ja B.join.length A1.jc, .slice A1.qa B.marks.length A1.qc, .slice A1.ra B.script.length A1.rc, .slice A1.la B.like.length A1.lc] 33 (0, 0))).alloc (.cells #[.slice A2.na B.names.length A2.nc, .slice A2.sa B.status.length A2.sc, .slice A2.ma B.maps.length A2.mc, .slice A2.ka B.cls.length A2.kc, .slice A2.da B.decomp.length A2.dc, .slice A2.xa B.excl.length A2.xc, .slice A2.ba B.bidi.length A2.bc, .slice A2.ja B.join.length A2.jc, .slice A2.qa B.marks.length A2.qc, .slice A2.ra B.script.length A2.rc, .slice A2.la B.like.length A2.lc] 33 (0, 0))) W → Calls Tryz.prog 34 #[.slice A1.ba B.bidi.length A1.bc, .slice A2.ba B.bidi.length A2.bc] W fun e w' => e = .returned (.bool true) ∧ Quiet W w' := fun W hq => values_same A1.ba A2.ba B.bidi A1.bc A2.bc W hs.b (h1.b.below (hb W hq)) (h2.b.below (hb W hq))
  have cj : ∀ W, Quiet ((w.alloc (.cells #[.slice A1.na B.names.length A1.nc, .slice A1.sa B.status.length A1.sc, .slice A1.ma B.maps.length A1.mc, .slice A1.ka B.cls.length A1.kc, .slice A1.da B.decomp.length A1.dc, .slice A1.xa B.excl.length A1.xc, .slice A1.ba B.bidi.length A1.bc, .slice A1.ja B.join.length A1.jc, .slice A1.qa B.marks.length A1.qc, .slice A1.ra B.script.length A1.rc, .slice A1.la B.like.length A1.lc] 33 (0, 0))).alloc (.cells #[.slice A2.na B.names.length A2.nc, .slice A2.sa B.status.length A2.sc, .slice A2.ma B.maps.length A2.mc, .slice A2.ka B.cls.length A2.kc, .slice A2.da B.decomp.length A2.dc, .slice A2.xa B.excl.length A2.xc, .slice A2.ba B.bidi.length A2.bc, .slice A2.ja B.join.length A2.jc, .slice A2.qa B.marks.length A2.qc, .slice A2.ra B.script.length A2.rc, .slice A2.la B.like.length A2.lc] 33 (0, 0))) W → Calls Tryz.prog 34 #[.slice A1.ja B.join.length A1.jc, .slice A2.ja B.join.length A2.jc] W fun e w' => e = .returned (.bool true) ∧ Quiet W w' := fun W hq => values_same A1.ja A2.ja B.join A1.jc A2.jc W hs.j (h1.j.below (hb W hq)) (h2.j.below (hb W hq))
  have cq : ∀ W, Quiet ((w.alloc (.cells #[.slice A1.na B.names.length A1.nc, .slice A1.sa B.status.length A1.sc, .slice A1.ma B.maps.length A1.mc, .slice A1.ka B.cls.length A1.kc, .slice A1.da B.decomp.length A1.dc, .slice A1.xa B.excl.length A1.xc, .slice A1.ba B.bidi.length A1.bc, .slice A1.ja B.join.length A1.jc, .slice A1.qa B.marks.length A1.qc, .slice A1.ra B.script.length A1.rc, .slice A1.la B.like.length A1.lc] 33 (0, 0))).alloc (.cells #[.slice A2.na B.names.length A2.nc, .slice A2.sa B.status.length A2.sc, .slice A2.ma B.maps.length A2.mc, .slice A2.ka B.cls.length A2.kc, .slice A2.da B.decomp.length A2.dc, .slice A2.xa B.excl.length A2.xc, .slice A2.ba B.bidi.length A2.bc, .slice A2.ja B.join.length A2.jc, .slice A2.qa B.marks.length A2.qc, .slice A2.ra B.script.length A2.rc, .slice A2.la B.like.length A2.lc] 33 (0, 0))) W → Calls Tryz.prog 36 #[.slice A1.qa B.marks.length A1.qc, .slice A2.qa B.marks.length A2.qc] W fun e w' => e = .returned (.bool true) ∧ Quiet W w' := fun W hq => spans_same A1.qa A2.qa B.marks A1.qc A2.qc W hs.q (h1.q.below (hb W hq)) (h2.q.below (hb W hq))
  have cr : ∀ W, Quiet ((w.alloc (.cells #[.slice A1.na B.names.length A1.nc, .slice A1.sa B.status.length A1.sc, .slice A1.ma B.maps.length A1.mc, .slice A1.ka B.cls.length A1.kc, .slice A1.da B.decomp.length A1.dc, .slice A1.xa B.excl.length A1.xc, .slice A1.ba B.bidi.length A1.bc, .slice A1.ja B.join.length A1.jc, .slice A1.qa B.marks.length A1.qc, .slice A1.ra B.script.length A1.rc, .slice A1.la B.like.length A1.lc] 33 (0, 0))).alloc (.cells #[.slice A2.na B.names.length A2.nc, .slice A2.sa B.status.length A2.sc, .slice A2.ma B.maps.length A2.mc, .slice A2.ka B.cls.length A2.kc, .slice A2.da B.decomp.length A2.dc, .slice A2.xa B.excl.length A2.xc, .slice A2.ba B.bidi.length A2.bc, .slice A2.ja B.join.length A2.jc, .slice A2.qa B.marks.length A2.qc, .slice A2.ra B.script.length A2.rc, .slice A2.la B.like.length A2.lc] 33 (0, 0))) W → Calls Tryz.prog 34 #[.slice A1.ra B.script.length A1.rc, .slice A2.ra B.script.length A2.rc] W fun e w' => e = .returned (.bool true) ∧ Quiet W w' := fun W hq => values_same A1.ra A2.ra B.script A1.rc A2.rc W hs.r (h1.r.below (hb W hq)) (h2.r.below (hb W hq))
  have cl : ∀ W, Quiet ((w.alloc (.cells #[.slice A1.na B.names.length A1.nc, .slice A1.sa B.status.length A1.sc, .slice A1.ma B.maps.length A1.mc, .slice A1.ka B.cls.length A1.kc, .slice A1.da B.decomp.length A1.dc, .slice A1.xa B.excl.length A1.xc, .slice A1.ba B.bidi.length A1.bc, .slice A1.ja B.join.length A1.jc, .slice A1.qa B.marks.length A1.qc, .slice A1.ra B.script.length A1.rc, .slice A1.la B.like.length A1.lc] 33 (0, 0))).alloc (.cells #[.slice A2.na B.names.length A2.nc, .slice A2.sa B.status.length A2.sc, .slice A2.ma B.maps.length A2.mc, .slice A2.ka B.cls.length A2.kc, .slice A2.da B.decomp.length A2.dc, .slice A2.xa B.excl.length A2.xc, .slice A2.ba B.bidi.length A2.bc, .slice A2.ja B.join.length A2.jc, .slice A2.qa B.marks.length A2.qc, .slice A2.ra B.script.length A2.rc, .slice A2.la B.like.length A2.lc] 33 (0, 0))) W → Calls Tryz.prog 35 #[.slice A1.la B.like.length A1.lc, .slice A2.la B.like.length A2.lc] W fun e w' => e = .returned (.bool true) ∧ Quiet W w' := fun W hq => lists_same A1.la A2.la B.like A1.lc A2.lc W hs.l hs.li (h1.l.below (hb W hq)) (h2.l.below (hb W hq))
  have Cs := Lib.hid cs
  have Cm := Lib.hid cm
  have Ck := Lib.hid ck
  have Cd := Lib.hid cd
  have Cx := Lib.hid cx
  have Cb := Lib.hid cb
  have Cj := Lib.hid cj
  have Cq := Lib.hid cq
  have Cr := Lib.hid cr
  have Cl := Lib.hid cl
  have CN := Lib.hid (fun W (hq : Quiet ((w.alloc (.cells #[.slice A1.na B.names.length A1.nc, .slice A1.sa B.status.length A1.sc, .slice A1.ma B.maps.length A1.mc, .slice A1.ka B.cls.length A1.kc, .slice A1.da B.decomp.length A1.dc, .slice A1.xa B.excl.length A1.xc, .slice A1.ba B.bidi.length A1.bc, .slice A1.ja B.join.length A1.jc, .slice A1.qa B.marks.length A1.qc, .slice A1.ra B.script.length A1.rc, .slice A1.la B.like.length A1.lc] 33 (0, 0))).alloc (.cells #[.slice A2.na B.names.length A2.nc, .slice A2.sa B.status.length A2.sc, .slice A2.ma B.maps.length A2.mc, .slice A2.ka B.cls.length A2.kc, .slice A2.da B.decomp.length A2.dc, .slice A2.xa B.excl.length A2.xc, .slice A2.ba B.bidi.length A2.bc, .slice A2.ja B.join.length A2.jc, .slice A2.qa B.marks.length A2.qc, .slice A2.ra B.script.length A2.rc, .slice A2.la B.like.length A2.lc] 33 (0, 0))) W) => And.intro (h1.n.below (hb W hq)) (h2.n.below (hb W hq)))
  have HB := Lib.hid hb
  have hnl := hs.n
  clear cs cm ck cd cx cb cj cq cr cl h1 h2 hb
  unfold bookV
  clear hb0
  generalize A1.na = na1 at *
  generalize A2.na = na2 at *
  have hsec : ∀ (k : Nat) v, (#[.slice na2 B.names.length A2.nc, .slice A2.sa B.status.length A2.sc, .slice A2.ma B.maps.length A2.mc, .slice A2.ka B.cls.length A2.kc, .slice A2.da B.decomp.length A2.dc, .slice A2.xa B.excl.length A2.xc, .slice A2.ba B.bidi.length A2.bc, .slice A2.ja B.join.length A2.jc, .slice A2.qa B.marks.length A2.qc, .slice A2.ra B.script.length A2.rc, .slice A2.la B.like.length A2.lc] : Array Value)[k]? = some v → ((w.alloc (.cells #[.slice na1 B.names.length A1.nc, .slice A1.sa B.status.length A1.sc, .slice A1.ma B.maps.length A1.mc, .slice A1.ka B.cls.length A1.kc, .slice A1.da B.decomp.length A1.dc, .slice A1.xa B.excl.length A1.xc, .slice A1.ba B.bidi.length A1.bc, .slice A1.ja B.join.length A1.jc, .slice A1.qa B.marks.length A1.qc, .slice A1.ra B.script.length A1.rc, .slice A1.la B.like.length A1.lc] 33 (0, 0))).alloc (.cells #[.slice na2 B.names.length A2.nc, .slice A2.sa B.status.length A2.sc, .slice A2.ma B.maps.length A2.mc, .slice A2.ka B.cls.length A2.kc, .slice A2.da B.decomp.length A2.dc, .slice A2.xa B.excl.length A2.xc, .slice A2.ba B.bidi.length A2.bc, .slice A2.ja B.join.length A2.jc, .slice A2.qa B.marks.length A2.qc, .slice A2.ra B.script.length A2.rc, .slice A2.la B.like.length A2.lc] 33 (0, 0))).cell? ⟨w.heap.size + 1, k, none⟩ = some v := fun k v hv => by
    have h := World.cell?_alloc_new (w.alloc (.cells #[.slice na1 B.names.length A1.nc, .slice A1.sa B.status.length A1.sc, .slice A1.ma B.maps.length A1.mc, .slice A1.ka B.cls.length A1.kc, .slice A1.da B.decomp.length A1.dc, .slice A1.xa B.excl.length A1.xc, .slice A1.ba B.bidi.length A1.bc, .slice A1.ja B.join.length A1.jc, .slice A1.qa B.marks.length A1.qc, .slice A1.ra B.script.length A1.rc, .slice A1.la B.like.length A1.lc] 33 (0, 0))) #[.slice na2 B.names.length A2.nc, .slice A2.sa B.status.length A2.sc, .slice A2.ma B.maps.length A2.mc, .slice A2.ka B.cls.length A2.kc, .slice A2.da B.decomp.length A2.dc, .slice A2.xa B.excl.length A2.xc, .slice A2.ba B.bidi.length A2.bc, .slice A2.ja B.join.length A2.jc, .slice A2.qa B.marks.length A2.qc, .slice A2.ra B.script.length A2.rc, .slice A2.la B.like.length A2.lc] 33 k
    rw [World.size_alloc] at h
    exact h.trans hv
  have y1x0 : ∀ W, Quiet ((w.alloc (.cells #[.slice na1 B.names.length A1.nc, .slice A1.sa B.status.length A1.sc, .slice A1.ma B.maps.length A1.mc, .slice A1.ka B.cls.length A1.kc, .slice A1.da B.decomp.length A1.dc, .slice A1.xa B.excl.length A1.xc, .slice A1.ba B.bidi.length A1.bc, .slice A1.ja B.join.length A1.jc, .slice A1.qa B.marks.length A1.qc, .slice A1.ra B.script.length A1.rc, .slice A1.la B.like.length A1.lc] 33 (0, 0))).alloc (.cells #[.slice na2 B.names.length A2.nc, .slice A2.sa B.status.length A2.sc, .slice A2.ma B.maps.length A2.mc, .slice A2.ka B.cls.length A2.kc, .slice A2.da B.decomp.length A2.dc, .slice A2.xa B.excl.length A2.xc, .slice A2.ba B.bidi.length A2.bc, .slice A2.ja B.join.length A2.jc, .slice A2.qa B.marks.length A2.qc, .slice A2.ra B.script.length A2.rc, .slice A2.la B.like.length A2.lc] 33 (0, 0))) W → W.cell? ⟨w.heap.size, 0, none⟩ = some (.slice na1 B.names.length A1.nc) := fun W ⟨n, hn⟩ => by
    subst hn
    exact (World.cell?_alloc_lt (w := w.alloc (.cells #[.slice na1 B.names.length A1.nc, .slice A1.sa B.status.length A1.sc, .slice A1.ma B.maps.length A1.mc, .slice A1.ka B.cls.length A1.kc, .slice A1.da B.decomp.length A1.dc, .slice A1.xa B.excl.length A1.xc, .slice A1.ba B.bidi.length A1.bc, .slice A1.ja B.join.length A1.jc, .slice A1.qa B.marks.length A1.qc, .slice A1.ra B.script.length A1.rc, .slice A1.la B.like.length A1.lc] 33 (0, 0))) (o := _) (a := ⟨w.heap.size, 0, none⟩) (by simp)).trans ((World.cell?_alloc_new w _ _ 0).trans rfl)
  have y1x1 : ∀ W, Quiet ((w.alloc (.cells #[.slice na1 B.names.length A1.nc, .slice A1.sa B.status.length A1.sc, .slice A1.ma B.maps.length A1.mc, .slice A1.ka B.cls.length A1.kc, .slice A1.da B.decomp.length A1.dc, .slice A1.xa B.excl.length A1.xc, .slice A1.ba B.bidi.length A1.bc, .slice A1.ja B.join.length A1.jc, .slice A1.qa B.marks.length A1.qc, .slice A1.ra B.script.length A1.rc, .slice A1.la B.like.length A1.lc] 33 (0, 0))).alloc (.cells #[.slice na2 B.names.length A2.nc, .slice A2.sa B.status.length A2.sc, .slice A2.ma B.maps.length A2.mc, .slice A2.ka B.cls.length A2.kc, .slice A2.da B.decomp.length A2.dc, .slice A2.xa B.excl.length A2.xc, .slice A2.ba B.bidi.length A2.bc, .slice A2.ja B.join.length A2.jc, .slice A2.qa B.marks.length A2.qc, .slice A2.ra B.script.length A2.rc, .slice A2.la B.like.length A2.lc] 33 (0, 0))) W → W.cell? ⟨w.heap.size, 1, none⟩ = some (.slice A1.sa B.status.length A1.sc) := fun W ⟨n, hn⟩ => by
    subst hn
    exact (World.cell?_alloc_lt (w := w.alloc (.cells #[.slice na1 B.names.length A1.nc, .slice A1.sa B.status.length A1.sc, .slice A1.ma B.maps.length A1.mc, .slice A1.ka B.cls.length A1.kc, .slice A1.da B.decomp.length A1.dc, .slice A1.xa B.excl.length A1.xc, .slice A1.ba B.bidi.length A1.bc, .slice A1.ja B.join.length A1.jc, .slice A1.qa B.marks.length A1.qc, .slice A1.ra B.script.length A1.rc, .slice A1.la B.like.length A1.lc] 33 (0, 0))) (o := _) (a := ⟨w.heap.size, 1, none⟩) (by simp)).trans ((World.cell?_alloc_new w _ _ 1).trans rfl)
  have y1x2 : ∀ W, Quiet ((w.alloc (.cells #[.slice na1 B.names.length A1.nc, .slice A1.sa B.status.length A1.sc, .slice A1.ma B.maps.length A1.mc, .slice A1.ka B.cls.length A1.kc, .slice A1.da B.decomp.length A1.dc, .slice A1.xa B.excl.length A1.xc, .slice A1.ba B.bidi.length A1.bc, .slice A1.ja B.join.length A1.jc, .slice A1.qa B.marks.length A1.qc, .slice A1.ra B.script.length A1.rc, .slice A1.la B.like.length A1.lc] 33 (0, 0))).alloc (.cells #[.slice na2 B.names.length A2.nc, .slice A2.sa B.status.length A2.sc, .slice A2.ma B.maps.length A2.mc, .slice A2.ka B.cls.length A2.kc, .slice A2.da B.decomp.length A2.dc, .slice A2.xa B.excl.length A2.xc, .slice A2.ba B.bidi.length A2.bc, .slice A2.ja B.join.length A2.jc, .slice A2.qa B.marks.length A2.qc, .slice A2.ra B.script.length A2.rc, .slice A2.la B.like.length A2.lc] 33 (0, 0))) W → W.cell? ⟨w.heap.size, 2, none⟩ = some (.slice A1.ma B.maps.length A1.mc) := fun W ⟨n, hn⟩ => by
    subst hn
    exact (World.cell?_alloc_lt (w := w.alloc (.cells #[.slice na1 B.names.length A1.nc, .slice A1.sa B.status.length A1.sc, .slice A1.ma B.maps.length A1.mc, .slice A1.ka B.cls.length A1.kc, .slice A1.da B.decomp.length A1.dc, .slice A1.xa B.excl.length A1.xc, .slice A1.ba B.bidi.length A1.bc, .slice A1.ja B.join.length A1.jc, .slice A1.qa B.marks.length A1.qc, .slice A1.ra B.script.length A1.rc, .slice A1.la B.like.length A1.lc] 33 (0, 0))) (o := _) (a := ⟨w.heap.size, 2, none⟩) (by simp)).trans ((World.cell?_alloc_new w _ _ 2).trans rfl)
  have y1x3 : ∀ W, Quiet ((w.alloc (.cells #[.slice na1 B.names.length A1.nc, .slice A1.sa B.status.length A1.sc, .slice A1.ma B.maps.length A1.mc, .slice A1.ka B.cls.length A1.kc, .slice A1.da B.decomp.length A1.dc, .slice A1.xa B.excl.length A1.xc, .slice A1.ba B.bidi.length A1.bc, .slice A1.ja B.join.length A1.jc, .slice A1.qa B.marks.length A1.qc, .slice A1.ra B.script.length A1.rc, .slice A1.la B.like.length A1.lc] 33 (0, 0))).alloc (.cells #[.slice na2 B.names.length A2.nc, .slice A2.sa B.status.length A2.sc, .slice A2.ma B.maps.length A2.mc, .slice A2.ka B.cls.length A2.kc, .slice A2.da B.decomp.length A2.dc, .slice A2.xa B.excl.length A2.xc, .slice A2.ba B.bidi.length A2.bc, .slice A2.ja B.join.length A2.jc, .slice A2.qa B.marks.length A2.qc, .slice A2.ra B.script.length A2.rc, .slice A2.la B.like.length A2.lc] 33 (0, 0))) W → W.cell? ⟨w.heap.size, 3, none⟩ = some (.slice A1.ka B.cls.length A1.kc) := fun W ⟨n, hn⟩ => by
    subst hn
    exact (World.cell?_alloc_lt (w := w.alloc (.cells #[.slice na1 B.names.length A1.nc, .slice A1.sa B.status.length A1.sc, .slice A1.ma B.maps.length A1.mc, .slice A1.ka B.cls.length A1.kc, .slice A1.da B.decomp.length A1.dc, .slice A1.xa B.excl.length A1.xc, .slice A1.ba B.bidi.length A1.bc, .slice A1.ja B.join.length A1.jc, .slice A1.qa B.marks.length A1.qc, .slice A1.ra B.script.length A1.rc, .slice A1.la B.like.length A1.lc] 33 (0, 0))) (o := _) (a := ⟨w.heap.size, 3, none⟩) (by simp)).trans ((World.cell?_alloc_new w _ _ 3).trans rfl)
  have y1x4 : ∀ W, Quiet ((w.alloc (.cells #[.slice na1 B.names.length A1.nc, .slice A1.sa B.status.length A1.sc, .slice A1.ma B.maps.length A1.mc, .slice A1.ka B.cls.length A1.kc, .slice A1.da B.decomp.length A1.dc, .slice A1.xa B.excl.length A1.xc, .slice A1.ba B.bidi.length A1.bc, .slice A1.ja B.join.length A1.jc, .slice A1.qa B.marks.length A1.qc, .slice A1.ra B.script.length A1.rc, .slice A1.la B.like.length A1.lc] 33 (0, 0))).alloc (.cells #[.slice na2 B.names.length A2.nc, .slice A2.sa B.status.length A2.sc, .slice A2.ma B.maps.length A2.mc, .slice A2.ka B.cls.length A2.kc, .slice A2.da B.decomp.length A2.dc, .slice A2.xa B.excl.length A2.xc, .slice A2.ba B.bidi.length A2.bc, .slice A2.ja B.join.length A2.jc, .slice A2.qa B.marks.length A2.qc, .slice A2.ra B.script.length A2.rc, .slice A2.la B.like.length A2.lc] 33 (0, 0))) W → W.cell? ⟨w.heap.size, 4, none⟩ = some (.slice A1.da B.decomp.length A1.dc) := fun W ⟨n, hn⟩ => by
    subst hn
    exact (World.cell?_alloc_lt (w := w.alloc (.cells #[.slice na1 B.names.length A1.nc, .slice A1.sa B.status.length A1.sc, .slice A1.ma B.maps.length A1.mc, .slice A1.ka B.cls.length A1.kc, .slice A1.da B.decomp.length A1.dc, .slice A1.xa B.excl.length A1.xc, .slice A1.ba B.bidi.length A1.bc, .slice A1.ja B.join.length A1.jc, .slice A1.qa B.marks.length A1.qc, .slice A1.ra B.script.length A1.rc, .slice A1.la B.like.length A1.lc] 33 (0, 0))) (o := _) (a := ⟨w.heap.size, 4, none⟩) (by simp)).trans ((World.cell?_alloc_new w _ _ 4).trans rfl)
  have y1x5 : ∀ W, Quiet ((w.alloc (.cells #[.slice na1 B.names.length A1.nc, .slice A1.sa B.status.length A1.sc, .slice A1.ma B.maps.length A1.mc, .slice A1.ka B.cls.length A1.kc, .slice A1.da B.decomp.length A1.dc, .slice A1.xa B.excl.length A1.xc, .slice A1.ba B.bidi.length A1.bc, .slice A1.ja B.join.length A1.jc, .slice A1.qa B.marks.length A1.qc, .slice A1.ra B.script.length A1.rc, .slice A1.la B.like.length A1.lc] 33 (0, 0))).alloc (.cells #[.slice na2 B.names.length A2.nc, .slice A2.sa B.status.length A2.sc, .slice A2.ma B.maps.length A2.mc, .slice A2.ka B.cls.length A2.kc, .slice A2.da B.decomp.length A2.dc, .slice A2.xa B.excl.length A2.xc, .slice A2.ba B.bidi.length A2.bc, .slice A2.ja B.join.length A2.jc, .slice A2.qa B.marks.length A2.qc, .slice A2.ra B.script.length A2.rc, .slice A2.la B.like.length A2.lc] 33 (0, 0))) W → W.cell? ⟨w.heap.size, 5, none⟩ = some (.slice A1.xa B.excl.length A1.xc) := fun W ⟨n, hn⟩ => by
    subst hn
    exact (World.cell?_alloc_lt (w := w.alloc (.cells #[.slice na1 B.names.length A1.nc, .slice A1.sa B.status.length A1.sc, .slice A1.ma B.maps.length A1.mc, .slice A1.ka B.cls.length A1.kc, .slice A1.da B.decomp.length A1.dc, .slice A1.xa B.excl.length A1.xc, .slice A1.ba B.bidi.length A1.bc, .slice A1.ja B.join.length A1.jc, .slice A1.qa B.marks.length A1.qc, .slice A1.ra B.script.length A1.rc, .slice A1.la B.like.length A1.lc] 33 (0, 0))) (o := _) (a := ⟨w.heap.size, 5, none⟩) (by simp)).trans ((World.cell?_alloc_new w _ _ 5).trans rfl)
  have y1x6 : ∀ W, Quiet ((w.alloc (.cells #[.slice na1 B.names.length A1.nc, .slice A1.sa B.status.length A1.sc, .slice A1.ma B.maps.length A1.mc, .slice A1.ka B.cls.length A1.kc, .slice A1.da B.decomp.length A1.dc, .slice A1.xa B.excl.length A1.xc, .slice A1.ba B.bidi.length A1.bc, .slice A1.ja B.join.length A1.jc, .slice A1.qa B.marks.length A1.qc, .slice A1.ra B.script.length A1.rc, .slice A1.la B.like.length A1.lc] 33 (0, 0))).alloc (.cells #[.slice na2 B.names.length A2.nc, .slice A2.sa B.status.length A2.sc, .slice A2.ma B.maps.length A2.mc, .slice A2.ka B.cls.length A2.kc, .slice A2.da B.decomp.length A2.dc, .slice A2.xa B.excl.length A2.xc, .slice A2.ba B.bidi.length A2.bc, .slice A2.ja B.join.length A2.jc, .slice A2.qa B.marks.length A2.qc, .slice A2.ra B.script.length A2.rc, .slice A2.la B.like.length A2.lc] 33 (0, 0))) W → W.cell? ⟨w.heap.size, 6, none⟩ = some (.slice A1.ba B.bidi.length A1.bc) := fun W ⟨n, hn⟩ => by
    subst hn
    exact (World.cell?_alloc_lt (w := w.alloc (.cells #[.slice na1 B.names.length A1.nc, .slice A1.sa B.status.length A1.sc, .slice A1.ma B.maps.length A1.mc, .slice A1.ka B.cls.length A1.kc, .slice A1.da B.decomp.length A1.dc, .slice A1.xa B.excl.length A1.xc, .slice A1.ba B.bidi.length A1.bc, .slice A1.ja B.join.length A1.jc, .slice A1.qa B.marks.length A1.qc, .slice A1.ra B.script.length A1.rc, .slice A1.la B.like.length A1.lc] 33 (0, 0))) (o := _) (a := ⟨w.heap.size, 6, none⟩) (by simp)).trans ((World.cell?_alloc_new w _ _ 6).trans rfl)
  have y1x7 : ∀ W, Quiet ((w.alloc (.cells #[.slice na1 B.names.length A1.nc, .slice A1.sa B.status.length A1.sc, .slice A1.ma B.maps.length A1.mc, .slice A1.ka B.cls.length A1.kc, .slice A1.da B.decomp.length A1.dc, .slice A1.xa B.excl.length A1.xc, .slice A1.ba B.bidi.length A1.bc, .slice A1.ja B.join.length A1.jc, .slice A1.qa B.marks.length A1.qc, .slice A1.ra B.script.length A1.rc, .slice A1.la B.like.length A1.lc] 33 (0, 0))).alloc (.cells #[.slice na2 B.names.length A2.nc, .slice A2.sa B.status.length A2.sc, .slice A2.ma B.maps.length A2.mc, .slice A2.ka B.cls.length A2.kc, .slice A2.da B.decomp.length A2.dc, .slice A2.xa B.excl.length A2.xc, .slice A2.ba B.bidi.length A2.bc, .slice A2.ja B.join.length A2.jc, .slice A2.qa B.marks.length A2.qc, .slice A2.ra B.script.length A2.rc, .slice A2.la B.like.length A2.lc] 33 (0, 0))) W → W.cell? ⟨w.heap.size, 7, none⟩ = some (.slice A1.ja B.join.length A1.jc) := fun W ⟨n, hn⟩ => by
    subst hn
    exact (World.cell?_alloc_lt (w := w.alloc (.cells #[.slice na1 B.names.length A1.nc, .slice A1.sa B.status.length A1.sc, .slice A1.ma B.maps.length A1.mc, .slice A1.ka B.cls.length A1.kc, .slice A1.da B.decomp.length A1.dc, .slice A1.xa B.excl.length A1.xc, .slice A1.ba B.bidi.length A1.bc, .slice A1.ja B.join.length A1.jc, .slice A1.qa B.marks.length A1.qc, .slice A1.ra B.script.length A1.rc, .slice A1.la B.like.length A1.lc] 33 (0, 0))) (o := _) (a := ⟨w.heap.size, 7, none⟩) (by simp)).trans ((World.cell?_alloc_new w _ _ 7).trans rfl)
  have y1x8 : ∀ W, Quiet ((w.alloc (.cells #[.slice na1 B.names.length A1.nc, .slice A1.sa B.status.length A1.sc, .slice A1.ma B.maps.length A1.mc, .slice A1.ka B.cls.length A1.kc, .slice A1.da B.decomp.length A1.dc, .slice A1.xa B.excl.length A1.xc, .slice A1.ba B.bidi.length A1.bc, .slice A1.ja B.join.length A1.jc, .slice A1.qa B.marks.length A1.qc, .slice A1.ra B.script.length A1.rc, .slice A1.la B.like.length A1.lc] 33 (0, 0))).alloc (.cells #[.slice na2 B.names.length A2.nc, .slice A2.sa B.status.length A2.sc, .slice A2.ma B.maps.length A2.mc, .slice A2.ka B.cls.length A2.kc, .slice A2.da B.decomp.length A2.dc, .slice A2.xa B.excl.length A2.xc, .slice A2.ba B.bidi.length A2.bc, .slice A2.ja B.join.length A2.jc, .slice A2.qa B.marks.length A2.qc, .slice A2.ra B.script.length A2.rc, .slice A2.la B.like.length A2.lc] 33 (0, 0))) W → W.cell? ⟨w.heap.size, 8, none⟩ = some (.slice A1.qa B.marks.length A1.qc) := fun W ⟨n, hn⟩ => by
    subst hn
    exact (World.cell?_alloc_lt (w := w.alloc (.cells #[.slice na1 B.names.length A1.nc, .slice A1.sa B.status.length A1.sc, .slice A1.ma B.maps.length A1.mc, .slice A1.ka B.cls.length A1.kc, .slice A1.da B.decomp.length A1.dc, .slice A1.xa B.excl.length A1.xc, .slice A1.ba B.bidi.length A1.bc, .slice A1.ja B.join.length A1.jc, .slice A1.qa B.marks.length A1.qc, .slice A1.ra B.script.length A1.rc, .slice A1.la B.like.length A1.lc] 33 (0, 0))) (o := _) (a := ⟨w.heap.size, 8, none⟩) (by simp)).trans ((World.cell?_alloc_new w _ _ 8).trans rfl)
  have y1x9 : ∀ W, Quiet ((w.alloc (.cells #[.slice na1 B.names.length A1.nc, .slice A1.sa B.status.length A1.sc, .slice A1.ma B.maps.length A1.mc, .slice A1.ka B.cls.length A1.kc, .slice A1.da B.decomp.length A1.dc, .slice A1.xa B.excl.length A1.xc, .slice A1.ba B.bidi.length A1.bc, .slice A1.ja B.join.length A1.jc, .slice A1.qa B.marks.length A1.qc, .slice A1.ra B.script.length A1.rc, .slice A1.la B.like.length A1.lc] 33 (0, 0))).alloc (.cells #[.slice na2 B.names.length A2.nc, .slice A2.sa B.status.length A2.sc, .slice A2.ma B.maps.length A2.mc, .slice A2.ka B.cls.length A2.kc, .slice A2.da B.decomp.length A2.dc, .slice A2.xa B.excl.length A2.xc, .slice A2.ba B.bidi.length A2.bc, .slice A2.ja B.join.length A2.jc, .slice A2.qa B.marks.length A2.qc, .slice A2.ra B.script.length A2.rc, .slice A2.la B.like.length A2.lc] 33 (0, 0))) W → W.cell? ⟨w.heap.size, 9, none⟩ = some (.slice A1.ra B.script.length A1.rc) := fun W ⟨n, hn⟩ => by
    subst hn
    exact (World.cell?_alloc_lt (w := w.alloc (.cells #[.slice na1 B.names.length A1.nc, .slice A1.sa B.status.length A1.sc, .slice A1.ma B.maps.length A1.mc, .slice A1.ka B.cls.length A1.kc, .slice A1.da B.decomp.length A1.dc, .slice A1.xa B.excl.length A1.xc, .slice A1.ba B.bidi.length A1.bc, .slice A1.ja B.join.length A1.jc, .slice A1.qa B.marks.length A1.qc, .slice A1.ra B.script.length A1.rc, .slice A1.la B.like.length A1.lc] 33 (0, 0))) (o := _) (a := ⟨w.heap.size, 9, none⟩) (by simp)).trans ((World.cell?_alloc_new w _ _ 9).trans rfl)
  have y1x10 : ∀ W, Quiet ((w.alloc (.cells #[.slice na1 B.names.length A1.nc, .slice A1.sa B.status.length A1.sc, .slice A1.ma B.maps.length A1.mc, .slice A1.ka B.cls.length A1.kc, .slice A1.da B.decomp.length A1.dc, .slice A1.xa B.excl.length A1.xc, .slice A1.ba B.bidi.length A1.bc, .slice A1.ja B.join.length A1.jc, .slice A1.qa B.marks.length A1.qc, .slice A1.ra B.script.length A1.rc, .slice A1.la B.like.length A1.lc] 33 (0, 0))).alloc (.cells #[.slice na2 B.names.length A2.nc, .slice A2.sa B.status.length A2.sc, .slice A2.ma B.maps.length A2.mc, .slice A2.ka B.cls.length A2.kc, .slice A2.da B.decomp.length A2.dc, .slice A2.xa B.excl.length A2.xc, .slice A2.ba B.bidi.length A2.bc, .slice A2.ja B.join.length A2.jc, .slice A2.qa B.marks.length A2.qc, .slice A2.ra B.script.length A2.rc, .slice A2.la B.like.length A2.lc] 33 (0, 0))) W → W.cell? ⟨w.heap.size, 10, none⟩ = some (.slice A1.la B.like.length A1.lc) := fun W ⟨n, hn⟩ => by
    subst hn
    exact (World.cell?_alloc_lt (w := w.alloc (.cells #[.slice na1 B.names.length A1.nc, .slice A1.sa B.status.length A1.sc, .slice A1.ma B.maps.length A1.mc, .slice A1.ka B.cls.length A1.kc, .slice A1.da B.decomp.length A1.dc, .slice A1.xa B.excl.length A1.xc, .slice A1.ba B.bidi.length A1.bc, .slice A1.ja B.join.length A1.jc, .slice A1.qa B.marks.length A1.qc, .slice A1.ra B.script.length A1.rc, .slice A1.la B.like.length A1.lc] 33 (0, 0))) (o := _) (a := ⟨w.heap.size, 10, none⟩) (by simp)).trans ((World.cell?_alloc_new w _ _ 10).trans rfl)
  have y2x0 : ∀ W, Quiet ((w.alloc (.cells #[.slice na1 B.names.length A1.nc, .slice A1.sa B.status.length A1.sc, .slice A1.ma B.maps.length A1.mc, .slice A1.ka B.cls.length A1.kc, .slice A1.da B.decomp.length A1.dc, .slice A1.xa B.excl.length A1.xc, .slice A1.ba B.bidi.length A1.bc, .slice A1.ja B.join.length A1.jc, .slice A1.qa B.marks.length A1.qc, .slice A1.ra B.script.length A1.rc, .slice A1.la B.like.length A1.lc] 33 (0, 0))).alloc (.cells #[.slice na2 B.names.length A2.nc, .slice A2.sa B.status.length A2.sc, .slice A2.ma B.maps.length A2.mc, .slice A2.ka B.cls.length A2.kc, .slice A2.da B.decomp.length A2.dc, .slice A2.xa B.excl.length A2.xc, .slice A2.ba B.bidi.length A2.bc, .slice A2.ja B.join.length A2.jc, .slice A2.qa B.marks.length A2.qc, .slice A2.ra B.script.length A2.rc, .slice A2.la B.like.length A2.lc] 33 (0, 0))) W → W.cell? ⟨w.heap.size + 1, 0, none⟩ = some (.slice na2 B.names.length A2.nc) := fun W ⟨n, hn⟩ => by
    subst hn
    exact hsec 0 _ rfl
  have y2x1 : ∀ W, Quiet ((w.alloc (.cells #[.slice na1 B.names.length A1.nc, .slice A1.sa B.status.length A1.sc, .slice A1.ma B.maps.length A1.mc, .slice A1.ka B.cls.length A1.kc, .slice A1.da B.decomp.length A1.dc, .slice A1.xa B.excl.length A1.xc, .slice A1.ba B.bidi.length A1.bc, .slice A1.ja B.join.length A1.jc, .slice A1.qa B.marks.length A1.qc, .slice A1.ra B.script.length A1.rc, .slice A1.la B.like.length A1.lc] 33 (0, 0))).alloc (.cells #[.slice na2 B.names.length A2.nc, .slice A2.sa B.status.length A2.sc, .slice A2.ma B.maps.length A2.mc, .slice A2.ka B.cls.length A2.kc, .slice A2.da B.decomp.length A2.dc, .slice A2.xa B.excl.length A2.xc, .slice A2.ba B.bidi.length A2.bc, .slice A2.ja B.join.length A2.jc, .slice A2.qa B.marks.length A2.qc, .slice A2.ra B.script.length A2.rc, .slice A2.la B.like.length A2.lc] 33 (0, 0))) W → W.cell? ⟨w.heap.size + 1, 1, none⟩ = some (.slice A2.sa B.status.length A2.sc) := fun W ⟨n, hn⟩ => by
    subst hn
    exact hsec 1 _ rfl
  have y2x2 : ∀ W, Quiet ((w.alloc (.cells #[.slice na1 B.names.length A1.nc, .slice A1.sa B.status.length A1.sc, .slice A1.ma B.maps.length A1.mc, .slice A1.ka B.cls.length A1.kc, .slice A1.da B.decomp.length A1.dc, .slice A1.xa B.excl.length A1.xc, .slice A1.ba B.bidi.length A1.bc, .slice A1.ja B.join.length A1.jc, .slice A1.qa B.marks.length A1.qc, .slice A1.ra B.script.length A1.rc, .slice A1.la B.like.length A1.lc] 33 (0, 0))).alloc (.cells #[.slice na2 B.names.length A2.nc, .slice A2.sa B.status.length A2.sc, .slice A2.ma B.maps.length A2.mc, .slice A2.ka B.cls.length A2.kc, .slice A2.da B.decomp.length A2.dc, .slice A2.xa B.excl.length A2.xc, .slice A2.ba B.bidi.length A2.bc, .slice A2.ja B.join.length A2.jc, .slice A2.qa B.marks.length A2.qc, .slice A2.ra B.script.length A2.rc, .slice A2.la B.like.length A2.lc] 33 (0, 0))) W → W.cell? ⟨w.heap.size + 1, 2, none⟩ = some (.slice A2.ma B.maps.length A2.mc) := fun W ⟨n, hn⟩ => by
    subst hn
    exact hsec 2 _ rfl
  have y2x3 : ∀ W, Quiet ((w.alloc (.cells #[.slice na1 B.names.length A1.nc, .slice A1.sa B.status.length A1.sc, .slice A1.ma B.maps.length A1.mc, .slice A1.ka B.cls.length A1.kc, .slice A1.da B.decomp.length A1.dc, .slice A1.xa B.excl.length A1.xc, .slice A1.ba B.bidi.length A1.bc, .slice A1.ja B.join.length A1.jc, .slice A1.qa B.marks.length A1.qc, .slice A1.ra B.script.length A1.rc, .slice A1.la B.like.length A1.lc] 33 (0, 0))).alloc (.cells #[.slice na2 B.names.length A2.nc, .slice A2.sa B.status.length A2.sc, .slice A2.ma B.maps.length A2.mc, .slice A2.ka B.cls.length A2.kc, .slice A2.da B.decomp.length A2.dc, .slice A2.xa B.excl.length A2.xc, .slice A2.ba B.bidi.length A2.bc, .slice A2.ja B.join.length A2.jc, .slice A2.qa B.marks.length A2.qc, .slice A2.ra B.script.length A2.rc, .slice A2.la B.like.length A2.lc] 33 (0, 0))) W → W.cell? ⟨w.heap.size + 1, 3, none⟩ = some (.slice A2.ka B.cls.length A2.kc) := fun W ⟨n, hn⟩ => by
    subst hn
    exact hsec 3 _ rfl
  have y2x4 : ∀ W, Quiet ((w.alloc (.cells #[.slice na1 B.names.length A1.nc, .slice A1.sa B.status.length A1.sc, .slice A1.ma B.maps.length A1.mc, .slice A1.ka B.cls.length A1.kc, .slice A1.da B.decomp.length A1.dc, .slice A1.xa B.excl.length A1.xc, .slice A1.ba B.bidi.length A1.bc, .slice A1.ja B.join.length A1.jc, .slice A1.qa B.marks.length A1.qc, .slice A1.ra B.script.length A1.rc, .slice A1.la B.like.length A1.lc] 33 (0, 0))).alloc (.cells #[.slice na2 B.names.length A2.nc, .slice A2.sa B.status.length A2.sc, .slice A2.ma B.maps.length A2.mc, .slice A2.ka B.cls.length A2.kc, .slice A2.da B.decomp.length A2.dc, .slice A2.xa B.excl.length A2.xc, .slice A2.ba B.bidi.length A2.bc, .slice A2.ja B.join.length A2.jc, .slice A2.qa B.marks.length A2.qc, .slice A2.ra B.script.length A2.rc, .slice A2.la B.like.length A2.lc] 33 (0, 0))) W → W.cell? ⟨w.heap.size + 1, 4, none⟩ = some (.slice A2.da B.decomp.length A2.dc) := fun W ⟨n, hn⟩ => by
    subst hn
    exact hsec 4 _ rfl
  have y2x5 : ∀ W, Quiet ((w.alloc (.cells #[.slice na1 B.names.length A1.nc, .slice A1.sa B.status.length A1.sc, .slice A1.ma B.maps.length A1.mc, .slice A1.ka B.cls.length A1.kc, .slice A1.da B.decomp.length A1.dc, .slice A1.xa B.excl.length A1.xc, .slice A1.ba B.bidi.length A1.bc, .slice A1.ja B.join.length A1.jc, .slice A1.qa B.marks.length A1.qc, .slice A1.ra B.script.length A1.rc, .slice A1.la B.like.length A1.lc] 33 (0, 0))).alloc (.cells #[.slice na2 B.names.length A2.nc, .slice A2.sa B.status.length A2.sc, .slice A2.ma B.maps.length A2.mc, .slice A2.ka B.cls.length A2.kc, .slice A2.da B.decomp.length A2.dc, .slice A2.xa B.excl.length A2.xc, .slice A2.ba B.bidi.length A2.bc, .slice A2.ja B.join.length A2.jc, .slice A2.qa B.marks.length A2.qc, .slice A2.ra B.script.length A2.rc, .slice A2.la B.like.length A2.lc] 33 (0, 0))) W → W.cell? ⟨w.heap.size + 1, 5, none⟩ = some (.slice A2.xa B.excl.length A2.xc) := fun W ⟨n, hn⟩ => by
    subst hn
    exact hsec 5 _ rfl
  have y2x6 : ∀ W, Quiet ((w.alloc (.cells #[.slice na1 B.names.length A1.nc, .slice A1.sa B.status.length A1.sc, .slice A1.ma B.maps.length A1.mc, .slice A1.ka B.cls.length A1.kc, .slice A1.da B.decomp.length A1.dc, .slice A1.xa B.excl.length A1.xc, .slice A1.ba B.bidi.length A1.bc, .slice A1.ja B.join.length A1.jc, .slice A1.qa B.marks.length A1.qc, .slice A1.ra B.script.length A1.rc, .slice A1.la B.like.length A1.lc] 33 (0, 0))).alloc (.cells #[.slice na2 B.names.length A2.nc, .slice A2.sa B.status.length A2.sc, .slice A2.ma B.maps.length A2.mc, .slice A2.ka B.cls.length A2.kc, .slice A2.da B.decomp.length A2.dc, .slice A2.xa B.excl.length A2.xc, .slice A2.ba B.bidi.length A2.bc, .slice A2.ja B.join.length A2.jc, .slice A2.qa B.marks.length A2.qc, .slice A2.ra B.script.length A2.rc, .slice A2.la B.like.length A2.lc] 33 (0, 0))) W → W.cell? ⟨w.heap.size + 1, 6, none⟩ = some (.slice A2.ba B.bidi.length A2.bc) := fun W ⟨n, hn⟩ => by
    subst hn
    exact hsec 6 _ rfl
  have y2x7 : ∀ W, Quiet ((w.alloc (.cells #[.slice na1 B.names.length A1.nc, .slice A1.sa B.status.length A1.sc, .slice A1.ma B.maps.length A1.mc, .slice A1.ka B.cls.length A1.kc, .slice A1.da B.decomp.length A1.dc, .slice A1.xa B.excl.length A1.xc, .slice A1.ba B.bidi.length A1.bc, .slice A1.ja B.join.length A1.jc, .slice A1.qa B.marks.length A1.qc, .slice A1.ra B.script.length A1.rc, .slice A1.la B.like.length A1.lc] 33 (0, 0))).alloc (.cells #[.slice na2 B.names.length A2.nc, .slice A2.sa B.status.length A2.sc, .slice A2.ma B.maps.length A2.mc, .slice A2.ka B.cls.length A2.kc, .slice A2.da B.decomp.length A2.dc, .slice A2.xa B.excl.length A2.xc, .slice A2.ba B.bidi.length A2.bc, .slice A2.ja B.join.length A2.jc, .slice A2.qa B.marks.length A2.qc, .slice A2.ra B.script.length A2.rc, .slice A2.la B.like.length A2.lc] 33 (0, 0))) W → W.cell? ⟨w.heap.size + 1, 7, none⟩ = some (.slice A2.ja B.join.length A2.jc) := fun W ⟨n, hn⟩ => by
    subst hn
    exact hsec 7 _ rfl
  have y2x8 : ∀ W, Quiet ((w.alloc (.cells #[.slice na1 B.names.length A1.nc, .slice A1.sa B.status.length A1.sc, .slice A1.ma B.maps.length A1.mc, .slice A1.ka B.cls.length A1.kc, .slice A1.da B.decomp.length A1.dc, .slice A1.xa B.excl.length A1.xc, .slice A1.ba B.bidi.length A1.bc, .slice A1.ja B.join.length A1.jc, .slice A1.qa B.marks.length A1.qc, .slice A1.ra B.script.length A1.rc, .slice A1.la B.like.length A1.lc] 33 (0, 0))).alloc (.cells #[.slice na2 B.names.length A2.nc, .slice A2.sa B.status.length A2.sc, .slice A2.ma B.maps.length A2.mc, .slice A2.ka B.cls.length A2.kc, .slice A2.da B.decomp.length A2.dc, .slice A2.xa B.excl.length A2.xc, .slice A2.ba B.bidi.length A2.bc, .slice A2.ja B.join.length A2.jc, .slice A2.qa B.marks.length A2.qc, .slice A2.ra B.script.length A2.rc, .slice A2.la B.like.length A2.lc] 33 (0, 0))) W → W.cell? ⟨w.heap.size + 1, 8, none⟩ = some (.slice A2.qa B.marks.length A2.qc) := fun W ⟨n, hn⟩ => by
    subst hn
    exact hsec 8 _ rfl
  have y2x9 : ∀ W, Quiet ((w.alloc (.cells #[.slice na1 B.names.length A1.nc, .slice A1.sa B.status.length A1.sc, .slice A1.ma B.maps.length A1.mc, .slice A1.ka B.cls.length A1.kc, .slice A1.da B.decomp.length A1.dc, .slice A1.xa B.excl.length A1.xc, .slice A1.ba B.bidi.length A1.bc, .slice A1.ja B.join.length A1.jc, .slice A1.qa B.marks.length A1.qc, .slice A1.ra B.script.length A1.rc, .slice A1.la B.like.length A1.lc] 33 (0, 0))).alloc (.cells #[.slice na2 B.names.length A2.nc, .slice A2.sa B.status.length A2.sc, .slice A2.ma B.maps.length A2.mc, .slice A2.ka B.cls.length A2.kc, .slice A2.da B.decomp.length A2.dc, .slice A2.xa B.excl.length A2.xc, .slice A2.ba B.bidi.length A2.bc, .slice A2.ja B.join.length A2.jc, .slice A2.qa B.marks.length A2.qc, .slice A2.ra B.script.length A2.rc, .slice A2.la B.like.length A2.lc] 33 (0, 0))) W → W.cell? ⟨w.heap.size + 1, 9, none⟩ = some (.slice A2.ra B.script.length A2.rc) := fun W ⟨n, hn⟩ => by
    subst hn
    exact hsec 9 _ rfl
  have y2x10 : ∀ W, Quiet ((w.alloc (.cells #[.slice na1 B.names.length A1.nc, .slice A1.sa B.status.length A1.sc, .slice A1.ma B.maps.length A1.mc, .slice A1.ka B.cls.length A1.kc, .slice A1.da B.decomp.length A1.dc, .slice A1.xa B.excl.length A1.xc, .slice A1.ba B.bidi.length A1.bc, .slice A1.ja B.join.length A1.jc, .slice A1.qa B.marks.length A1.qc, .slice A1.ra B.script.length A1.rc, .slice A1.la B.like.length A1.lc] 33 (0, 0))).alloc (.cells #[.slice na2 B.names.length A2.nc, .slice A2.sa B.status.length A2.sc, .slice A2.ma B.maps.length A2.mc, .slice A2.ka B.cls.length A2.kc, .slice A2.da B.decomp.length A2.dc, .slice A2.xa B.excl.length A2.xc, .slice A2.ba B.bidi.length A2.bc, .slice A2.ja B.join.length A2.jc, .slice A2.qa B.marks.length A2.qc, .slice A2.ra B.script.length A2.rc, .slice A2.la B.like.length A2.lc] 33 (0, 0))) W → W.cell? ⟨w.heap.size + 1, 10, none⟩ = some (.slice A2.la B.like.length A2.lc) := fun W ⟨n, hn⟩ => by
    subst hn
    exact hsec 10 _ rfl
  have Y1x0 := Lib.hid y1x0
  have Y1x1 := Lib.hid y1x1
  have Y1x2 := Lib.hid y1x2
  have Y1x3 := Lib.hid y1x3
  have Y1x4 := Lib.hid y1x4
  have Y1x5 := Lib.hid y1x5
  have Y1x6 := Lib.hid y1x6
  have Y1x7 := Lib.hid y1x7
  have Y1x8 := Lib.hid y1x8
  have Y1x9 := Lib.hid y1x9
  have Y1x10 := Lib.hid y1x10
  have Y2x0 := Lib.hid y2x0
  have Y2x1 := Lib.hid y2x1
  have Y2x2 := Lib.hid y2x2
  have Y2x3 := Lib.hid y2x3
  have Y2x4 := Lib.hid y2x4
  have Y2x5 := Lib.hid y2x5
  have Y2x6 := Lib.hid y2x6
  have Y2x7 := Lib.hid y2x7
  have Y2x8 := Lib.hid y2x8
  have Y2x9 := Lib.hid y2x9
  have Y2x10 := Lib.hid y2x10
  clear hsec y1x0 y1x1 y1x2 y1x3 y1x4 y1x5 y1x6 y1x7 y1x8 y1x9 y1x10 y2x0 y2x1 y2x2 y2x3 y2x4 y2x5 y2x6 y2x7 y2x8 y2x9 y2x10
  go_enter Tryz.func8, Tryz.ntmps8
  go_wp2
  go_loopw [17] (fun v w' => ∃ (i : Nat), v = .int .i64 i ∧ i ≤ B.names.length ∧ Quiet ((w.alloc (.cells #[.slice na1 B.names.length A1.nc, .slice A1.sa B.status.length A1.sc, .slice A1.ma B.maps.length A1.mc, .slice A1.ka B.cls.length A1.kc, .slice A1.da B.decomp.length A1.dc, .slice A1.xa B.excl.length A1.xc, .slice A1.ba B.bidi.length A1.bc, .slice A1.ja B.join.length A1.jc, .slice A1.qa B.marks.length A1.qc, .slice A1.ra B.script.length A1.rc, .slice A1.la B.like.length A1.lc] 33 (0, 0))).alloc (.cells #[.slice na2 B.names.length A2.nc, .slice A2.sa B.status.length A2.sc, .slice A2.ma B.maps.length A2.mc, .slice A2.ka B.cls.length A2.kc, .slice A2.da B.decomp.length A2.dc, .slice A2.xa B.excl.length A2.xc, .slice A2.ba B.bidi.length A2.bc, .slice A2.ja B.join.length A2.jc, .slice A2.qa B.marks.length A2.qc, .slice A2.ra B.script.length A2.rc, .slice A2.la B.like.length A2.lc] 33 (0, 0))) w') (fun v _ => B.names.length - (intOf v).toNat)
  case atStart => exact ⟨0, rfl, Nat.zero_le _, Quiet.refl _⟩
  case round =>
    obtain ⟨i, rfl, hi, hq⟩ := hrel
    have HQ := Lib.hid hq
    by_cases hlt : i < B.names.length
    · obtain ⟨x, hx⟩ : ∃ x, B.names[i]? = some x := ⟨_, List.getElem?_eq_getElem hlt⟩
      have hne : B.names ≠ [] := by intro h; rw [h] at hlt; simp at hlt
      have z1 := Y1x0.out _ hq
      have z2 := Y2x0.out _ hq
      obtain ⟨g1, g2⟩ := CN.out _ hq
      rcases g1 with h0 | ⟨b1, o1, rfl, hk1, hc1⟩
      · exact absurd h0 hne
      rcases g2 with h0 | ⟨b2, o2, rfl, hk2, hc2⟩
      · exact absurd h0 hne
      have q1 := hc1 i x hx
      have q2 := hc2 i x hx
      clear hc1 hc2 hx hne hq
      go_wp2
      go_quiet (fail)
      go_wp2
      go_roundw
      case rel => exact ⟨i + 1, by go_num, by omega, HQ.out.more _⟩
      case measure => simp [intOf]; omega
    · obtain rfl : i = B.names.length := by omega
      have z1x0 := Y1x0.out _ hq
      have z1x1 := Y1x1.out _ hq
      have z1x2 := Y1x2.out _ hq
      have z1x3 := Y1x3.out _ hq
      have z1x4 := Y1x4.out _ hq
      have z1x5 := Y1x5.out _ hq
      have z1x6 := Y1x6.out _ hq
      have z1x7 := Y1x7.out _ hq
      have z1x8 := Y1x8.out _ hq
      have z1x9 := Y1x9.out _ hq
      have z1x10 := Y1x10.out _ hq
      have z2x0 := Y2x0.out _ hq
      have z2x1 := Y2x1.out _ hq
      have z2x2 := Y2x2.out _ hq
      have z2x3 := Y2x3.out _ hq
      have z2x4 := Y2x4.out _ hq
      have z2x5 := Y2x5.out _ hq
      have z2x6 := Y2x6.out _ hq
      have z2x7 := Y2x7.out _ hq
      have z2x8 := Y2x8.out _ hq
      have z2x9 := Y2x9.out _ hq
      have z2x10 := Y2x10.out _ hq
      clear hq
      go_wp2_with fail
      refine (Cs.out _ HQ.out).mono ?_
      rintro e v1 ⟨rfl, m1, rfl⟩
      go_wp2_with fail
      refine (Cm.out _ (HQ.out.more m1)).mono ?_
      rintro e v2 ⟨rfl, m2, rfl⟩
      go_wp2_with fail
      refine (Ck.out _ (HQ.out.more (m1 + m2))).mono ?_
      rintro e v3 ⟨rfl, m3, rfl⟩
      go_wp2_with fail
      refine (Cd.out _ (HQ.out.more (m1 + m2 + m3))).mono ?_
      rintro e v4 ⟨rfl, m4, rfl⟩
      go_wp2_with fail
      refine (Cx.out _ (HQ.out.more (m1 + m2 + m3 + m4))).mono ?_
      rintro e v5 ⟨rfl, m5, rfl⟩
      go_wp2_with fail
      refine (Cb.out _ (HQ.out.more (m1 + m2 + m3 + m4 + m5))).mono ?_
      rintro e v6 ⟨rfl, m6, rfl⟩
      go_wp2_with fail
      refine (Cj.out _ (HQ.out.more (m1 + m2 + m3 + m4 + m5 + m6))).mono ?_
      rintro e v7 ⟨rfl, m7, rfl⟩
      go_wp2_with fail
      refine (Cq.out _ (HQ.out.more (m1 + m2 + m3 + m4 + m5 + m6 + m7))).mono ?_
      rintro e v8 ⟨rfl, m8, rfl⟩
      go_wp2_with fail
      refine (Cr.out _ (HQ.out.more (m1 + m2 + m3 + m4 + m5 + m6 + m7 + m8))).mono ?_
      rintro e v9 ⟨rfl, m9, rfl⟩
      go_wp2_with fail
      refine (Cl.out _ (HQ.out.more (m1 + m2 + m3 + m4 + m5 + m6 + m7 + m8 + m9))).mono ?_
      rintro e v10 ⟨rfl, m10, rfl⟩
      go_wp2
      go_ret
      exact ⟨rfl, HB.out _ (HQ.out.more (m1 + m2 + m3 + m4 + m5 + m6 + m7 + m8 + m9 + m10))⟩
end Go.Proofs.YtgdambmineeboaaGreatDoor.Same
