/- The walks of what the program's Check calls in turn. -/
import Derived.Test.YtgdambmineeboaaGreatDoorBCheck8
import Derived.Test.YtgdambmineeboaaGreatDoorBNamesP
import Derived.Test.YtgdambmineeboaaGreatDoorBMapK
import Derived.Laws.EntriesVeiled
set_option linter.unusedSimpArgs false
set_option linter.unusedVariables false
namespace Go.Proofs.YtgdambmineeboaaGreatDoor.CheckC
open Go.RowKit Go.Lib Go.Proofs.YtgdambmineeboaaGreatDoor.Text Go.Proofs.YtgdambmineeboaaGreatDoor.Runes Go.Proofs.YtgdambmineeboaaGreatDoor.Print Go.Proofs.YtgdambmineeboaaGreatDoor.RefNine Go.Proofs.YtgdambmineeboaaGreatDoor.RefPrint Go.Proofs.YtgdambmineeboaaGreatDoor.Format Go.Proofs.YtgdambmineeboaaGreatDoor.Tell Go.Proofs.YtgdambmineeboaaGreatDoor.Given Go.Proofs.YtgdambmineeboaaGreatDoor.Mem Go.Proofs.YtgdambmineeboaaGreatDoor.Book Go.Proofs.YtgdambmineeboaaGreatDoor.Pred Go.Proofs.YtgdambmineeboaaGreatDoor.Many Go.Proofs.YtgdambmineeboaaGreatDoor.Meets Go.Proofs.YtgdambmineeboaaGreatDoor.NamesAll Go.Proofs.YtgdambmineeboaaGreatDoor.Numbered Go.Proofs.YtgdambmineeboaaGreatDoor.Written Go.Proofs.YtgdambmineeboaaGreatDoor.Touch Go.Proofs.YtgdambmineeboaaGreatDoor.Fine Go.Proofs.YtgdambmineeboaaGreatDoor.Rising Go.Proofs.YtgdambmineeboaaGreatDoor.Values Go.Proofs.YtgdambmineeboaaGreatDoor.WholeRef Go.Proofs.YtgdambmineeboaaGreatDoor.Apart Go.Proofs.YtgdambmineeboaaGreatDoor.Check8 Go.Proofs.YtgdambmineeboaaGreatDoor.NamesP Go.Proofs.YtgdambmineeboaaGreatDoor.Dirs Go.Proofs.YtgdambmineeboaaGreatDoor.WholeP

set_option maxRecDepth 100000 in
set_option maxHeartbeats 1000000 in
theorem c4_any (B : Mem.Book) (A : Ads) (BB PA PP PC : Nat) (w : World) (hs : Small B) (hL : Lies w B A) (hbx : w.heap[BB]? = some (apiBox B A)) (cA : w.cell? ⟨PA, 0, none⟩ = some (.func (.func 46) #[] #[])) (cP : w.cell? ⟨PP, 0, none⟩ = some (.func (.func 47) #[] #[])) (cC : w.cell? ⟨PC, 0, none⟩ = some (.func (.func 49) #[] #[])) (hcn : B.names.length ≤ A.nc) :
    Calls Tryz.prog 51 #[.pointer (some ⟨BB, 0, none⟩)] w fun e w' => ∃ r, e = .returned (.int .i64 r) ∧ (0 ≤ r ↔ ¬ (OkNames B.names)) ∧ Below w.heap.size w w' := by
  have k0 : w.cell? ⟨BB, 0, none⟩ = some (.slice A.na B.names.length A.nc) := (block_cell (i := 0) hbx).trans rfl
  have HC := Lib.hid (namesP_any A.na B.names A.nc w hs.n hs.nz hcn hL.n)
  clear hL hs cA cP cC hbx
  go_enter Tryz.func51, Tryz.ntmps51
  go_wp2_with fail
  refine HC.out.mono ?_
  rintro e w1 ⟨r, rfl, hr, hb1⟩
  have HR := Lib.hid hr
  clear hr
  go_wp2_with fail
  go_ret
  exact ⟨r, rfl, HR.out, hb1⟩
set_option maxRecDepth 100000 in
set_option maxHeartbeats 1000000 in
theorem c5_any (B : Mem.Book) (A : Ads) (BB PA PP PC : Nat) (w : World) (hs : Small B) (hL : Lies w B A) (hbx : w.heap[BB]? = some (apiBox B A)) (cA : w.cell? ⟨PA, 0, none⟩ = some (.func (.func 46) #[] #[])) (cP : w.cell? ⟨PP, 0, none⟩ = some (.func (.func 47) #[] #[])) (cC : w.cell? ⟨PC, 0, none⟩ = some (.func (.func 49) #[] #[])) :
    Calls Tryz.prog 53 #[.pointer (some ⟨BB, 0, none⟩), .pointer (some ⟨PA, 0, none⟩)] w fun e w' => ∃ r, e = .returned (.int .i64 r) ∧ (0 ≤ r ↔ ¬ (okRows (spV B.status) (B.status.map (wrongV 1 3 false)) = true)) ∧ Below w.heap.size w w' := by
  have k1 : w.cell? ⟨BB, 1, none⟩ = some (.slice A.sa B.status.length A.sc) := (block_cell (i := 1) hbx).trans rfl
  have kP : w.cell? ⟨PA, 0, none⟩ = some (.func (.func 46) #[] #[]) := cA
  have HC := Lib.hid (fun W (hW : Below w.heap.size w W) => values_anyP 46 false 1 3 A.sa B.status A.sc W hs.s (hL.s.below hW) (enters_of Tryz.func46 (by kernel_rfl) rfl) (fun a b W => check1_any a b W))
  clear hL hs cA cP cC hbx
  go_enter Tryz.func53, Tryz.ntmps53
  go_wp2_with fail
  refine (HC.out _ (Below.refl _ _)).mono ?_
  rintro e w1 ⟨r, rfl, hr, hb1⟩
  have HR := Lib.hid hr
  clear hr
  go_wp2_with fail
  go_ret
  exact ⟨r, rfl, HR.out, hb1⟩
set_option maxRecDepth 100000 in
set_option maxHeartbeats 1000000 in
theorem c7_any (B : Mem.Book) (A : Ads) (BB PA PP PC : Nat) (w : World) (hs : Small B) (hL : Lies w B A) (hbx : w.heap[BB]? = some (apiBox B A)) (cA : w.cell? ⟨PA, 0, none⟩ = some (.func (.func 46) #[] #[])) (cP : w.cell? ⟨PP, 0, none⟩ = some (.func (.func 47) #[] #[])) (cC : w.cell? ⟨PC, 0, none⟩ = some (.func (.func 49) #[] #[])) :
    Calls Tryz.prog 57 #[.pointer (some ⟨BB, 0, none⟩), .pointer (some ⟨PP, 0, none⟩)] w fun e w' => ∃ r, e = .returned (.int .i64 r) ∧ (0 ≤ r ↔ ¬ (okRows (spV B.cls) (B.cls.map (wrongV 1 254 true)) = true)) ∧ Below w.heap.size w w' := by
  have k3 : w.cell? ⟨BB, 3, none⟩ = some (.slice A.ka B.cls.length A.kc) := (block_cell (i := 3) hbx).trans rfl
  have kP : w.cell? ⟨PP, 0, none⟩ = some (.func (.func 47) #[] #[]) := cP
  have HC := Lib.hid (fun W (hW : Below w.heap.size w W) => values_anyP 47 true 1 254 A.ka B.cls A.kc W hs.k (hL.k.below hW) (enters_of Tryz.func47 (by kernel_rfl) rfl) (fun a b W => check2_any a b W))
  clear hL hs cA cP cC hbx
  go_enter Tryz.func57, Tryz.ntmps57
  go_wp2_with fail
  refine (HC.out _ (Below.refl _ _)).mono ?_
  rintro e w1 ⟨r, rfl, hr, hb1⟩
  have HR := Lib.hid hr
  clear hr
  go_wp2_with fail
  go_ret
  exact ⟨r, rfl, HR.out, hb1⟩
set_option maxRecDepth 100000 in
set_option maxHeartbeats 1000000 in
theorem c13_any (B : Mem.Book) (A : Ads) (BB PA PP PC : Nat) (w : World) (hs : Small B) (hL : Lies w B A) (hbx : w.heap[BB]? = some (apiBox B A)) (cA : w.cell? ⟨PA, 0, none⟩ = some (.func (.func 46) #[] #[])) (cP : w.cell? ⟨PP, 0, none⟩ = some (.func (.func 47) #[] #[])) (cC : w.cell? ⟨PC, 0, none⟩ = some (.func (.func 49) #[] #[])) :
    Calls Tryz.prog 68 #[.pointer (some ⟨BB, 0, none⟩), .pointer (some ⟨PA, 0, none⟩)] w fun e w' => ∃ r, e = .returned (.int .i64 r) ∧ (0 ≤ r ↔ ¬ (okRows (spV B.script) (B.script.map (wrongV 1 B.names.length false)) = true)) ∧ Below w.heap.size w w' := by
  have k0 : w.cell? ⟨BB, 0, none⟩ = some (.slice A.na B.names.length A.nc) := (block_cell (i := 0) hbx).trans rfl
  have k9 : w.cell? ⟨BB, 9, none⟩ = some (.slice A.ra B.script.length A.rc) := (block_cell (i := 9) hbx).trans rfl
  have kP : w.cell? ⟨PA, 0, none⟩ = some (.func (.func 46) #[] #[]) := cA
  have HC := Lib.hid (fun W (hW : Below w.heap.size w W) => values_anyP 46 false 1 B.names.length A.ra B.script A.rc W hs.r (hL.r.below hW) (enters_of Tryz.func46 (by kernel_rfl) rfl) (fun a b W => check1_any a b W))
  clear hL hs cA cP cC hbx
  go_enter Tryz.func68, Tryz.ntmps68
  go_wp2_with fail
  refine (HC.out _ (Below.refl _ _)).mono ?_
  rintro e w1 ⟨r, rfl, hr, hb1⟩
  have HR := Lib.hid hr
  clear hr
  go_wp2_with fail
  go_ret
  exact ⟨r, rfl, HR.out, hb1⟩
set_option maxRecDepth 100000 in
set_option maxHeartbeats 1000000 in
theorem c10_any (B : Mem.Book) (A : Ads) (BB PA PP PC : Nat) (w : World) (hs : Small B) (hL : Lies w B A) (hbx : w.heap[BB]? = some (apiBox B A)) (cA : w.cell? ⟨PA, 0, none⟩ = some (.func (.func 46) #[] #[])) (cP : w.cell? ⟨PP, 0, none⟩ = some (.func (.func 47) #[] #[])) (cC : w.cell? ⟨PC, 0, none⟩ = some (.func (.func 49) #[] #[])) :
    Calls Tryz.prog 65 #[.pointer (some ⟨BB, 0, none⟩), .pointer (some ⟨PA, 0, none⟩)] w fun e w' => ∃ r, e = .returned (.int .i64 r) ∧ (0 ≤ r ↔ ¬ (okRows (spV B.bidi) (B.bidi.map (wrongV 0 22 false)) = true)) ∧ Below w.heap.size w w' := by
  have k6 : w.cell? ⟨BB, 6, none⟩ = some (.slice A.ba B.bidi.length A.bc) := (block_cell (i := 6) hbx).trans rfl
  have kP : w.cell? ⟨PA, 0, none⟩ = some (.func (.func 46) #[] #[]) := cA
  have HC := Lib.hid (fun W (hW : Below w.heap.size w W) => values_anyP 46 false 0 22 A.ba B.bidi A.bc W hs.b (hL.b.below hW) (enters_of Tryz.func46 (by kernel_rfl) rfl) (fun a b W => check1_any a b W))
  have hbl : BB < w.heap.size := block_lt hbx
  have hpl : PA < w.heap.size := cell_lt cA
  clear hL hs cA cP cC hbx
  go_enter Tryz.func65, Tryz.ntmps65
  go_wp2_with fail
  go_region_held3 (fun w' => w'.cell? ⟨BB, 6, none⟩ = some (.slice A.ba B.bidi.length A.bc) ∧ w'.cell? ⟨PA, 0, none⟩ = some (.func (.func 46) #[] #[]))
    (first | exact ⟨(hb2.cell (p := ⟨BB, 6, none⟩) (Nat.lt_of_lt_of_le hbl hb1.size)).trans kj, (hb2.cell (p := ⟨PA, 0, none⟩) (Nat.lt_of_lt_of_le hpl hb1.size)).trans kq⟩ | exact ⟨kj, kq⟩ | exact ⟨k6, kP⟩ | go_keep)
    ((first | (go_at_call 24; refine (dirs_any _).mono ?_; rintro e w1 ⟨da, dc, rfl, hds, hb0, _⟩; clear hds; have hb1 : Below w.heap.size w w1 := ((Below.refl w.heap.size w).drew).trans hb0; have kj : w1.cell? ⟨BB, 6, none⟩ = some (.slice A.ba B.bidi.length A.bc) := (hb1.cell (p := ⟨BB, 6, none⟩) hbl).trans k6; have kq : w1.cell? ⟨PA, 0, none⟩ = some (.func (.func 46) #[] #[]) := (hb1.cell (p := ⟨PA, 0, none⟩) hpl).trans kP; clear hb0) | (go_at_call 54; refine (HC.out _ hb1).mono ?_; rintro e w2 ⟨r, rfl, hr, hb2⟩; have HR := Lib.hid hr; clear hr)))
  all_goals
    go_wp2_with fail
    go_ret
    exact ⟨r, rfl, HR.out, hb1.trans (hb2.mono hb1.size)⟩
set_option maxRecDepth 100000 in
set_option maxHeartbeats 1000000 in
theorem c11_any (B : Mem.Book) (A : Ads) (BB PA PP PC : Nat) (w : World) (hs : Small B) (hL : Lies w B A) (hbx : w.heap[BB]? = some (apiBox B A)) (cA : w.cell? ⟨PA, 0, none⟩ = some (.func (.func 46) #[] #[])) (cP : w.cell? ⟨PP, 0, none⟩ = some (.func (.func 47) #[] #[])) (cC : w.cell? ⟨PC, 0, none⟩ = some (.func (.func 49) #[] #[])) :
    Calls Tryz.prog 66 #[.pointer (some ⟨BB, 0, none⟩), .pointer (some ⟨PA, 0, none⟩)] w fun e w' => ∃ r, e = .returned (.int .i64 r) ∧ (0 ≤ r ↔ ¬ (okRows (spV B.join) (B.join.map (wrongV 0 5 false)) = true)) ∧ Below w.heap.size w w' := by
  have k7 : w.cell? ⟨BB, 7, none⟩ = some (.slice A.ja B.join.length A.jc) := (block_cell (i := 7) hbx).trans rfl
  have kP : w.cell? ⟨PA, 0, none⟩ = some (.func (.func 46) #[] #[]) := cA
  have HC := Lib.hid (fun W (hW : Below w.heap.size w W) => values_anyP 46 false 0 5 A.ja B.join A.jc W hs.j (hL.j.below hW) (enters_of Tryz.func46 (by kernel_rfl) rfl) (fun a b W => check1_any a b W))
  have hbl : BB < w.heap.size := block_lt hbx
  have hpl : PA < w.heap.size := cell_lt cA
  clear hL hs cA cP cC hbx
  go_enter Tryz.func66, Tryz.ntmps66
  go_wp2_with fail
  go_region_held3 (fun w' => w'.cell? ⟨BB, 7, none⟩ = some (.slice A.ja B.join.length A.jc) ∧ w'.cell? ⟨PA, 0, none⟩ = some (.func (.func 46) #[] #[]))
    (first | exact ⟨(hb2.cell (p := ⟨BB, 7, none⟩) (Nat.lt_of_lt_of_le hbl hb1.size)).trans kj, (hb2.cell (p := ⟨PA, 0, none⟩) (Nat.lt_of_lt_of_le hpl hb1.size)).trans kq⟩ | exact ⟨kj, kq⟩ | exact ⟨k7, kP⟩ | go_keep)
    ((first | (go_at_call 26; refine (joins_any _).mono ?_; rintro e w1 ⟨da, dc, rfl, hds, hb0, _⟩; clear hds; have hb1 : Below w.heap.size w w1 := ((Below.refl w.heap.size w).drew).trans hb0; have kj : w1.cell? ⟨BB, 7, none⟩ = some (.slice A.ja B.join.length A.jc) := (hb1.cell (p := ⟨BB, 7, none⟩) hbl).trans k7; have kq : w1.cell? ⟨PA, 0, none⟩ = some (.func (.func 46) #[] #[]) := (hb1.cell (p := ⟨PA, 0, none⟩) hpl).trans kP; clear hb0) | (go_at_call 54; refine (HC.out _ hb1).mono ?_; rintro e w2 ⟨r, rfl, hr, hb2⟩; have HR := Lib.hid hr; clear hr)))
  all_goals
    go_wp2_with fail
    go_ret
    exact ⟨r, rfl, HR.out, hb1.trans (hb2.mono hb1.size)⟩
set_option maxRecDepth 100000 in
set_option maxHeartbeats 1000000 in
theorem c6_any (B : Mem.Book) (A : Ads) (BB PA PP PC : Nat) (w : World) (hs : Small B) (hL : Lies w B A) (hbx : w.heap[BB]? = some (apiBox B A)) (cA : w.cell? ⟨PA, 0, none⟩ = some (.func (.func 46) #[] #[])) (cP : w.cell? ⟨PP, 0, none⟩ = some (.func (.func 47) #[] #[])) (cC : w.cell? ⟨PC, 0, none⟩ = some (.func (.func 49) #[] #[])) (hri : Rise B.status) :
    Calls Tryz.prog 55 #[.pointer (some ⟨BB, 0, none⟩)] w fun e w' => ∃ r, e = .returned (.int .i64 r) ∧ (0 ≤ r ↔ ¬ (okRows (spC B.maps) (B.maps.map (wrongM B.status)) = true)) ∧ Below w.heap.size w w' := by
  have k0 : w.cell? ⟨BB, 0, none⟩ = some (.slice A.na B.names.length A.nc) := (block_cell (i := 0) hbx).trans rfl
  have k1 : w.cell? ⟨BB, 1, none⟩ = some (.slice A.sa B.status.length A.sc) := (block_cell (i := 1) hbx).trans rfl
  have k2 : w.cell? ⟨BB, 2, none⟩ = some (.slice A.ma B.maps.length A.mc) := (block_cell (i := 2) hbx).trans rfl
  have k3 : w.cell? ⟨BB, 3, none⟩ = some (.slice A.ka B.cls.length A.kc) := (block_cell (i := 3) hbx).trans rfl
  have k4 : w.cell? ⟨BB, 4, none⟩ = some (.slice A.da B.decomp.length A.dc) := (block_cell (i := 4) hbx).trans rfl
  have k5 : w.cell? ⟨BB, 5, none⟩ = some (.slice A.xa B.excl.length A.xc) := (block_cell (i := 5) hbx).trans rfl
  have k6 : w.cell? ⟨BB, 6, none⟩ = some (.slice A.ba B.bidi.length A.bc) := (block_cell (i := 6) hbx).trans rfl
  have k7 : w.cell? ⟨BB, 7, none⟩ = some (.slice A.ja B.join.length A.jc) := (block_cell (i := 7) hbx).trans rfl
  have k8 : w.cell? ⟨BB, 8, none⟩ = some (.slice A.qa B.marks.length A.qc) := (block_cell (i := 8) hbx).trans rfl
  have k9 : w.cell? ⟨BB, 9, none⟩ = some (.slice A.ra B.script.length A.rc) := (block_cell (i := 9) hbx).trans rfl
  have k10 : w.cell? ⟨BB, 10, none⟩ = some (.slice A.la B.like.length A.lc) := (block_cell (i := 10) hbx).trans rfl
  have HC := Lib.hid (apart_any B A w hs hL hri)
  unfold bookV at HC
  clear hL hs cA cP cC hbx
  go_enter Tryz.func55, Tryz.ntmps55
  go_wp2_with fail
  refine HC.out.mono ?_
  rintro e w1 ⟨r, rfl, hr, hb1⟩
  have HR := Lib.hid hr
  clear hr
  go_wp2_with fail
  go_ret
  exact ⟨r, rfl, HR.out, hb1⟩
set_option maxRecDepth 100000 in
set_option maxHeartbeats 1000000 in
theorem c8_any (B : Mem.Book) (A : Ads) (BB PA PP PC : Nat) (w : World) (hs : Small B) (hL : Lies w B A) (hbx : w.heap[BB]? = some (apiBox B A)) (cA : w.cell? ⟨PA, 0, none⟩ = some (.func (.func 46) #[] #[])) (cP : w.cell? ⟨PP, 0, none⟩ = some (.func (.func 47) #[] #[])) (cC : w.cell? ⟨PC, 0, none⟩ = some (.func (.func 49) #[] #[])) :
    Calls Tryz.prog 58 #[.pointer (some ⟨BB, 0, none⟩), .pointer (some ⟨PP, 0, none⟩)] w fun e w' => ∃ r, e = .returned (.int .i64 r) ∧ (0 ≤ r ↔ ¬ (okRows (spC B.decomp) (B.decomp.map wrongDc) = true)) ∧ Below w.heap.size w w' := by
  have k4 : w.cell? ⟨BB, 4, none⟩ = some (.slice A.da B.decomp.length A.dc) := (block_cell (i := 4) hbx).trans rfl
  obtain ⟨rs, t1, p1, n1⟩ := hL.d
  have hml : B.decomp.length = rs.length := by rw [← p1, List.length_map]
  have hsp : spR rs = spC B.decomp := by unfold spR spC; rw [← p1, List.map_map]; rfl
  have HC := Lib.hid (risingChr_any none 61 #[.pointer (some ⟨PP, 0, none⟩)] (fun _ _ => True) (B.decomp.map wrongDc) A.da rs A.dc w (by rw [← hml]; exact hs.d) (by rw [List.length_map, hml]) t1 (fun _ _ _ => by simp) (fun _ _ => by simp) (enters_of Tryz.func61 (by kernel_rfl) rfl) (fun _ _ _ _ _ => trivial) trivial
    (fun W i x b hg _ hx _ _ hws => by
      have hW := below_none hg
      have hxm : x.plain ∈ B.decomp := by rw [← p1]; exact List.mem_map_of_mem (List.mem_of_getElem? hx)
      have hwb : b = wrongDc x.plain := by
        rw [List.getElem?_map] at hws
        have : B.decomp[i]? = some x.plain := by rw [← p1, List.getElem?_map, hx]; rfl
        rw [this] at hws
        cases hws
        rfl
      refine (check81_any x PP W (hs.di _ hxm) ((n1 x (List.mem_of_getElem? hx)).below hW) ((hW.cell (p := ⟨PP, 0, none⟩) (cell_lt cP)).trans cP)).mono ?_
      rintro e w' ⟨rfl, hb⟩
      exact ⟨by first | (rw [hwb]; done) | (rw [hwb]; rfl), trivial, grown_of hb⟩))
  rw [hsp, ← hml] at HC
  clear hml hsp t1 p1 n1
  clear hL hs cA cP cC hbx
  go_enter Tryz.func58, Tryz.ntmps58
  go_wp2_with fail
  refine HC.out.mono ?_
  rintro e w1 ⟨r, rfl, hr, hg1⟩
  have HR := Lib.hid hr
  clear hr
  go_wp2_with fail
  go_ret
  exact ⟨r, rfl, HR.out, below_none hg1⟩
set_option maxRecDepth 100000 in
set_option maxHeartbeats 1000000 in
theorem c14_any (B : Mem.Book) (A : Ads) (BB PA PP PC : Nat) (w : World) (hs : Small B) (hL : Lies w B A) (hbx : w.heap[BB]? = some (apiBox B A)) (cA : w.cell? ⟨PA, 0, none⟩ = some (.func (.func 46) #[] #[])) (cP : w.cell? ⟨PP, 0, none⟩ = some (.func (.func 47) #[] #[])) (cC : w.cell? ⟨PC, 0, none⟩ = some (.func (.func 49) #[] #[])) :
    Calls Tryz.prog 69 #[.pointer (some ⟨BB, 0, none⟩), .pointer (some ⟨PC, 0, none⟩)] w fun e w' => ∃ r, e = .returned (.int .i64 r) ∧ (0 ≤ r ↔ ¬ (okRows (spC B.like) (B.like.map (wrongCh 18)) = true)) ∧ Below w.heap.size w w' := by
  have k10 : w.cell? ⟨BB, 10, none⟩ = some (.slice A.la B.like.length A.lc) := (block_cell (i := 10) hbx).trans rfl
  obtain ⟨rs, t1, p1, n1⟩ := hL.l
  have hml : B.like.length = rs.length := by rw [← p1, List.length_map]
  have hsp : spR rs = spC B.like := by unfold spR spC; rw [← p1, List.map_map]; rfl
  have HC := Lib.hid (risingChr_any none 49 #[] (fun _ _ => True) (B.like.map (wrongCh 18)) A.la rs A.lc w (by rw [← hml]; exact hs.l) (by rw [List.length_map, hml]) t1 (fun _ _ _ => by simp) (fun _ _ => by simp) (enters_of Tryz.func49 (by kernel_rfl) rfl) (fun _ _ _ _ _ => trivial) trivial
    (fun W i x b hg _ hx _ _ hws => by
      have hW := below_none hg
      have hxm : x.plain ∈ B.like := by rw [← p1]; exact List.mem_map_of_mem (List.mem_of_getElem? hx)
      have hwb : b = (wrongCh 18) x.plain := by
        rw [List.getElem?_map] at hws
        have : B.like[i]? = some x.plain := by rw [← p1, List.getElem?_map, hx]; rfl
        rw [this] at hws
        cases hws
        rfl
      refine (check3_any x W (hs.li _ hxm) ((n1 x (List.mem_of_getElem? hx)).below hW)).mono ?_
      rintro e w' ⟨rfl, hb⟩
      exact ⟨by first | (rw [hwb]; done) | (rw [hwb]; rfl), trivial, grown_of hb⟩))
  rw [hsp, ← hml] at HC
  clear hml hsp t1 p1 n1
  have kC := cC
  clear hL hs cA cP cC hbx
  go_enter Tryz.func69, Tryz.ntmps69
  go_wp2_with fail
  refine HC.out.mono ?_
  rintro e w1 ⟨r, rfl, hr, hg1⟩
  have HR := Lib.hid hr
  clear hr
  go_wp2_with fail
  go_ret
  exact ⟨r, rfl, HR.out, below_none hg1⟩
set_option maxRecDepth 100000 in
set_option maxHeartbeats 1000000 in
theorem c9_any (B : Mem.Book) (A : Ads) (BB PA PP PC : Nat) (w : World) (hs : Small B) (hL : Lies w B A) (hbx : w.heap[BB]? = some (apiBox B A)) (cA : w.cell? ⟨PA, 0, none⟩ = some (.func (.func 46) #[] #[])) (cP : w.cell? ⟨PP, 0, none⟩ = some (.func (.func 47) #[] #[])) (cC : w.cell? ⟨PC, 0, none⟩ = some (.func (.func 49) #[] #[])) :
    Calls Tryz.prog 62 #[.pointer (some ⟨BB, 0, none⟩), .pointer (some ⟨PP, 0, none⟩)] w fun e w' => ∃ r, e = .returned (.int .i64 r) ∧ (0 ≤ r ↔ ¬ (okRows B.excl (B.excl.map fun x => touchB x.a x.b) = true)) ∧ Below w.heap.size w w' := by
  have k5 : w.cell? ⟨BB, 5, none⟩ = some (.slice A.xa B.excl.length A.xc) := (block_cell (i := 5) hbx).trans rfl
  have hsp : spS B.excl = B.excl := by unfold spS; simp
  have HC := Lib.hid (risingSpn_any none 47 #[] (fun _ _ => True) (B.excl.map (fun x => touchB x.a x.b)) A.xa B.excl A.xc w hs.x (by rw [List.length_map]) hL.x (fun _ _ _ => by simp) (fun _ _ => by simp) (enters_of Tryz.func47 (by kernel_rfl) rfl) (fun _ _ _ _ _ => trivial) trivial
    (fun W i x b hg _ hx _ _ hws => by
      have hwb : b = (fun x => touchB x.a x.b) x := by
        rw [List.getElem?_map, hx] at hws
        cases hws
        rfl
      refine (check2_any x.a x.b W).mono ?_
      rintro e w' ⟨rfl, hb⟩
      exact ⟨by first | (rw [hwb]; done) | (rw [hwb]; rfl), trivial, grown_of hb⟩))
  rw [hsp] at HC
  clear hsp
  have kP := cP
  clear hL hs cA cP cC hbx
  go_enter Tryz.func62, Tryz.ntmps62
  go_wp2_with fail
  refine HC.out.mono ?_
  rintro e w1 ⟨r, rfl, hr, hg1⟩
  have HR := Lib.hid hr
  clear hr
  go_wp2_with fail
  go_ret
  exact ⟨r, rfl, HR.out, below_none hg1⟩
set_option maxRecDepth 100000 in
set_option maxHeartbeats 1000000 in
theorem c12_any (B : Mem.Book) (A : Ads) (BB PA PP PC : Nat) (w : World) (hs : Small B) (hL : Lies w B A) (hbx : w.heap[BB]? = some (apiBox B A)) (cA : w.cell? ⟨PA, 0, none⟩ = some (.func (.func 46) #[] #[])) (cP : w.cell? ⟨PP, 0, none⟩ = some (.func (.func 47) #[] #[])) (cC : w.cell? ⟨PC, 0, none⟩ = some (.func (.func 49) #[] #[])) :
    Calls Tryz.prog 67 #[.pointer (some ⟨BB, 0, none⟩), .pointer (some ⟨PA, 0, none⟩)] w fun e w' => ∃ r, e = .returned (.int .i64 r) ∧ (0 ≤ r ↔ ¬ (okRows B.marks (B.marks.map fun _ => false) = true)) ∧ Below w.heap.size w w' := by
  have k8 : w.cell? ⟨BB, 8, none⟩ = some (.slice A.qa B.marks.length A.qc) := (block_cell (i := 8) hbx).trans rfl
  have hsp : spS B.marks = B.marks := by unfold spS; simp
  have HC := Lib.hid (risingSpn_any none 46 #[] (fun _ _ => True) (B.marks.map (fun _ => false)) A.qa B.marks A.qc w hs.q (by rw [List.length_map]) hL.q (fun _ _ _ => by simp) (fun _ _ => by simp) (enters_of Tryz.func46 (by kernel_rfl) rfl) (fun _ _ _ _ _ => trivial) trivial
    (fun W i x b hg _ hx _ _ hws => by
      have hwb : b = (fun _ => false) x := by
        rw [List.getElem?_map, hx] at hws
        cases hws
        rfl
      refine (check1_any x.a x.b W).mono ?_
      rintro e w' ⟨rfl, hb⟩
      exact ⟨by first | (rw [hwb]; done) | (rw [hwb]; rfl), trivial, grown_of hb⟩))
  rw [hsp] at HC
  clear hsp
  have kA := cA
  clear hL hs cA cP cC hbx
  go_enter Tryz.func67, Tryz.ntmps67
  go_wp2_with fail
  refine HC.out.mono ?_
  rintro e w1 ⟨r, rfl, hr, hg1⟩
  have HR := Lib.hid hr
  clear hr
  go_wp2_with fail
  go_ret
  exact ⟨r, rfl, HR.out, below_none hg1⟩
set_option maxRecDepth 100000 in
set_option maxHeartbeats 1000000 in
theorem c15_any (B : Mem.Book) (A : Ads) (BB PA PP PC : Nat) (w : World) (hs : Small B) (hL : Lies w B A) (hbx : w.heap[BB]? = some (apiBox B A)) (cA : w.cell? ⟨PA, 0, none⟩ = some (.func (.func 46) #[] #[])) (cP : w.cell? ⟨PP, 0, none⟩ = some (.func (.func 47) #[] #[])) (cC : w.cell? ⟨PC, 0, none⟩ = some (.func (.func 49) #[] #[])) (h6 : B.decomp.length ≤ 65536) (hrows : Memo.Rows B.decomp) :
    Calls Tryz.prog 70 #[.pointer (some ⟨BB, 0, none⟩)] w fun e w' => ∃ r, e = .returned (.int .i64 r) ∧ (0 ≤ r ↔ ¬ (WholeOk B.decomp)) ∧ Below w.heap.size w w' := by
  have k4 : w.cell? ⟨BB, 4, none⟩ = some (.slice A.da B.decomp.length A.dc) := (block_cell (i := 4) hbx).trans rfl
  obtain ⟨rs, t1, p1, n1⟩ := hL.d
  have hml : B.decomp.length = rs.length := by rw [← p1, List.length_map]
  have HC := Lib.hid (wholeP_any A.da rs A.dc w (by rw [← hml]; exact h6) t1 n1 (by rw [p1]; exact hrows))
  rw [p1, ← hml] at HC
  clear hml t1 p1 n1
  clear hL hs cA cP cC hbx
  go_enter Tryz.func70, Tryz.ntmps70
  go_wp2_with fail
  refine HC.out.mono ?_
  rintro e w1 ⟨r, rfl, hr, hb1⟩
  have HR := Lib.hid hr
  clear hr
  go_wp2_with fail
  go_ret
  exact ⟨r, rfl, HR.out, hb1⟩
end Go.Proofs.YtgdambmineeboaaGreatDoor.CheckC

/- The walk of the program's Check. -/
namespace Go.Proofs.YtgdambmineeboaaGreatDoor.CheckAll
open Go.RowKit Go.Lib Go.Proofs.YtgdambmineeboaaGreatDoor.Text Go.Proofs.YtgdambmineeboaaGreatDoor.Runes Go.Proofs.YtgdambmineeboaaGreatDoor.Print Go.Proofs.YtgdambmineeboaaGreatDoor.RefNine Go.Proofs.YtgdambmineeboaaGreatDoor.RefPrint Go.Proofs.YtgdambmineeboaaGreatDoor.Format Go.Proofs.YtgdambmineeboaaGreatDoor.Tell Go.Proofs.YtgdambmineeboaaGreatDoor.Given Go.Proofs.YtgdambmineeboaaGreatDoor.Mem Go.Proofs.YtgdambmineeboaaGreatDoor.Book Go.Proofs.YtgdambmineeboaaGreatDoor.Pred Go.Proofs.YtgdambmineeboaaGreatDoor.Many Go.Proofs.YtgdambmineeboaaGreatDoor.Meets Go.Proofs.YtgdambmineeboaaGreatDoor.NamesAll Go.Proofs.YtgdambmineeboaaGreatDoor.Numbered Go.Proofs.YtgdambmineeboaaGreatDoor.Written Go.Proofs.YtgdambmineeboaaGreatDoor.Touch Go.Proofs.YtgdambmineeboaaGreatDoor.Fine Go.Proofs.YtgdambmineeboaaGreatDoor.Rising Go.Proofs.YtgdambmineeboaaGreatDoor.Values Go.Proofs.YtgdambmineeboaaGreatDoor.WholeRef Go.Proofs.YtgdambmineeboaaGreatDoor.Apart Go.Proofs.YtgdambmineeboaaGreatDoor.Check8 Go.Proofs.YtgdambmineeboaaGreatDoor.NamesP Go.Proofs.YtgdambmineeboaaGreatDoor.Dirs Go.Proofs.YtgdambmineeboaaGreatDoor.CheckC
/-- The table of what Check asks. -/
def table (n : Nat) : Obj := .cells #[.int .i64 1, .func (.func 51) #[] #[.pointer (some ⟨n, 0, none⟩)], .int .i64 2, .func (.func 53) #[] #[.pointer (some ⟨n, 0, none⟩), .pointer (some ⟨n + 2, 0, none⟩)], .int .i64 3, .func (.func 55) #[] #[.pointer (some ⟨n, 0, none⟩)], .int .i64 4, .func (.func 57) #[] #[.pointer (some ⟨n, 0, none⟩), .pointer (some ⟨n + 3, 0, none⟩)], .int .i64 5, .func (.func 58) #[] #[.pointer (some ⟨n, 0, none⟩), .pointer (some ⟨n + 3, 0, none⟩)], .int .i64 6, .func (.func 62) #[] #[.pointer (some ⟨n, 0, none⟩), .pointer (some ⟨n + 3, 0, none⟩)], .int .i64 7, .func (.func 65) #[] #[.pointer (some ⟨n, 0, none⟩), .pointer (some ⟨n + 2, 0, none⟩)], .int .i64 8, .func (.func 66) #[] #[.pointer (some ⟨n, 0, none⟩), .pointer (some ⟨n + 2, 0, none⟩)], .int .i64 9, .func (.func 67) #[] #[.pointer (some ⟨n, 0, none⟩), .pointer (some ⟨n + 2, 0, none⟩)], .int .i64 10, .func (.func 68) #[] #[.pointer (some ⟨n, 0, none⟩), .pointer (some ⟨n + 2, 0, none⟩)], .int .i64 11, .func (.func 69) #[] #[.pointer (some ⟨n, 0, none⟩), .pointer (some ⟨n + 4, 0, none⟩)], .int .i64 5, .func (.func 70) #[] #[.pointer (some ⟨n, 0, none⟩)]] 100 (0, 0)
/-- All that is asked. -/
def asks (B : Mem.Book) : List Prop := conds B ++ [WholeOk B.decomp]
theorem asks_len (B : Mem.Book) : (asks B).length = 12 := rfl
theorem fine_asks (B : Mem.Book) : Fine B ↔ ∀ (j : Nat) p, (asks B)[j]? = some p → p := by
  constructor
  · intro h j p hp
    have := List.mem_of_getElem? hp
    rcases List.mem_append.1 this with h1 | h1
    · exact h.1 p h1
    · rw [List.mem_singleton] at h1
      rw [h1]; exact h.2
  · intro h
    refine ⟨fun p hp => ?_, h 11 _ rfl⟩
    obtain ⟨j, hj⟩ := List.mem_iff_getElem?.1 hp
    refine h j p ?_
    unfold asks
    rw [List.getElem?_append_left (List.getElem?_eq_some_iff.1 hj).1]
    exact hj
/-- What lies in memory when Check begins to ask. -/
structure Set0 (n : Nat) (B : Mem.Book) (A : Ads) (W : World) : Prop where
  lies : Lies W B A
  box : W.heap[n]? = some (apiBox B A)
  ca : W.cell? ⟨n + 2, 0, none⟩ = some (.func (.func 46) #[] #[])
  cp : W.cell? ⟨n + 3, 0, none⟩ = some (.func (.func 47) #[] #[])
  cc : W.cell? ⟨n + 4, 0, none⟩ = some (.func (.func 49) #[] #[])
  tab : W.heap[n + 5]? = some (table n)
theorem Set0.below {n : Nat} {B : Mem.Book} {A : Ads} {W W' : World} (h : Set0 n B A W) (hb : Below W.heap.size W W') : Set0 n B A W' :=
  ⟨h.lies.below hb, (hb.block _ (block_lt h.box)).trans h.box, (hb.cell (p := ⟨n + 2, 0, none⟩) (cell_lt h.ca)).trans h.ca, (hb.cell (p := ⟨n + 3, 0, none⟩) (cell_lt h.cp)).trans h.cp, (hb.cell (p := ⟨n + 4, 0, none⟩) (cell_lt h.cc)).trans h.cc, (hb.block _ (block_lt h.tab)).trans h.tab⟩
set_option maxRecDepth 100000 in
theorem ask_any (n : Nat) (B : Mem.Book) (A : Ads) (hs : Small B) (hcn : B.names.length ≤ A.nc) (i : Nat) (hi : i < 12) (hprev : ∀ (j : Nat) p, j < i → (asks B)[j]? = some p → p) :
    ∃ (g : Nat) (caps : Array Value) (lst : Int) (p : Prop), (asks B)[i]? = some p ∧ (∀ W, Set0 n B A W → W.cell? ⟨n + 5, i * 2, none⟩ = some (.int .i64 lst) ∧ W.cell? ⟨n + 5, i * 2 + 1, none⟩ = some (.func (.func g) #[] caps)) ∧ (∀ args w, (callFunc g args).run Tryz.prog w = .ok (.enter g args) w) ∧ (lst = (lst.toNat : Int) ∧ lst.toNat < 100) ∧
      ∀ W, Set0 n B A W → Calls Tryz.prog g caps W fun e w' => ∃ r, e = .returned (.int .i64 r) ∧ (0 ≤ r ↔ ¬ p) ∧ Below W.heap.size W w' := by
  by_cases e0 : i = 0
  · subst e0
    exact ⟨51, #[.pointer (some ⟨n, 0, none⟩)], 1, _, rfl, fun W h => ⟨(block_cell (i := 0) h.tab).trans rfl, (block_cell (i := 1) h.tab).trans rfl⟩, enters_of Tryz.func51 (by kernel_rfl) rfl, ⟨rfl, by decide⟩, fun W h => c4_any B A n (n + 2) (n + 3) (n + 4) W hs h.lies h.box h.ca h.cp h.cc hcn⟩
  by_cases e1 : i = 1
  · subst e1
    exact ⟨53, #[.pointer (some ⟨n, 0, none⟩), .pointer (some ⟨n + 2, 0, none⟩)], 2, _, rfl, fun W h => ⟨(block_cell (i := 2) h.tab).trans rfl, (block_cell (i := 3) h.tab).trans rfl⟩, enters_of Tryz.func53 (by kernel_rfl) rfl, ⟨rfl, by decide⟩, fun W h => c5_any B A n (n + 2) (n + 3) (n + 4) W hs h.lies h.box h.ca h.cp h.cc⟩
  by_cases e2 : i = 2
  · subst e2
    have hri : Rise B.status := rise_of (hprev 1 _ (by omega) rfl)
    exact ⟨55, #[.pointer (some ⟨n, 0, none⟩)], 3, _, rfl, fun W h => ⟨(block_cell (i := 4) h.tab).trans rfl, (block_cell (i := 5) h.tab).trans rfl⟩, enters_of Tryz.func55 (by kernel_rfl) rfl, ⟨rfl, by decide⟩, fun W h => c6_any B A n (n + 2) (n + 3) (n + 4) W hs h.lies h.box h.ca h.cp h.cc hri⟩
  by_cases e3 : i = 3
  · subst e3
    exact ⟨57, #[.pointer (some ⟨n, 0, none⟩), .pointer (some ⟨n + 3, 0, none⟩)], 4, _, rfl, fun W h => ⟨(block_cell (i := 6) h.tab).trans rfl, (block_cell (i := 7) h.tab).trans rfl⟩, enters_of Tryz.func57 (by kernel_rfl) rfl, ⟨rfl, by decide⟩, fun W h => c7_any B A n (n + 2) (n + 3) (n + 4) W hs h.lies h.box h.ca h.cp h.cc⟩
  by_cases e4 : i = 4
  · subst e4
    exact ⟨58, #[.pointer (some ⟨n, 0, none⟩), .pointer (some ⟨n + 3, 0, none⟩)], 5, _, rfl, fun W h => ⟨(block_cell (i := 8) h.tab).trans rfl, (block_cell (i := 9) h.tab).trans rfl⟩, enters_of Tryz.func58 (by kernel_rfl) rfl, ⟨rfl, by decide⟩, fun W h => c8_any B A n (n + 2) (n + 3) (n + 4) W hs h.lies h.box h.ca h.cp h.cc⟩
  by_cases e5 : i = 5
  · subst e5
    exact ⟨62, #[.pointer (some ⟨n, 0, none⟩), .pointer (some ⟨n + 3, 0, none⟩)], 6, _, rfl, fun W h => ⟨(block_cell (i := 10) h.tab).trans rfl, (block_cell (i := 11) h.tab).trans rfl⟩, enters_of Tryz.func62 (by kernel_rfl) rfl, ⟨rfl, by decide⟩, fun W h => c9_any B A n (n + 2) (n + 3) (n + 4) W hs h.lies h.box h.ca h.cp h.cc⟩
  by_cases e6 : i = 6
  · subst e6
    exact ⟨65, #[.pointer (some ⟨n, 0, none⟩), .pointer (some ⟨n + 2, 0, none⟩)], 7, _, rfl, fun W h => ⟨(block_cell (i := 12) h.tab).trans rfl, (block_cell (i := 13) h.tab).trans rfl⟩, enters_of Tryz.func65 (by kernel_rfl) rfl, ⟨rfl, by decide⟩, fun W h => c10_any B A n (n + 2) (n + 3) (n + 4) W hs h.lies h.box h.ca h.cp h.cc⟩
  by_cases e7 : i = 7
  · subst e7
    exact ⟨66, #[.pointer (some ⟨n, 0, none⟩), .pointer (some ⟨n + 2, 0, none⟩)], 8, _, rfl, fun W h => ⟨(block_cell (i := 14) h.tab).trans rfl, (block_cell (i := 15) h.tab).trans rfl⟩, enters_of Tryz.func66 (by kernel_rfl) rfl, ⟨rfl, by decide⟩, fun W h => c11_any B A n (n + 2) (n + 3) (n + 4) W hs h.lies h.box h.ca h.cp h.cc⟩
  by_cases e8 : i = 8
  · subst e8
    exact ⟨67, #[.pointer (some ⟨n, 0, none⟩), .pointer (some ⟨n + 2, 0, none⟩)], 9, _, rfl, fun W h => ⟨(block_cell (i := 16) h.tab).trans rfl, (block_cell (i := 17) h.tab).trans rfl⟩, enters_of Tryz.func67 (by kernel_rfl) rfl, ⟨rfl, by decide⟩, fun W h => c12_any B A n (n + 2) (n + 3) (n + 4) W hs h.lies h.box h.ca h.cp h.cc⟩
  by_cases e9 : i = 9
  · subst e9
    exact ⟨68, #[.pointer (some ⟨n, 0, none⟩), .pointer (some ⟨n + 2, 0, none⟩)], 10, _, rfl, fun W h => ⟨(block_cell (i := 18) h.tab).trans rfl, (block_cell (i := 19) h.tab).trans rfl⟩, enters_of Tryz.func68 (by kernel_rfl) rfl, ⟨rfl, by decide⟩, fun W h => c13_any B A n (n + 2) (n + 3) (n + 4) W hs h.lies h.box h.ca h.cp h.cc⟩
  by_cases e10 : i = 10
  · subst e10
    exact ⟨69, #[.pointer (some ⟨n, 0, none⟩), .pointer (some ⟨n + 4, 0, none⟩)], 11, _, rfl, fun W h => ⟨(block_cell (i := 20) h.tab).trans rfl, (block_cell (i := 21) h.tab).trans rfl⟩, enters_of Tryz.func69 (by kernel_rfl) rfl, ⟨rfl, by decide⟩, fun W h => c14_any B A n (n + 2) (n + 3) (n + 4) W hs h.lies h.box h.ca h.cp h.cc⟩
  · obtain rfl : i = 11 := by omega
    have hd := hprev 4 _ (by omega) rfl
    have hrows : Memo.Rows B.decomp := Memo.rows_of hd
    have h6 : B.decomp.length ≤ 65536 := by
      have h := hd
      unfold okRows at h
      rw [Bool.and_eq_true] at h
      have := of_decide_eq_true h.1
      simpa [spC] using this
    exact ⟨70, #[.pointer (some ⟨n, 0, none⟩)], 5, _, rfl, fun W h => ⟨(block_cell (i := 22) h.tab).trans rfl, (block_cell (i := 23) h.tab).trans rfl⟩, enters_of Tryz.func70 (by kernel_rfl) rfl, ⟨rfl, by decide⟩, fun W h => c15_any B A n (n + 2) (n + 3) (n + 4) W hs h.lies h.box h.ca h.cp h.cc h6 hrows⟩
theorem old_at {W : World} {o : Obj} {k : Nat} {x : Obj} (h : W.heap[k]? = some x) : (W.alloc o).heap[k]? = some x := (((Below.refl W.heap.size W).alloc (Nat.le_refl _) o).block k (block_lt h)).trans h
theorem new_at {W : World} {o : Obj} {k : Nat} (h : W.heap.size = k) : (W.alloc o).heap[k]? = some o := by rw [← h]; exact heap_alloc_new W o
set_option maxRecDepth 100000 in
set_option maxHeartbeats 2000000 in
theorem checkP_any (B : Mem.Book) (A : Ads) (w : World) (hs : Small B) (hL : Lies w B A) (hcn : B.names.length ≤ A.nc) :
    Calls Tryz.prog 16 #[bookV B A] w fun e w' => ((Fine B ∧ e = .returned (.tuple #[.agg #[.int .i64 0, .int .i64 0], .int .i64 0])) ∨ (¬ Fine B ∧ ∃ l at', e = .returned (.tuple #[.agg #[.int .i64 l, .int .i64 at'], .int .i64 100]))) ∧ Below w.heap.size w w' := by
  have HASK := Lib.hid (fun i hi hprev => ask_any w.heap.size B A hs hcn i hi hprev)
  have HFA := Lib.hid (fine_asks B)
  obtain ⟨W1, hW1⟩ : ∃ W1, W1 = (((((w.alloc (apiBox B A)).alloc (.cells #[.int .i64 0, .int .i64 0] 54 (0, 0))).alloc (.cells #[.func (.func 46) #[] #[]] 93 (0, 0))).alloc (.cells #[.func (.func 47) #[] #[]] 93 (0, 0))).alloc (.cells #[.func (.func 49) #[] #[]] 97 (0, 0))).alloc (table w.heap.size) := ⟨_, rfl⟩
  have hb1 : Below w.heap.size w W1 := by
    rw [hW1]
    exact ((((((Below.refl w.heap.size w).alloc (Nat.le_refl _) _).alloc (by simp) _).alloc (by simp; omega) _).alloc (by simp; omega) _).alloc (by simp; omega) _).alloc (by simp; omega) _
  have hz1 : W1.heap.size = w.heap.size + 6 := by rw [hW1]; simp
  have hres : W1.heap[w.heap.size + 1]? = some (.cells #[.int .i64 0, .int .i64 0] 54 (0, 0)) := by
    rw [hW1]
    exact old_at (old_at (old_at (old_at (new_at (by simp)))))
  have hset : Set0 w.heap.size B A W1 := by
    refine ⟨hL.below hb1, ?_, ?_, ?_, ?_, ?_⟩ <;> rw [hW1]
    · exact old_at (old_at (old_at (old_at (old_at (new_at rfl)))))
    · exact (block_cell (i := 0) (old_at (old_at (old_at (new_at (by simp)))))).trans rfl
    · exact (block_cell (i := 0) (old_at (old_at (new_at (by simp))))).trans rfl
    · exact (block_cell (i := 0) (old_at (new_at (by simp)))).trans rfl
    · exact new_at (by simp)
  have HB1 := Lib.hid hb1
  have HSET := Lib.hid hset
  have HRES := Lib.hid hres
  unfold table apiBox at hW1
  clear hs hL hcn hb1 hset hres
  unfold bookV
  go_enter Tryz.func16, Tryz.ntmps16
  go_wp2_with fail
  rw [← hW1]
  clear hW1
  go_loopw [38] (fun v w' => ∃ (i : Nat), v = .int .i64 i ∧ i ≤ 12 ∧ Hid (∀ (j : Nat) p, j < i → (asks B)[j]? = some p → p) ∧ Below W1.heap.size W1 w') (fun v _ => 12 - (intOf v).toNat)
  case atStart => exact ⟨0, rfl, Nat.zero_le _, Lib.hid (fun j p h => by omega), Below.refl _ _⟩
  case round =>
    obtain ⟨i, rfl, hi, hok, hb⟩ := hrel
    have hwr : w.heap.size + 6 ≤ wr.heap.size := by have := hb.size; omega
    by_cases hlt : i < 12
    · obtain ⟨g, caps, lst, p, hp, hcells, eg, hlst, hcall⟩ := HASK.out i hlt hok.out
      have HP := Lib.hid hp
      have hsetr := HSET.out.below hb
      obtain ⟨q0, q1⟩ := hcells wr hsetr
      have HC := Lib.hid (hcall _ (hsetr.below ((Below.refl wr.heap.size wr).alloc (Nat.le_refl _) (.cells #[.int .i64 lst, .func (.func g) #[] caps] 100 (0, 0)))))
      have HL := Lib.hid hlst
      clear hcells hcall hp hsetr hlst
      go_wp2_with fail
      refine HC.out.mono ?_
      rintro e w2 ⟨r, rfl, hr, hb2⟩
      have HR := Lib.hid hr
      have hb12 : Below W1.heap.size W1 w2 := (hb.alloc hb.size _).trans (hb2.mono (by simp; omega))
      have hw2 : wr.heap.size < w2.heap.size := Nat.lt_of_lt_of_le (by simp) hb2.size
      have k0 : w2.cell? ⟨wr.heap.size, 0, none⟩ = some (.int .i64 lst) := (block_cell (i := 0) ((hb2.block _ (by simp)).trans (heap_alloc_new wr _))).trans rfl
      have hres2 : w2.heap[w.heap.size + 1]? = some (.cells #[.int .i64 0, .int .i64 0] 54 (0, 0)) := (hb12.block _ (by omega)).trans HRES.out
      have hb02 := HB1.out.trans (hb12.mono HB1.out.size)
      clear hr hb2 q0 q1 eg
      by_cases h0 : 0 ≤ r
      · have HN : Hid (¬ Fine B) := Lib.hid (fun hf => HR.out.1 h0 (HFA.out.1 hf _ _ HP.out))
        have rc0 : w2.cell? ⟨w.heap.size + 1, 0, none⟩ = some (.int .i64 0) := (block_cell (i := 0) hres2).trans rfl
        have rc1 : w2.cell? ⟨w.heap.size + 1, 1, none⟩ = some (.int .i64 0) := (block_cell (i := 1) hres2).trans rfl
        have rf0 := block_free (i := 0) hres2
        have rf1 := block_free (i := 1) hres2
        go_wp2_with fail
        have z1 := block_set (i := 1) (v := .int .i64 r) (block_set (i := 0) (v := .int .i64 lst) hres2)
        have z2 : (((w2.setCell ⟨w.heap.size + 1, 0, none⟩ (.int .i64 lst)).setCell ⟨w.heap.size + 1, 1, none⟩ (.int .i64 r)).cell? ⟨w.heap.size + 1, 0, none⟩) = some (.int .i64 lst) := (block_cell (i := 0) z1).trans rfl
        have z3 : (((w2.setCell ⟨w.heap.size + 1, 0, none⟩ (.int .i64 lst)).setCell ⟨w.heap.size + 1, 1, none⟩ (.int .i64 r)).cell? ⟨w.heap.size + 1, 1, none⟩) = some (.int .i64 r) := (block_cell (i := 1) z1).trans rfl
        refine bodyPost_ret (v := .tuple #[.agg #[.int .i64 lst, .int .i64 r], .int .i64 100]) ?_ rfl ⟨.inr ⟨HN.out, lst, r, rfl⟩, (hb02.setCell (by simp) _).setCell (by simp) _⟩
        simp [results, Tryz.results16, go_sem, z2, z3]
      · have HT : Hid (∀ (j : Nat) p, j < i + 1 → (asks B)[j]? = some p → p) := Lib.hid (fun j q hj hq => by
          by_cases e : j = i
          · subst e
            rw [HP.out] at hq
            cases hq
            exact Classical.byContradiction fun hn => h0 (HR.out.2 hn)
          · exact hok.out j q (by omega) hq)
        go_wp2_with fail
        go_roundw
        case rel => exact ⟨i + 1, by go_num, by omega, HT, hb12⟩
        case measure => simp [intOf]; omega
    · obtain rfl : i = 12 := by omega
      have HT : Hid (Fine B) := Lib.hid (HFA.out.2 fun j p hp => hok.out j p (by have := (List.getElem?_eq_some_iff.1 hp).1; rw [asks_len] at this; exact this) hp)
      have hresr : wr.heap[w.heap.size + 1]? = some (.cells #[.int .i64 0, .int .i64 0] 54 (0, 0)) := (hb.block _ (by omega)).trans HRES.out
      have rc0 : wr.cell? ⟨w.heap.size + 1, 0, none⟩ = some (.int .i64 0) := (block_cell (i := 0) hresr).trans rfl
      have rc1 : wr.cell? ⟨w.heap.size + 1, 1, none⟩ = some (.int .i64 0) := (block_cell (i := 1) hresr).trans rfl
      have rf0 := block_free (i := 0) hresr
      have rf1 := block_free (i := 1) hresr
      have hb0 := HB1.out.trans (hb.mono HB1.out.size)
      go_wp2_with fail
      have z1 := block_set (i := 1) (v := .int .i64 0) (block_set (i := 0) (v := .int .i64 0) hresr)
      have z2 : (((wr.setCell ⟨w.heap.size + 1, 0, none⟩ (.int .i64 0)).setCell ⟨w.heap.size + 1, 1, none⟩ (.int .i64 0)).cell? ⟨w.heap.size + 1, 0, none⟩) = some (.int .i64 0) := (block_cell (i := 0) z1).trans rfl
      have z3 : (((wr.setCell ⟨w.heap.size + 1, 0, none⟩ (.int .i64 0)).setCell ⟨w.heap.size + 1, 1, none⟩ (.int .i64 0)).cell? ⟨w.heap.size + 1, 1, none⟩) = some (.int .i64 0) := (block_cell (i := 1) z1).trans rfl
      refine bodyPost_ret (v := .tuple #[.agg #[.int .i64 0, .int .i64 0], .int .i64 0]) ?_ rfl ⟨.inl ⟨HT.out, rfl⟩, (hb0.setCell (by simp) _).setCell (by simp) _⟩
      simp [results, Tryz.results16, go_sem, z2, z3]
end Go.Proofs.YtgdambmineeboaaGreatDoor.CheckAll
