/- The walks of what reads a line's last field: a number, a name of a list, a script's name. -/
import Derived.Test.YtgdambmineeboaaGreatDoorBTakeV
import Derived.Test.YtgdambmineeboaaGreatDoorBKinds
import Derived.Test.YtgdambmineeboaaGreatDoorBNamesP
import Derived.Test.YtgdambmineeboaaGreatDoorBLns
import Derived.Lib.SlicesS
set_option linter.unusedSimpArgs false
set_option linter.unusedVariables false
namespace Go.Proofs.YtgdambmineeboaaGreatDoor.Readers
open Go.RowKit Go.Lib Go.Proofs.YtgdambmineeboaaGreatDoor.Text Go.Proofs.YtgdambmineeboaaGreatDoor.Runes Go.Proofs.YtgdambmineeboaaGreatDoor.Print Go.Proofs.YtgdambmineeboaaGreatDoor.RefNine Go.Proofs.YtgdambmineeboaaGreatDoor.Format Go.Proofs.YtgdambmineeboaaGreatDoor.Tell Go.Proofs.YtgdambmineeboaaGreatDoor.Given Go.Proofs.YtgdambmineeboaaGreatDoor.Mem Go.Proofs.YtgdambmineeboaaGreatDoor.RSt Go.Proofs.YtgdambmineeboaaGreatDoor.Dirs Go.Proofs.YtgdambmineeboaaGreatDoor.Kinds Go.Proofs.YtgdambmineeboaaGreatDoor.TakeV Go.Proofs.YtgdambmineeboaaGreatDoor.Lns
theorem ba_eq {a b : ByteArray} : (a.data.toList == b.data.toList) = true ↔ a = b := by
 rw [beq_iff_eq]
 exact ⟨ba_ext, fun h => by rw [h]⟩
theorem getD_get {l : List ByteArray} {i : Nat} (h : i < l.length) : l.getD i ByteArray.empty = l[i] := by rw [List.getD_eq_getElem?_getD, List.getElem?_eq_getElem h]; rfl
theorem idx_place {l : List ByteArray} {s : ByteArray} (h : placeB l s < l.length) : Lib.idxOfS l s = (placeB l s : Int) := by
 have hp := List.findIdx_getElem (w := h)
 unfold Lib.idxOfS
 rw [Lib.idxFromS_hit s l (placeB l s) 0 h (by rw [getD_get h]; exact ba_eq.1 hp) (fun j hj => ?_)]
 ·simp
 ·rw [getD_get (by omega)]
  intro e
  have := List.not_of_lt_findIdx (p := fun t : ByteArray => t.data.toList == s.data.toList) hj
  rw [ba_eq.2 e] at this
  cases this
theorem idx_none' {l : List ByteArray} {s : ByteArray} (h : ¬ placeB l s < l.length) : Lib.idxOfS l s = -1 := by
 have hlen : placeB l s = l.length := Nat.le_antisymm List.findIdx_le_length (by omega)
 unfold placeB at hlen
 rw [List.findIdx_eq_length] at hlen
 unfold Lib.idxOfS
 refine Lib.idxFromS_miss s l 0 fun j hj e => ?_
 rw [getD_get hj] at e
 have := hlen l[j] (List.getElem_mem hj)
 rw [ba_eq.2 e] at this
 cases this
/-- Where a text lies in a row of texts. -/
theorem index_any {W : World} {base : Nat} {v : Value} {l : List ByteArray} (h : W.ownsRow base 9 1 v l.length (l.map Value.string)) (hl : l.length ≤ 1048576) (s : ByteArray) :
  Calls Tryz.prog 157 #[v, .string s] W fun e w' => e = .returned (.int .i64 (Lib.idxOfS l s)) ∧ W = w' := by
 rcases h.2 with ⟨rfl, h0⟩ | ⟨g, cap, cur, rfl, hg, hcur, hnc, hcm, hcs, htk⟩
 ·have : l = [] := List.length_eq_zero_iff.1 h0
  subst this
  refine (Tryz.slices_Index_string_empty none 0 s W).mono ?_
  rintro e w' ⟨he, rfl⟩
  exact ⟨he, rfl⟩
 ·refine (Tryz.slices_Index_string g 0 l.length cap l s W (Nat.le_refl _) (by omega) (fun j hj => ?_)).mono ?_
  ·have := h.cells (g := g) rfl j (.string l[j]) (by rw [List.getElem?_map, List.getElem?_eq_getElem hj]; rfl)
   rw [Lib.add_plain] at this
   rw [getD_get hj]
   exact this
  ·rintro e w' ⟨he, rfl⟩
   rw [List.take_length] at he
   exact ⟨he, rfl⟩
theorem strsIdx_any {W : World} {ad : Option Addr} {c : Nat} {l : List ByteArray} (h : Strs W ad l) (hne : l ≠ []) (hl : l.length ≤ 1048576) (s : ByteArray) :
  Calls Tryz.prog 157 #[.slice ad l.length c, .string s] W fun e w' => e = .returned (.int .i64 (Lib.idxOfS l s)) ∧ W = w' := by
 rcases h with h0 | ⟨bk, o, rfl, _, hc⟩
 ·exact absurd h0 hne
 ·refine (Tryz.slices_Index_string bk o l.length c l s W (Nat.le_refl _) (by omega) (fun j hj => ?_)).mono ?_
  ·rw [getD_get hj]
   exact hc j _ (List.getElem?_eq_getElem hj)
  ·rintro e w' ⟨he, rfl⟩
   rw [List.take_length] at he
   exact ⟨he, rfl⟩
theorem dirs_idx : ∀ n : Fin 23, Lib.idxOfS dirs (dirs.getD n.val ⟨#[]⟩) = (n.val : Int) := by decide +kernel
theorem joins_idx : ∀ n : Fin 6, Lib.idxOfS joins (joins.getD n.val ⟨#[]⟩) = (n.val : Int) := by decide +kernel
set_option maxRecDepth 100000 in
theorem named1_any (p : Value) (s : ByteArray) (bn : Nat) (l : List ByteArray) (n : Nat) (W : World) (hn : Lib.idxOfS l s = (n : Int)) (ad : Option Addr) (c : Nat) (hb : W.cell? ⟨bn, 0, none⟩ = some (.slice ad l.length c)) (hs : Strs W ad l) (hne : l ≠ []) (hl : l.length ≤ 1048576) :
  Calls Tryz.prog 156 #[p, .string s, .pointer (some ⟨bn, 0, none⟩)] W fun e w' => e = .returned (.tuple #[.int .i64 n, .int .i64 0]) ∧ W = w' := by
 have HC := Lib.hid (strsIdx_any (c := c) hs hne hl s)
 rw [hn] at HC
 clear hs hn
 go_enter Tryz.func156, Tryz.ntmps156
 go_wp2_with fail
 refine HC.out.mono ?_
 rintro e w1 ⟨rfl, rfl⟩
 go_wp2_with fail
 go_ret2
 exact ⟨rfl, rfl⟩
set_option maxRecDepth 100000 in
theorem number1_any (p : Value) (s : ByteArray) (n : Nat) (W : World) (hs : s.data.toList = Lib.decDigits n) (hn : n < 1000) :
  Calls Tryz.prog 100 #[p, .string s] W fun e w' => e = .returned (.tuple #[.int .i64 n, .int .i64 0]) ∧ W = w' := by
 have HC := Lib.hid (Range10.whole_any s n W hs hn)
 clear hs
 go_enter Tryz.func100, Tryz.ntmps100
 go_wp2_with fail
 refine HC.out.mono ?_
 rintro e w1 ⟨rfl, rfl⟩
 go_wp2_with fail
 go_ret2
 exact ⟨rfl, rfl⟩
def lnS (ln : Nat → Nat) (names : List ByteArray) (s : ByteArray) : Nat → Nat := if placeB names s < names.length then ln else updV ln 0 (ln 0 + 1)
def csS (cs : Nat → List Value) (names : List ByteArray) (s : ByteArray) : Nat → List Value := if placeB names s < names.length then cs else updV cs 0 (cs 0 ++ [.string s])
theorem infoT : (Tryz.prog.info? 9).map (fun i => (i.zero, i.size, i.bytes)) = some (some (.string ⟨#[]⟩), 1, 16) := by kernel_rfl
set_option maxRecDepth 100000 in
set_option maxHeartbeats 2000000 in
theorem script_any (RB base : Nat) (w0 : World) (ln : Nat → Nat) (cs : Nat → List Value) (rs : List Raw) (names : List ByteArray) (hln : ln 0 = names.length) (hcs : cs 0 = names.map Value.string) (hnl : names.length ≤ 1048575) (s : ByteArray) (hsz : s.size ≤ 1048576) (hsn : Names.nameB s = true)
  (W : World) (h : RX RB base w0 ln cs rs W) (hz : base ≤ W.heap.size) (k : Nat) (bs : Array Value) (hk : W.heap[k]? = some (.cells bs 71 (0, 0))) (hkR : k ≠ RB) :
  Calls Tryz.prog 110 #[.pointer (some ⟨RB, 0, none⟩), .string s] W fun e w' => e = .returned (.tuple #[.int .i64 ((placeB names s : Int) + 1), .int .i64 0]) ∧ RX RB base w0 (lnS ln names s) (csS cs names s) rs w' ∧ Kp RB base W w' ∧ w'.heap[k]? = W.heap[k]? := by
 have HI := Lib.hid (IsName.isName_any s W hsz)
 rw [hsn] at HI
 obtain ⟨i0, hi, hz0, hz1, hz2⟩ := info_parts infoT
 obtain ⟨vs, hR⟩ := h
 have HR := Lib.hid hR
 have hlt := hR.lt
 have hbs := hR.bs
 have HK := Lib.hid hk
 have hkl := block_lt hk
 have hle : placeB names s ≤ names.length := List.findIdx_le_length
 by_cases hp : placeB names s < names.length
 ·have HX : Hid (Lib.idxOfS names s = (placeB names s : Int)) := Lib.hid (idx_place hp)
  have HL : Hid (lnS ln names s = ln ∧ csS cs names s = cs) := Lib.hid ⟨by unfold lnS; rw [if_pos hp], by unfold csS; rw [if_pos hp]⟩
  generalize placeB names s = pn at *
  clear hR hsn hk
  go_enter Tryz.func110, Tryz.ntmps110
  go_wp2_with fail
  refine HI.out.mono ?_
  rintro e w1 ⟨rfl, hb1⟩
  have hR1 := HR.out.below hb1
  have r0 : w1.cell? ⟨RB, 0, none⟩ = some (vs 0) := hR1.cell (by decide)
  have HO := Lib.hid (hR1.own 0 (by decide))
  have HIX := Lib.hid (index_any (l := names) (by have := HO.out; rw [hln, hcs] at this; exact this) (by omega) s)
  rw [HX.out] at HIX
  have HR1 := Lib.hid hR1
  have HB1 := Lib.hid hb1
  clear hR1 hb1
  go_wp2_with fail
  refine HIX.out.mono ?_
  rintro e w2 ⟨rfl, rfl⟩
  go_wp2_with fail
  go_ret2
  refine ⟨rfl, ?_, Kp.of_below HB1.out, HB1.out.block k hkl⟩
  rw [HL.out.1, HL.out.2]
  exact ⟨vs, HR1.out⟩
 ·have HX : Hid (Lib.idxOfS names s = -1) := Lib.hid (idx_none' hp)
  have HL : Hid (lnS ln names s = updV ln 0 (ln 0 + 1) ∧ csS cs names s = updV cs 0 (cs 0 ++ [.string s])) := Lib.hid ⟨by unfold lnS; rw [if_neg hp], by unfold csS; rw [if_neg hp]⟩
  have HPN : Hid (placeB names s = names.length) := Lib.hid (by omega)
  generalize placeB names s = pn at *
  clear hR hsn hk
  go_enter Tryz.func110, Tryz.ntmps110
  go_wp2_with fail
  refine HI.out.mono ?_
  rintro e w1 ⟨rfl, hb1⟩
  have hR1 := HR.out.below hb1
  have r0 : w1.cell? ⟨RB, 0, none⟩ = some (vs 0) := hR1.cell (by decide)
  have HO := Lib.hid (hR1.own 0 (by decide))
  have HIX := Lib.hid (index_any (l := names) (by have := HO.out; rw [hln, hcs] at this; exact this) (by omega) s)
  rw [HX.out] at HIX
  have HB1 := Lib.hid hb1
  have hk1 := (hb1.block k hkl).trans HK.out
  have HK1 := Lib.hid hk1
  have hz1' : base ≤ w1.heap.size := Nat.le_trans hz hb1.size
  have hA := (Below.refl w1.heap.size w1).alloc (Nat.le_refl _) (.cells #[.string s] 9 (0, 0))
  have HA := Lib.hid hA
  have HRA := Lib.hid (hR1.below hA)
  have r0A : (w1.alloc (.cells #[.string s] 9 (0, 0))).cell? ⟨RB, 0, none⟩ = some (vs 0) := HRA.out.cell (by decide)
  have HOA := Lib.hid (show (w1.alloc (.cells #[.string s] 9 (0, 0))).ownsRow base 9 1 (vs 0) (ln 0) (cs 0) from HRA.out.own 0 (by decide))
  have HNW := Lib.hid (show ∀ (j : Nat) u, ([.string s] : List Value)[j]? = some u → (w1.alloc (.cells #[.string s] 9 (0, 0))).cell? ((⟨w1.heap.size, 0, none⟩ : Addr).add j) = some u from World.news_of_block (heap_alloc_new w1 (.cells #[.string s] 9 (0, 0))))
  have hge : ∀ k, (vs 0).ownBlock = some k → base ≤ k ∧ k < w1.heap.size := fun k hk => HO.out.lt k hk
  have HGE := Lib.hid hge
  have HNE : Hid (some RB ≠ (vs 0).ownBlock) := Lib.hid (fun e => by have := hge RB e.symm; omega)
  have hln1 : ln 0 ≤ 1048575 := by omega
  obtain ⟨a0, n0, c0, hv0⟩ : ∃ a n c, vs 0 = .slice a n c := by
   rcases HO.out.2 with ⟨h, _⟩ | ⟨g, cap, cur, h, _⟩
   ·exact ⟨_, _, _, h⟩
   ·exact ⟨_, _, _, h⟩
  have hn0 : n0 = names.length := by
   rcases HO.out.2 with ⟨h, h2⟩ | ⟨g, cap, cur, h, _⟩
   ·rw [hv0] at h; cases h; omega
   ·rw [hv0] at h; cases h; exact hln
  have HV0 := Lib.hid hv0
  have HN0 := Lib.hid hn0
  rw [hv0] at r0 r0A HIX
  clear hR1 hb1 hA hge hk1 hln hcs hv0 hn0
  go_wp2_with fail
  refine HIX.out.mono ?_
  rintro e w2 ⟨rfl, rfl⟩
  go_wp2_with (at_builtin; refine wpList_append_lies _ rfl _ _ 22 rfl base 9 i0 (.string ⟨#[]⟩) 1 16 Tryz.underlying22 hi hz0 hz1 hz2 rfl (by decide) (vs 0) (ln 0) (cs 0) (by rw [HV0.out]; rfl) HOA.out ⟨w1.heap.size, 0, none⟩ 1 1 [.string s] rfl rfl HNW.out (by simp [Value.oneCell']) (by omega) (by unfold maxLen; omega) (by omega) (by simp; omega) _ rfl ?_)
  intro g cap w6 hown6 hgrow hat hlt6
  have hblk := grown_block hgrow HRA.out.bx HNE.out
  have f6 := block_free (i := 0) hblk
  have s6 : w6.cell? ⟨RB, 0, none⟩ = some (.slice a0 n0 c0) := by rw [← HV0.out]; exact (block_cell (i := 0) hblk).trans rfl
  have HFIN := Lib.hid (HRA.out.push (i := 0) (by decide) hown6 hgrow (by simpa using hat))
  have HKP := Lib.hid (kp_push (RB := RB) (base := base) hgrow (fun k hk => (HGE.out k hk).1) 0 (.slice (some ⟨g, 0, none⟩) (ln 0 + 1) cap))
  have HK6 : Hid ((w6.setCell ⟨RB, 0, none⟩ (.slice (some ⟨g, 0, none⟩) (ln 0 + 1) cap)).heap[k]? = W.heap[k]?) := Lib.hid (by
   have hkA : (w1.alloc (.cells #[.string s] 9 (0, 0))).heap[k]? = some (.cells bs 71 (0, 0)) := (HA.out.block k (block_lt HK1.out)).trans HK1.out
   rw [Below.heap_setCell _ _ _ _ (show k ≠ RB from hkR), hgrow.block k (block_lt hkA) (fun e => ?_), hkA]
   ·exact HK.out.symm
   ·rcases HOA.out.2 with ⟨h, _⟩ | ⟨g', cap', cur', h, _, hc, _⟩
    ·rw [h] at e; cases e
    ·rw [h] at e
     cases e
     rw [hkA] at hc
     cases hc)
  have hnn : (n0 : Int) ≤ 1048575 := by have := HN0.out; omega
  clear hblk hown6 hgrow hat hlt6
  go_wp2_with fail
  go_ret2
  refine ⟨?_, ?_, (Kp.of_below HB1.out).trans ((Kp.of_below HA.out).trans HKP.out), HK6.out⟩
  ·rw [HN0.out, HPN.out]
   rfl
  ·rw [HL.out.1, HL.out.2]
   exact ⟨_, HFIN.out⟩
end Go.Proofs.YtgdambmineeboaaGreatDoor.Readers
