/- The walk of line.Lines: its iterator, for every loop body that goes on. -/
import Derived.Test.YtleadeaahlmmiaaGreatDoorCut
import Derived.RangeFuncNested
import Derived.RangeFuncBound
import Derived.RangeFuncCalls
import Derived.RangeFuncLeaves
import Derived.Shelf.Abstract
import Derived.Shelf.RegionOpen
import Derived.WalkKit
import Derived.OwnWalkIn
import Derived.TacticsInMore
import Derived.LoopNIn
import Derived.LoopIn
namespace Go.Proofs.YtleadeaahlmmiaaGreatDoor.Lines
open Go.RowKit Go.Lib Go.Shelf Go.Proofs.YtleadeaahlmmiaaGreatDoor.Text Go.Proofs.YtleadeaahlmmiaaGreatDoor.Runes Go.Proofs.YtleadeaahlmmiaaGreatDoor.Print Go.Proofs.YtleadeaahlmmiaaGreatDoor.RefNine Go.Proofs.YtleadeaahlmmiaaGreatDoor.RefPrint Go.Proofs.YtleadeaahlmmiaaGreatDoor.Format Go.Proofs.YtleadeaahlmmiaaGreatDoor.Tell Go.Proofs.YtleadeaahlmmiaaGreatDoor.Given Go.Proofs.YtleadeaahlmmiaaGreatDoor.Split Go.Proofs.YtleadeaahlmmiaaGreatDoor.Cut
attribute [local go_sem] Oper.semAt_some

/-- A line that is told. -/
structure LineIt where
  num : Nat
  fields : List (List UInt8)
  note : List UInt8

/-- Which lines a text has, the first one's number being given. -/
inductive Reads : Nat → List UInt8 → List LineIt → Prop
  | nil (n : Nat) : Reads n [] []
  | some (n : Nat) (s : List UInt8) (its : List LineIt) : s ≠ [] → lineSome (Lib.cut s [10]).1 = true → Reads (n + 1) (Lib.cut s [10]).2.1 its → Reads n s (⟨n, lineFields (Lib.cut s [10]).1, lineNote (Lib.cut s [10]).1⟩ :: its)
  | none (n : Nat) (s : List UInt8) (its : List LineIt) : s ≠ [] → lineSome (Lib.cut s [10]).1 = false → Reads (n + 1) (Lib.cut s [10]).2.1 its → Reads n s its

theorem cut_less (s : List UInt8) (h : s ≠ []) : (Lib.cut s [10]).2.1.length < s.length := by
  have hp : 0 < s.length := by cases s with | nil => exact absurd rfl h | cons => simp
  unfold Lib.cut
  split
  · simp only [List.length_drop, List.length_singleton]; omega
  · exact hp

theorem quick_low {w w' : World} {n : Nat} (h : Quick w) (hn : 0 < n) (hb : Below n w w') : Quick w' :=
  ⟨h.1.elim fun m hm => ⟨m, (hb.cell (p := ⟨0, 0, none⟩) hn).trans hm⟩, Nat.lt_of_lt_of_le h.2 hb.size⟩

set_option maxRecDepth 100000 in
set_option maxHeartbeats 2000000 in
theorem lines1_in (n : Nat) (hn : 1 ≤ n) (l B n₀ : Nat) (s : ByteArray) (items : List LineIt) (W0 : World) (J : List LineIt → World → Prop)
    (hJ : ∀ pre A A', J pre A → Below A.heap.size A A' → J pre A')
    (hY : ∀ pre it a c fs note W1, J pre W1 → Strs W1 a fs → fs.map (·.data.toList) = it.fields → note.data.toList = it.note → fs.length ≤ c → (∃ post, items = pre ++ it :: post) → Below n₀ W0 W1 →
      YieldAt Fence.wide (n - 1) Tryz.prog l #[.agg #[.int .i64 (it.num : Int), .slice a fs.length c, .string note]] W1 fun e W' => e = .returned (.bool true) ∧ J (pre ++ [it]) W' ∧ Below n₀ W1 W')
    (hB : W0.cell? ⟨B, 0, none⟩ = some (.string s)) (hQ : Quick W0) (hq0 : 0 < n₀) (hn₀ : n₀ ≤ W0.heap.size) (hR : Reads 1 s.data.toList items) (hs : s.size ≤ 1073741824) (h0 : J [] W0) :
    CallsIn Fence.wide n Tryz.prog 20 #[.func (.yield l) #[] #[], .pointer (some ⟨B, 0, none⟩)] W0 fun e W' => (∃ v, e = .returned v) ∧ J items W' ∧ Below n₀ W0 W' := by
  have HJ := Lib.hid hJ
  have HY := Lib.hid hY
  have HQ := Lib.hid hQ
  have HR := Lib.hid hR
  have H0 := Lib.hid h0
  have HS := Lib.hid hs
  clear hJ hY hQ hR h0
  refine callsIn_of_wp Tryz.func20 rfl trivial ?_ rfl
  simp only [Tryz.ntmps20, List.size_toArray, List.length_cons, List.length_nil, Nat.reduceAdd, Nat.reduceSub, Array.replicate_succ, Array.replicate_zero, List.push_toArray, List.append_toArray, List.nil_append, List.cons_append]
  gi_wp2
  gi_loopw [3, 4] (fun p q wr => ∃ (pre its : List LineIt) (r : ByteArray) (k : Nat), p = .string r ∧ q = .int .i64 (k : Int) ∧ Hid (items = pre ++ its) ∧ Hid (Reads k r.data.toList its) ∧ Hid (J pre wr) ∧ Below n₀ W0 wr ∧ k + r.size ≤ s.size + 1 ∧ 1 ≤ k)
    (fun p _ _ => strLen p)
  case atStart => exact ⟨[], items, s, 1, rfl, rfl, Lib.hid rfl, HR, H0, Below.refl _ _, by omega, Nat.le_refl _⟩
  case round =>
    obtain ⟨pre, its, r, k, rfl, rfl, hits, hrd, hj, hb, hk, hk1⟩ := hrel
    have hcs := cut_le r.data.toList [10]
    have hrs : r.data.toList.length = r.size := size_data r
    have hQr := quick_low HQ.out hq0 hb
    have hC := cutStr r ⟨#[10]⟩ wr (by omega) hQr
    have e10 : (⟨#[10]⟩ : ByteArray).data.toList = [10] := rfl
    rw [e10] at hC
    have hrd' := hrd.out
    by_cases hne : r.data.toList = []
    · have hits0 : its = [] := by
        rw [hne] at hrd'
        cases hrd' with
        | nil => rfl
        | some _ _ _ h => exact absurd rfl h
        | none _ _ _ h => exact absurd rfl h
      have e3 : r.toList = [] := by rw [ByteArray.toList_eq]; exact hne
      clear hC hrd' hcs hne
      gi_wp2
      go_end0
      refine ⟨⟨_, rfl⟩, ?_, hb⟩
      rw [hits.out, hits0, List.append_nil]
      exact hj.out
    · have hless := cut_less _ hne
      have e3 : r.toList.isEmpty = false := by rw [ByteArray.toList_eq]; exact List.isEmpty_eq_false_iff.2 hne
      have hT : ∀ W, Quick W → Calls Tryz.prog 22 #[.string ⟨(Lib.cut r.data.toList [10]).1.toArray⟩, .int .i64 (k : Int)] W (CutPost k (Lib.cut r.data.toList [10]).1 W) := fun W hW =>
        cut_any ⟨(Lib.cut r.data.toList [10]).1.toArray⟩ k W (by rw [ba_size]; omega) hW
      have hrest : ∃ its', Reads (k + 1) (Lib.cut r.data.toList [10]).2.1 its' ∧ ((lineSome (Lib.cut r.data.toList [10]).1 = true ∧ its = ⟨k, lineFields (Lib.cut r.data.toList [10]).1, lineNote (Lib.cut r.data.toList [10]).1⟩ :: its') ∨ (lineSome (Lib.cut r.data.toList [10]).1 = false ∧ its = its')) := by
        clear hC hT hless
        generalize r.data.toList = rl at *
        cases hrd' with
        | nil => exact absurd rfl hne
        | some _ _ its' _ h1 h2 => exact ⟨its', h2, .inl ⟨h1, rfl⟩⟩
        | none _ _ _ _ h1 h2 => exact ⟨_, h2, .inr ⟨h1, rfl⟩⟩
      obtain ⟨its', hrd2, hor⟩ := hrest
      have hrsz : (⟨(Lib.cut r.data.toList [10]).2.1.toArray⟩ : ByteArray).size < r.size := by rw [ba_size]; omega
      have hrl2 : (⟨(Lib.cut r.data.toList [10]).2.1.toArray⟩ : ByteArray).data.toList = (Lib.cut r.data.toList [10]).2.1 := rfl
      rw [← hrl2] at hrd2
      generalize (⟨(Lib.cut r.data.toList [10]).2.1.toArray⟩ : ByteArray) = r2 at *
      generalize (Lib.cut r.data.toList [10]).1 = one at *
      generalize (Lib.cut r.data.toList [10]).2.2 = fl at *
      have HC := Lib.hid hC
      have HT := Lib.hid hT
      have HR2 := Lib.hid hrd2
      clear hC hT hrd' hrd2 hcs hless hrl2 hrd e10 hne
      rcases hor with ⟨hsm, rfl⟩ | ⟨hsm, rfl⟩
      · gi_wp2_with fail
        refine ⟨trivial, ?_⟩
        refine (callsIn_wide.2 HC.out).mono ?_
        rintro e w1 ⟨rfl, hb1⟩
        gi_wp2_with fail
        refine ⟨trivial, ?_⟩
        refine (callsIn_wide.2 (HT.out _ (hQr.below hb1))).mono ?_
        rintro e w2 ⟨a, c, fs, hfs, rfl, hst, hb2, hc⟩
        rw [hsm]
        have hb3 : Below n₀ W0 (w2.alloc (.cells #[.int .i64 (k : Int), .slice a fs.length c, .string ⟨(lineNote one).toArray⟩] 24 (0, 0))) :=
          (hb.trans ((hb1.mono (Nat.le_trans hn₀ hb.size)).trans (hb2.mono (Nat.le_trans hn₀ (Nat.le_trans hb.size hb1.size))))).alloc (Nat.le_trans hn₀ (Nat.le_trans hb.size (Nat.le_trans hb1.size hb2.size))) _
        have hal := (Below.refl w2.heap.size w2).alloc (Nat.le_refl _) (.cells #[.int .i64 (k : Int), .slice a fs.length c, .string ⟨(lineNote one).toArray⟩] 24 (0, 0))
        have hj3 := HJ.out _ _ _ hj.out (hb1.trans ((hb2.mono hb1.size).trans (hal.mono (Nat.le_trans hb1.size hb2.size))))
        obtain ⟨fn, tmps, assign, body, hy, hRd⟩ := HY.out pre ⟨k, lineFields one, lineNote one⟩ a c fs ⟨(lineNote one).toArray⟩ _ hj3 (hst.below hal) hfs rfl hc ⟨its', hits.out⟩ hb3
        dsimp only at hy
        have HJ3 := Lib.hid hj3
        have HB3 := Lib.hid hb3
        clear hj3 hb3 hal hst hb1 hb2
        gi_wp2_with fail
        refine hRd.mono ?_
        rintro e w4 ⟨rfl, hj4, hb4⟩
        have HJ4 := Lib.hid hj4
        have hb5 := HB3.out.trans hb4
        clear hy hRd hj4 hb4
        gi_wp2
        go_roundw
        case rel => exact ⟨pre ++ [⟨k, lineFields one, lineNote one⟩], its', r2, k + 1, rfl, by go_num, Lib.hid (by rw [hits.out, List.append_assoc]; rfl), HR2, HJ4, hb5, by omega, by omega⟩
        case measure => exact hrsz
      · gi_wp2_with fail
        refine ⟨trivial, ?_⟩
        refine (callsIn_wide.2 HC.out).mono ?_
        rintro e w1 ⟨rfl, hb1⟩
        gi_wp2_with fail
        refine ⟨trivial, ?_⟩
        refine (callsIn_wide.2 (HT.out _ (hQr.below hb1))).mono ?_
        rintro e w2 ⟨a, c, fs, hfs, rfl, hst, hb2, hc⟩
        rw [hsm]
        have hb3 : Below n₀ W0 (w2.alloc (.cells #[.int .i64 (k : Int), .slice a fs.length c, .string ⟨(lineNote one).toArray⟩] 24 (0, 0))) :=
          (hb.trans ((hb1.mono (Nat.le_trans hn₀ hb.size)).trans (hb2.mono (Nat.le_trans hn₀ (Nat.le_trans hb.size hb1.size))))).alloc (Nat.le_trans hn₀ (Nat.le_trans hb.size (Nat.le_trans hb1.size hb2.size))) _
        have hal := (Below.refl w2.heap.size w2).alloc (Nat.le_refl _) (.cells #[.int .i64 (k : Int), .slice a fs.length c, .string ⟨(lineNote one).toArray⟩] 24 (0, 0))
        have hj3 := HJ.out _ _ _ hj.out (hb1.trans ((hb2.mono hb1.size).trans (hal.mono (Nat.le_trans hb1.size hb2.size))))
        have HJ3 := Lib.hid hj3
        have HB3 := Lib.hid hb3
        clear hj3 hb3 hal hst hb1 hb2
        gi_wp2_with fail
        refine ⟨fun _ h => (by cases h), ?_⟩
        gi_wp2
        go_roundw
        case rel => exact ⟨pre, _, r2, k + 1, rfl, by go_num, hits, HR2, HJ3, HB3.out, by omega, by omega⟩
        case measure => exact hrsz
end Go.Proofs.YtleadeaahlmmiaaGreatDoor.Lines
