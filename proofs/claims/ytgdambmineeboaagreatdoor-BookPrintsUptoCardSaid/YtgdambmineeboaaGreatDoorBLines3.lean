/- The walk of line.Lines: its iterator, for every loop body that goes on. -/
import Derived.Test.YtgdambmineeboaaGreatDoorCut
import Derived.RangeFuncNested
import Derived.RangeFuncBound
import Derived.RangeFuncCalls
import Derived.RangeFuncLeaves
import Derived.Shelf.Abstract
import Derived.Shelf.RegionOpen
import Derived.WalkKit
import Derived.OwnWalkIn
import Derived.TacticsInMore
import Derived.LoopNIn
import Derived.LoopIn
set_option linter.unusedSimpArgs false
set_option linter.unusedVariables false
namespace Go.Proofs.YtgdambmineeboaaGreatDoor.Lines
open Go.RowKit Go.Lib Go.Shelf Go.Proofs.YtgdambmineeboaaGreatDoor.Text Go.Proofs.YtgdambmineeboaaGreatDoor.Runes Go.Proofs.YtgdambmineeboaaGreatDoor.Print Go.Proofs.YtgdambmineeboaaGreatDoor.RefNine Go.Proofs.YtgdambmineeboaaGreatDoor.RefPrint Go.Proofs.YtgdambmineeboaaGreatDoor.Format Go.Proofs.YtgdambmineeboaaGreatDoor.Tell Go.Proofs.YtgdambmineeboaaGreatDoor.Given Go.Proofs.YtgdambmineeboaaGreatDoor.Split Go.Proofs.YtgdambmineeboaaGreatDoor.Cut
attribute [local go_sem] Oper.semAt_some

/-- A line that is told. -/
structure LineIt where
 num : Nat
 fields : List (List UInt8)
 note : List UInt8

/-- Which lines a text has, the first one's number being given. -/
inductive Reads : Nat → List UInt8 → List LineIt → Prop
 | nil (n : Nat) : Reads n [] []
 | some (n : Nat) (s : List UInt8) (its : List LineIt) : s ≠ [] → lineSome (Lib.cut s [10]).1 = true → Reads (n + 1) (Lib.cut s [10]).2.1 its → Reads n s (⟨n, lineFields (Lib.cut s [10]).1, lineNote (Lib.cut s [10]).1⟩ :: its)
 | none (n : Nat) (s : List UInt8) (its : List LineIt) : s ≠ [] → lineSome (Lib.cut s [10]).1 = false → Reads (n + 1) (Lib.cut s [10]).2.1 its → Reads n s its

theorem cut_less (s : List UInt8) (h : s ≠ []) : (Lib.cut s [10]).2.1.length < s.length := by
 have hp : 0 < s.length := by cases s with | nil => exact absurd rfl h | cons => simp
 unfold Lib.cut
 split
 ·simp only [List.length_drop, List.length_singleton]; omega
 ·exact hp

theorem quick_low {w w' : World} {n : Nat} (h : Quick w) (hn : 2 < n) (hb : Below n w w') : Quick w' :=
 ⟨h.1.elim fun m hm => ⟨m, (hb.cell (p := ⟨2, 0, none⟩) hn).trans hm⟩, Nat.lt_of_lt_of_le h.2 hb.size⟩

set_option maxRecDepth 100000 in
set_option maxHeartbeats 2000000 in
theorem lines1_in (n : Nat) (hn : 1 ≤ n) (l B n₀ : Nat) (s : ByteArray) (items : List LineIt) (W0 : World) (J : List LineIt → World → Prop)
  (hJ : ∀ pre A A', J pre A → Below A.heap.size A A' → J pre A')
  (hY : ∀ pre it a c fs note W1, J pre W1 → Strs W1 a fs → fs.map (·.data.toList) = it.fields → note.data.toList = it.note → fs.length ≤ c → (∃ post, items = pre ++ it :: post) → Below n₀ W0 W1 →
   YieldAt Fence.wide (n - 1) Tryz.prog l #[.agg #[.int .i64 (it.num : Int), .slice a fs.length c, .string note]] W1 fun e W' => e = .returned (.bool true) ∧ J (pre ++ [it]) W' ∧ Below n₀ W1 W')
  (hB : W0.cell? ⟨B, 0, none⟩ = some (.string s)) (hQ : Quick W0) (hq0 : 2 < n₀) (hn₀ : n₀ ≤ W0.heap.size) (hR : Reads 1 s.data.toList items) (hs : s.size ≤ 1073741824) (h0 : J [] W0) :
  CallsIn Fence.wide n Tryz.prog 92 #[.func (.yield l) #[] #[], .pointer (some ⟨B, 0, none⟩)] W0 fun e W' => (∃ v, e = .returned v) ∧ J items W' ∧ Below n₀ W0 W' := by
 have HJ := Lib.hid hJ
 have HY := Lib.hid hY
 have HQ := Lib.hid hQ
 have HR := Lib.hid hR
 have H0 := Lib.hid h0
 have HS := Lib.hid hs
 clear hJ hY hQ hR h0
 refine callsIn_of_wp Tryz.func92 rfl trivial ?_ rfl
 simp only [Tryz.ntmps92, List.size_toArray, List.length_cons, List.length_nil, Nat.reduceAdd, Nat.reduceSub, Array.replicate_succ, Array.replicate_zero, List.push_toArray, List.append_toArray, List.nil_append, List.cons_append]
 gi_wp2
 gi_loopw [3, 4] (fun p q wr => ∃ (pre its : List LineIt) (r : ByteArray) (k : Nat), p = .string r ∧ q = .int .i64 (k : Int) ∧ Hid (items = pre ++ its) ∧ Hid (Reads k r.data.toList its) ∧ Hid (J pre wr) ∧ Below n₀ W0 wr ∧ k + r.size ≤ s.size + 1 ∧ 1 ≤ k)
  (fun p _ _ => strLen p)
 case atStart => exact ⟨[], items, s, 1, rfl, rfl, Lib.hid rfl, HR, H0, Below.refl _ _, by omega, Nat.le_refl _⟩
 case round =>
  obtain ⟨pre, its, r, k, rfl, rfl, hits, hrd, hj, hb, hk, hk1⟩ := hrel
  have hcs := cut_le r.data.toList [10]
  have hrs : r.data.toList.length = r.size := size_data r
  have hQr := quick_low HQ.out hq0 hb
  have hC := cutStr r ⟨#[10]⟩ wr (by omega) hQr
  have e10 : (⟨#[10]⟩ : ByteArray).data.toList = [10] := rfl
  rw [e10] at hC
  have hrd' := hrd.out
  by_cases hne : r.data.toList = []
  ·have hits0 : its = [] := by
    rw [hne] at hrd'
    cases hrd' with
    | nil => rfl
    | some _ _ _ h => exact absurd rfl h
    | none _ _ _ h => exact absurd rfl h
   have e3 : r.toList = [] := by rw [ByteArray.toList_eq]; exact hne
   clear hC hrd' hcs hne
   gi_wp2
   go_end0
   refine ⟨⟨_, rfl⟩, ?_, hb⟩
   rw [hits.out, hits0, List.append_nil]
   exact hj.out
  ·have hless := cut_less _ hne
   have e3 : r.toList.isEmpty = false := by rw [ByteArray.toList_eq]; exact List.isEmpty_eq_false_iff.2 hne
   have hT : ∀ W, Quick W → Calls Tryz.prog 94 #[.string ⟨(Lib.cut r.data.toList [10]).1.toArray⟩, .int .i64 (k : Int)] W (CutPost k (Lib.cut r.data.toList [10]).1 W) := fun W hW =>
    cut_any ⟨(Lib.cut r.data.toList [10]).1.toArray⟩ k W (by rw [ba_size]; omega) hW
   have hrest : ∃ its', Reads (k + 1) (Lib.cut r.data.toList [10]).2.1 its' ∧ ((lineSome (Lib.cut r.data.toList [10]).1 = true ∧ its = ⟨k, lineFields (Lib.cut r.data.toList [10]).1, lineNote (Lib.cut r.data.toList [10]).1⟩ :: its') ∨ (lineSome (Lib.cut r.data.toList [10]).1 = false ∧ its = its')) := by
    clear hC hT hless
    generalize r.data.toList = rl at *
    cases hrd' with
    | nil => exact absurd rfl hne
    | some _ _ its' _ h1 h2 => exact ⟨its', h2, .inl ⟨h1, rfl⟩⟩
    | none _ _ _ _ h1 h2 => exact ⟨_, h2, .inr ⟨h1, rfl⟩⟩
   obtain ⟨its', hrd2, hor⟩ := hrest
   have hrsz : (⟨(Lib.cut r.data.toList [10]).2.1.toArray⟩ : ByteArray).size < r.size := by rw [ba_size]; omega
   have hrl2 : (⟨(Lib.cut r.data.toList [10]).2.1.toArray⟩ : ByteArray).data.toList = (Lib.cut r.data.toList [10]).2.1 := rfl
   rw [← hrl2] at hrd2
   generalize (⟨(Lib.cut r.data.toList [10]).2.1.toArray⟩ : ByteArray) = r2 at *
   generalize (Lib.cut r.data.toList [10]).1 = one at *
   generalize (Lib.cut r.data.toList [10]).2.2 = fl at *
   have HC := Lib.hid hC
   have HT := Lib.hid hT
   have HR2 := Lib.hid hrd2
   clear hC hT hrd' hrd2 hcs hless hrl2 hrd e10 hne
   rcases hor with ⟨hsm, rfl⟩ | ⟨hsm, rfl⟩
   ·gi_wp2_with fail
    refine ⟨trivial, ?_⟩
    refine (callsIn_wide.2 HC.out).mono ?_
    rintro e w1 ⟨rfl, hb1⟩
    gi_wp2_with fail
    refine ⟨trivial, ?_⟩
    refine (callsIn_wide.2 (HT.out _ (hQr.below hb1))).mono ?_
    rintro e w2 ⟨a, c, fs, hfs, rfl, hst, hb2, hc⟩
    rw [hsm]
    have hb3 : Below n₀ W0 (w2.alloc (.cells #[.int .i64 (k : Int), .slice a fs.length c, .string ⟨(lineNote one).toArray⟩] 61 (0, 0))) :=
     (hb.trans ((hb1.mono (Nat.le_trans hn₀ hb.size)).trans (hb2.mono (Nat.le_trans hn₀ (Nat.le_trans hb.size hb1.size))))).alloc (Nat.le_trans hn₀ (Nat.le_trans hb.size (Nat.le_trans hb1.size hb2.size))) _
    have hal := (Below.refl w2.heap.size w2).alloc (Nat.le_refl _) (.cells #[.int .i64 (k : Int), .slice a fs.length c, .string ⟨(lineNote one).toArray⟩] 61 (0, 0))
    have hj3 := HJ.out _ _ _ hj.out (hb1.trans ((hb2.mono hb1.size).trans (hal.mono (Nat.le_trans hb1.size hb2.size))))
    obtain ⟨fn, tmps, assign, body, hy, hRd⟩ := HY.out pre ⟨k, lineFields one, lineNote one⟩ a c fs ⟨(lineNote one).toArray⟩ _ hj3 (hst.below hal) hfs rfl hc ⟨its', hits.out⟩ hb3
    dsimp only at hy
    have HJ3 := Lib.hid hj3
    have HB3 := Lib.hid hb3
    clear hj3 hb3 hal hst hb1 hb2
    gi_wp2_with fail
    refine hRd.mono ?_
    rintro e w4 ⟨rfl, hj4, hb4⟩
    have HJ4 := Lib.hid hj4
    have hb5 := HB3.out.trans hb4
    clear hy hRd hj4 hb4
    gi_wp2
    go_roundw
    case rel => exact ⟨pre ++ [⟨k, lineFields one, lineNote one⟩], its', r2, k + 1, rfl, by go_num, Lib.hid (by rw [hits.out, List.append_assoc]; rfl), HR2, HJ4, hb5, by omega, by omega⟩
    case measure => exact hrsz
   ·gi_wp2_with fail
    refine ⟨trivial, ?_⟩
    refine (callsIn_wide.2 HC.out).mono ?_
    rintro e w1 ⟨rfl, hb1⟩
    gi_wp2_with fail
    refine ⟨trivial, ?_⟩
    refine (callsIn_wide.2 (HT.out _ (hQr.below hb1))).mono ?_
    rintro e w2 ⟨a, c, fs, hfs, rfl, hst, hb2, hc⟩
    rw [hsm]
    have hb3 : Below n₀ W0 (w2.alloc (.cells #[.int .i64 (k : Int), .slice a fs.length c, .string ⟨(lineNote one).toArray⟩] 61 (0, 0))) :=
     (hb.trans ((hb1.mono (Nat.le_trans hn₀ hb.size)).trans (hb2.mono (Nat.le_trans hn₀ (Nat.le_trans hb.size hb1.size))))).alloc (Nat.le_trans hn₀ (Nat.le_trans hb.size (Nat.le_trans hb1.size hb2.size))) _
    have hal := (Below.refl w2.heap.size w2).alloc (Nat.le_refl _) (.cells #[.int .i64 (k : Int), .slice a fs.length c, .string ⟨(lineNote one).toArray⟩] 61 (0, 0))
    have hj3 := HJ.out _ _ _ hj.out (hb1.trans ((hb2.mono hb1.size).trans (hal.mono (Nat.le_trans hb1.size hb2.size))))
    have HJ3 := Lib.hid hj3
    have HB3 := Lib.hid hb3
    clear hj3 hb3 hal hst hb1 hb2
    gi_wp2_with fail
    refine ⟨fun _ h => (by cases h), ?_⟩
    gi_wp2
    go_roundw
    case rel => exact ⟨pre, _, r2, k + 1, rfl, by go_num, hits, HR2, HJ3, HB3.out, by omega, by omega⟩
    case measure => exact hrsz
end Go.Proofs.YtgdambmineeboaaGreatDoor.Lines

/- A loop over the lines of a text whose body always goes on: what the walk of such a statement asks. And line.Lines itself. -/
namespace Go.Proofs.YtgdambmineeboaaGreatDoor.Loop
open Go.RowKit Go.Lib Go.Shelf Go.Proofs.YtgdambmineeboaaGreatDoor.Text Go.Proofs.YtgdambmineeboaaGreatDoor.Runes Go.Proofs.YtgdambmineeboaaGreatDoor.Print Go.Proofs.YtgdambmineeboaaGreatDoor.RefNine Go.Proofs.YtgdambmineeboaaGreatDoor.RefPrint Go.Proofs.YtgdambmineeboaaGreatDoor.Format Go.Proofs.YtgdambmineeboaaGreatDoor.Tell Go.Proofs.YtgdambmineeboaaGreatDoor.Given Go.Proofs.YtgdambmineeboaaGreatDoor.Split Go.Proofs.YtgdambmineeboaaGreatDoor.Cut Go.Proofs.YtgdambmineeboaaGreatDoor.Lines

theorem lines_any (s : ByteArray) (w : World) : Calls Tryz.prog 37 #[.string s] w fun e w' =>
  e = .returned (.func (.func 92) #[] #[.pointer (some ⟨w.heap.size, 0, none⟩)]) ∧ w' = w.alloc (.cells #[.string s] 9) := by
 go_enter Tryz.func37, Tryz.ntmps37
 go_wp2
 go_ret
 exact ⟨rfl, rfl⟩

/-- How a round's body ends: it goes on, the loop's own two blocks as they were. -/
def GoesOn (D n₀ : Nat) (I : List LineIt → World → Prop) (xs : List LineIt) (W : World) : Exit → Act → World → Prop
 | .normal, _, W' => W'.heap[D + 1]? = W.heap[D + 1]? ∧ W'.heap[D]? = W.heap[D]? ∧ Below n₀ W W' ∧ I xs W'
 | _, _, _ => False

def lineCells (it : LineIt) (ad : Option Addr) (k c : Nat) (note : ByteArray) : Array Value := #[.int .i64 (it.num : Int), .slice ad k c, .string note]

end Go.Proofs.YtgdambmineeboaaGreatDoor.Loop

/- The walk of line.Lines, its iterator, for every loop body that goes on for m rounds and stops at the next; and a loop over the lines of a text by such a body. -/
namespace Go.Proofs.YtgdambmineeboaaGreatDoor.Lines2
open Go.RowKit Go.Lib Go.Shelf Go.Proofs.YtgdambmineeboaaGreatDoor.Text Go.Proofs.YtgdambmineeboaaGreatDoor.Runes Go.Proofs.YtgdambmineeboaaGreatDoor.Print Go.Proofs.YtgdambmineeboaaGreatDoor.RefNine Go.Proofs.YtgdambmineeboaaGreatDoor.RefPrint Go.Proofs.YtgdambmineeboaaGreatDoor.Format Go.Proofs.YtgdambmineeboaaGreatDoor.Tell Go.Proofs.YtgdambmineeboaaGreatDoor.Given Go.Proofs.YtgdambmineeboaaGreatDoor.Split Go.Proofs.YtgdambmineeboaaGreatDoor.Cut Go.Proofs.YtgdambmineeboaaGreatDoor.Lines Go.Proofs.YtgdambmineeboaaGreatDoor.Loop
attribute [local go_sem] Oper.semAt_some
set_option maxRecDepth 100000 in
set_option maxHeartbeats 2000000 in
theorem lines1_m (m n : Nat) (hn : 1 ≤ n) (l B n₀ : Nat) (s : ByteArray) (items : List LineIt) (W0 : World) (J : List LineIt → World → Prop)
  (hJ : ∀ pre A A', J pre A → Below A.heap.size A A' → J pre A')
  (hY : ∀ pre it a c fs note W1, pre.length ≤ m → J pre W1 → Strs W1 a fs → fs.map (·.data.toList) = it.fields → note.data.toList = it.note → fs.length ≤ c → (∃ post, items = pre ++ it :: post) → Below n₀ W0 W1 →
   YieldAt Fence.wide (n - 1) Tryz.prog l #[.agg #[.int .i64 (it.num : Int), .slice a fs.length c, .string note]] W1 fun e W' => e = .returned (.bool (decide (pre.length < m))) ∧ J (pre ++ [it]) W' ∧ Below n₀ W1 W')
  (hB : W0.cell? ⟨B, 0, none⟩ = some (.string s)) (hQ : Quick W0) (hq0 : 2 < n₀) (hn₀ : n₀ ≤ W0.heap.size) (hR : Reads 1 s.data.toList items) (hs : s.size ≤ 1073741824) (h0 : J [] W0) :
  CallsIn Fence.wide n Tryz.prog 92 #[.func (.yield l) #[] #[], .pointer (some ⟨B, 0, none⟩)] W0 fun e W' => (∃ v, e = .returned v) ∧ J (items.take (m + 1)) W' ∧ Below n₀ W0 W' := by
 have HJ := Lib.hid hJ
 have HY := Lib.hid hY
 have HQ := Lib.hid hQ
 have HR := Lib.hid hR
 have H0 := Lib.hid h0
 have HS := Lib.hid hs
 clear hJ hY hQ hR h0
 refine callsIn_of_wp Tryz.func92 rfl trivial ?_ rfl
 simp only [Tryz.ntmps92, List.size_toArray, List.length_cons, List.length_nil, Nat.reduceAdd, Nat.reduceSub, Array.replicate_succ, Array.replicate_zero, List.push_toArray, List.append_toArray, List.nil_append, List.cons_append]
 gi_wp2
 gi_loopw [3, 4] (fun p q wr => ∃ (pre its : List LineIt) (r : ByteArray) (k : Nat), p = .string r ∧ q = .int .i64 (k : Int) ∧ Hid (items = pre ++ its) ∧ Hid (Reads k r.data.toList its) ∧ Hid (J pre wr) ∧ pre.length ≤ m ∧ Below n₀ W0 wr ∧ k + r.size ≤ s.size + 1 ∧ 1 ≤ k)
  (fun p _ _ => strLen p)
 case atStart => exact ⟨[], items, s, 1, rfl, rfl, Lib.hid rfl, HR, H0, Nat.zero_le _, Below.refl _ _, by omega, Nat.le_refl _⟩
 case round =>
  obtain ⟨pre, its, r, k, rfl, rfl, hits, hrd, hj, hpm, hb, hk, hk1⟩ := hrel
  have hcs := cut_le r.data.toList [10]
  have hrs : r.data.toList.length = r.size := size_data r
  have hQr := quick_low HQ.out hq0 hb
  have hC := cutStr r ⟨#[10]⟩ wr (by omega) hQr
  have e10 : (⟨#[10]⟩ : ByteArray).data.toList = [10] := rfl
  rw [e10] at hC
  have hrd' := hrd.out
  by_cases hne : r.data.toList = []
  ·have hits0 : its = [] := by
    rw [hne] at hrd'
    cases hrd' with
    | nil => rfl
    | some _ _ _ h => exact absurd rfl h
    | none _ _ _ h => exact absurd rfl h
   have e3 : r.toList = [] := by rw [ByteArray.toList_eq]; exact hne
   clear hC hrd' hcs hne
   gi_wp2
   go_end0
   refine ⟨⟨_, rfl⟩, ?_, hb⟩
   rw [hits.out, hits0, List.append_nil, List.take_of_length_le (by omega)]
   exact hj.out
  ·have hless := cut_less _ hne
   have e3 : r.toList.isEmpty = false := by rw [ByteArray.toList_eq]; exact List.isEmpty_eq_false_iff.2 hne
   have hT : ∀ W, Quick W → Calls Tryz.prog 94 #[.string ⟨(Lib.cut r.data.toList [10]).1.toArray⟩, .int .i64 (k : Int)] W (CutPost k (Lib.cut r.data.toList [10]).1 W) := fun W hW =>
    cut_any ⟨(Lib.cut r.data.toList [10]).1.toArray⟩ k W (by rw [ba_size]; omega) hW
   have hrest : ∃ its', Reads (k + 1) (Lib.cut r.data.toList [10]).2.1 its' ∧ ((lineSome (Lib.cut r.data.toList [10]).1 = true ∧ its = ⟨k, lineFields (Lib.cut r.data.toList [10]).1, lineNote (Lib.cut r.data.toList [10]).1⟩ :: its') ∨ (lineSome (Lib.cut r.data.toList [10]).1 = false ∧ its = its')) := by
    clear hC hT hless
    generalize r.data.toList = rl at *
    cases hrd' with
    | nil => exact absurd rfl hne
    | some _ _ its' _ h1 h2 => exact ⟨its', h2, .inl ⟨h1, rfl⟩⟩
    | none _ _ _ _ h1 h2 => exact ⟨_, h2, .inr ⟨h1, rfl⟩⟩
   obtain ⟨its', hrd2, hor⟩ := hrest
   have hrsz : (⟨(Lib.cut r.data.toList [10]).2.1.toArray⟩ : ByteArray).size < r.size := by rw [ba_size]; omega
   have hrl2 : (⟨(Lib.cut r.data.toList [10]).2.1.toArray⟩ : ByteArray).data.toList = (Lib.cut r.data.toList [10]).2.1 := rfl
   rw [← hrl2] at hrd2
   generalize (⟨(Lib.cut r.data.toList [10]).2.1.toArray⟩ : ByteArray) = r2 at *
   generalize (Lib.cut r.data.toList [10]).1 = one at *
   generalize (Lib.cut r.data.toList [10]).2.2 = fl at *
   have HC := Lib.hid hC
   have HT := Lib.hid hT
   have HR2 := Lib.hid hrd2
   clear hC hT hrd' hrd2 hcs hless hrl2 hrd e10 hne
   rcases hor with ⟨hsm, rfl⟩ | ⟨hsm, rfl⟩
   ·gi_wp2_with fail
    refine ⟨trivial, ?_⟩
    refine (callsIn_wide.2 HC.out).mono ?_
    rintro e w1 ⟨rfl, hb1⟩
    gi_wp2_with fail
    refine ⟨trivial, ?_⟩
    refine (callsIn_wide.2 (HT.out _ (hQr.below hb1))).mono ?_
    rintro e w2 ⟨a, c, fs, hfs, rfl, hst, hb2, hc⟩
    rw [hsm]
    have hb3 : Below n₀ W0 (w2.alloc (.cells #[.int .i64 (k : Int), .slice a fs.length c, .string ⟨(lineNote one).toArray⟩] 61 (0, 0))) :=
     (hb.trans ((hb1.mono (Nat.le_trans hn₀ hb.size)).trans (hb2.mono (Nat.le_trans hn₀ (Nat.le_trans hb.size hb1.size))))).alloc (Nat.le_trans hn₀ (Nat.le_trans hb.size (Nat.le_trans hb1.size hb2.size))) _
    have hal := (Below.refl w2.heap.size w2).alloc (Nat.le_refl _) (.cells #[.int .i64 (k : Int), .slice a fs.length c, .string ⟨(lineNote one).toArray⟩] 61 (0, 0))
    have hj3 := HJ.out _ _ _ hj.out (hb1.trans ((hb2.mono hb1.size).trans (hal.mono (Nat.le_trans hb1.size hb2.size))))
    obtain ⟨fn, tmps, assign, body, hy, hRd⟩ := HY.out pre ⟨k, lineFields one, lineNote one⟩ a c fs ⟨(lineNote one).toArray⟩ _ hpm hj3 (hst.below hal) hfs rfl hc ⟨its', hits.out⟩ hb3
    dsimp only at hy
    have HJ3 := Lib.hid hj3
    have HB3 := Lib.hid hb3
    clear hj3 hb3 hal hst hb1 hb2
    by_cases hm : pre.length < m
    ·rw [decide_eq_true hm] at hRd
     gi_wp2_with fail
     refine hRd.mono ?_
     rintro e w4 ⟨rfl, hj4, hb4⟩
     have HJ4 := Lib.hid hj4
     have hb5 := HB3.out.trans hb4
     clear hy hRd hj4 hb4
     gi_wp2
     go_roundw
     case rel => exact ⟨pre ++ [⟨k, lineFields one, lineNote one⟩], its', r2, k + 1, rfl, by go_num, Lib.hid (by rw [hits.out, List.append_assoc]; rfl), HR2, HJ4, by simp; omega, hb5, by omega, by omega⟩
     case measure => exact hrsz
    ·rw [decide_eq_false hm] at hRd
     gi_wp2_with fail
     refine hRd.mono ?_
     rintro e w4 ⟨rfl, hj4, hb4⟩
     have HJ4 : Hid (J (items.take (m + 1)) w4) := Lib.hid (by
      have e1 : items.take (m + 1) = pre ++ [⟨k, lineFields one, lineNote one⟩] := by
       rw [hits.out, show pre ++ ⟨k, lineFields one, lineNote one⟩ :: its' = (pre ++ [⟨k, lineFields one, lineNote one⟩]) ++ its' from by simp, List.take_left' (by simp; omega)]
      rw [e1]
      exact hj4)
     have hb5 := HB3.out.trans hb4
     clear hy hRd hj4 hb4
     gi_wp2
     exact bodyPost_ret (v := .tuple #[]) (by simp [results, Tryz.results92, go_sem]) rfl ⟨⟨_, rfl⟩, HJ4.out, hb5⟩
   ·gi_wp2_with fail
    refine ⟨trivial, ?_⟩
    refine (callsIn_wide.2 HC.out).mono ?_
    rintro e w1 ⟨rfl, hb1⟩
    gi_wp2_with fail
    refine ⟨trivial, ?_⟩
    refine (callsIn_wide.2 (HT.out _ (hQr.below hb1))).mono ?_
    rintro e w2 ⟨a, c, fs, hfs, rfl, hst, hb2, hc⟩
    rw [hsm]
    have hb3 : Below n₀ W0 (w2.alloc (.cells #[.int .i64 (k : Int), .slice a fs.length c, .string ⟨(lineNote one).toArray⟩] 61 (0, 0))) :=
     (hb.trans ((hb1.mono (Nat.le_trans hn₀ hb.size)).trans (hb2.mono (Nat.le_trans hn₀ (Nat.le_trans hb.size hb1.size))))).alloc (Nat.le_trans hn₀ (Nat.le_trans hb.size (Nat.le_trans hb1.size hb2.size))) _
    have hal := (Below.refl w2.heap.size w2).alloc (Nat.le_refl _) (.cells #[.int .i64 (k : Int), .slice a fs.length c, .string ⟨(lineNote one).toArray⟩] 61 (0, 0))
    have hj3 := HJ.out _ _ _ hj.out (hb1.trans ((hb2.mono hb1.size).trans (hal.mono (Nat.le_trans hb1.size hb2.size))))
    have HJ3 := Lib.hid hj3
    have HB3 := Lib.hid hb3
    clear hj3 hb3 hal hst hb1 hb2
    gi_wp2_with fail
    refine ⟨fun _ h => (by cases h), ?_⟩
    gi_wp2
    go_roundw
    case rel => exact ⟨pre, _, r2, k + 1, rfl, by go_num, hits, HR2, HJ3, hpm, HB3.out, by omega, by omega⟩
    case measure => exact hrsz
/-- How a round's body ends: up to m rounds it goes on, the next one returns; the loop's own two blocks as they were. -/
def Rounds (D n₀ m : Nat) (I : List LineIt → World → Prop) (xs : List LineIt) (W : World) : Exit → Act → World → Prop
 | .normal, _, W' => xs.length ≤ m ∧ W'.heap[D + 1]? = W.heap[D + 1]? ∧ W'.heap[D]? = W.heap[D]? ∧ Below n₀ W W' ∧ I xs W'
 | .ret, _, W' => xs.length = m + 1 ∧ W'.heap[D + 1]? = W.heap[D + 1]? ∧ W'.heap[D]? = W.heap[D]? ∧ Below n₀ W W' ∧ I xs W'
 | _, _, _ => False
theorem grown_any {w w' : World} {row : Option Nat} (h : Below w.heap.size w w') : w.grownBy w' row := ⟨h.os, h.tape, h.output, h.size, fun k hk _ => h.block k hk⟩
theorem range_m {g : Operand} {ps : Array Tmp} {assign body : Code} {Q : Exit → Act → World → Prop} {a : Act} {w : World} (m n : Nat) (hn : 3 ≤ n) (B n₀ : Nat) (s : ByteArray) (items : List LineIt)
  (hg : a.eval g = .func (.func 92) #[] #[.pointer (some ⟨B, 0, none⟩)]) (hB : w.cell? ⟨B, 0, none⟩ = some (.string s)) (hBl : B < w.heap.size) (hQ : Quick w) (hq0 : 2 < n₀)
  (hn₀ : n₀ ≤ w.heap.size) (hR : Reads 1 s.data.toList items) (hs : s.size ≤ 1073741824) (hps : ps.size = 1)
  (I : List LineIt → World → Prop) (hI : ∀ pre A A', I pre A → A.grownBy A' (some (w.heap.size + 1)) → I pre A') (h0 : I [] w) (pv py : Nat)
  (hassign : ∀ it ad k c note W K, K { tmps := (a.tmps.setIfInBounds pv (.agg (lineCells it ad k c note))).setIfInBounds py (.pointer (some ⟨W.heap.size, 0, none⟩)), defers := [] } (W.alloc (.cells (lineCells it ad k c note) 61 (0, 0))) →
   assign.wpIn (Fence.wide.inRound (w.heap.size + 1)) (n - 1 - 1) Tryz.prog (Exit.then K (fun _ _ _ => False)) { tmps := (ps.zip #[.agg (lineCells it ad k c note)]).foldl (fun t (p, v) => t.setIfInBounds p v) a.tmps, defers := [] } W)
  (hbody : ∀ pre it ad c fs note yb W, pre.length ≤ m → I pre W → Strs W ad fs → fs.map (·.data.toList) = it.fields → note.data.toList = it.note → fs.length ≤ c → (∃ post, items = pre ++ it :: post) →
   W.heap[yb]? = some (.cells (lineCells it ad fs.length c note) 61 (0, 0)) → w.heap.size + 2 ≤ yb → Below n₀ w W →
   body.wpIn (Fence.wide.inRound (w.heap.size + 1)) (n - 1 - 1) Tryz.prog (Rounds w.heap.size n₀ m I (pre ++ [it]) W) { tmps := (a.tmps.setIfInBounds pv (.agg (lineCells it ad fs.length c note))).setIfInBounds py (.pointer (some ⟨yb, 0, none⟩)), defers := [] } W)
  (hdone : ∀ W, items.length ≤ m → I items W → W.heap[w.heap.size]? = some (.deferred (some [])) → Below n₀ w W → Q .normal { a with defers := { target := .collected w.heap.size, args := #[] } :: a.defers } W)
  (hstop : ∀ W, m < items.length → I (items.take (m + 1)) W → W.heap[w.heap.size]? = some (.deferred (some [])) → Below n₀ w W → Q .ret { a with defers := { target := .collected w.heap.size, args := #[] } :: a.defers } W) :
  (Code.rangeFunc g ps assign body).wpIn Fence.wide n Tryz.prog Q a w := by
 refine wpIn_rangeFunc ?_
 intro fn hfn
 obtain ⟨rec, hrec⟩ : ∃ rec : LoopState → Option Code → Go.Loop, rec = fun st pe => { state := st, pending := pe, fn, tmps := a.tmps, params := ps, assign, body, defers := w.heap.size } := ⟨_, rfl⟩
 obtain ⟨W1, hW1⟩ : ∃ W1, (w.alloc (.deferred (some []))).alloc (.loop (rec .ready none)) = W1 := ⟨_, rfl⟩
 have hL1 : W1.heap[w.heap.size + 1]? = some (.loop (rec .ready none)) := by
  rw [← hW1]; have := World.alloc_heap_new (w.alloc (.deferred (some []))) (.loop (rec .ready none)); rwa [World.size_alloc] at this
 have hK1 : W1.heap[w.heap.size]? = some (.deferred (some [])) := by
  rw [← hW1]; exact (Below.heap_alloc _ _ _ (by simp)).trans (World.alloc_heap_new w _)
 have hb1 : Below w.heap.size w W1 := by
  rw [← hW1]; exact ((Below.refl _ w).alloc (Nat.le_refl _) _).alloc (by simp) _
 refine ⟨w.heap.size + 1, [{ target := .collected w.heap.size, args := #[] }], W1, { target := .fn (.func 92) #[.pointer (some ⟨B, 0, none⟩)], args := #[.func (.yield (w.heap.size + 1)) #[] #[]] }, W1, 92,
  #[.func (.yield (w.heap.size + 1)) #[] #[], .pointer (some ⟨B, 0, none⟩)], W1, ?_, ?_, fun _ _ => trivial, ?_, fun _ => by omega, ?_⟩
 ·rw [← hW1, hrec]; exact run_enterLoop_outer _ _ _ _ _
 ·simp only [resolve, hg]
  simp [go_sem]
 ·simp [invoke, go_sem]
 ·refine (lines1_m m (n - 1) (by omega) (w.heap.size + 1) B n₀ s items W1
   (fun pre W => I pre W ∧ W.heap[w.heap.size + 1]? = some (.loop (if pre.length ≤ m then rec .ready none else rec .done (some .ret))) ∧ W.heap[w.heap.size]? = some (.deferred (some [])))
   ?_ ?_ ((hb1.cell (p := ⟨B, 0, none⟩) hBl).trans hB) (hQ.below hb1) hq0 (Nat.le_trans hn₀ hb1.size) hR hs ⟨hI _ _ _ h0 (grown_any hb1), by rw [if_pos (show ([] : List LineIt).length ≤ m from Nat.zero_le _)]; exact hL1, hK1⟩).mono ?_
  ·rintro pre A A' ⟨hi, hl, hk⟩ hbA
   have hlA := (Array.getElem?_eq_some_iff.1 hl).1
   exact ⟨hI _ _ _ hi (grown_any hbA), (hbA.block _ hlA).trans hl, (hbA.block _ (by omega)).trans hk⟩
  ·rintro pre it ad c fs note W hpm ⟨hi, hl, hk⟩ hst hfs hnote hc hpost hbW
   rw [if_pos hpm] at hl
   have hlt : w.heap.size + 1 < W.heap.size := (Array.getElem?_eq_some_iff.1 hl).1
   have hy := run_yield (P := Tryz.prog) (args := #[.agg (lineCells it ad fs.length c note)]) hl (by rw [hrec]; exact hps.symm)
   rw [hrec] at hy
   have hal : Below W.heap.size W (W.alloc (.cells (lineCells it ad fs.length c note) 61 (0, 0))) := (Below.refl _ W).alloc (Nat.le_refl _) _
   have hl' := (hal.block _ hlt).trans hl
   have hk' := (hal.block _ (by omega)).trans hk
   have hbusy := run_beginRound (P := Tryz.prog) hl' (by rw [hrec])
   refine ⟨fn, _, assign, body, hy, roundIn_of_wpIn trivial (hassign it ad fs.length c note W _ ⟨_, hbusy, ?_⟩)⟩
   obtain ⟨Wb, hWb⟩ : ∃ Wb, (W.alloc (.cells (lineCells it ad fs.length c note) 61 (0, 0))).putObj (w.heap.size + 1) (.loop { rec .ready none with state := .busy }) = Wb := ⟨_, rfl⟩
   have hszA : (W.alloc (.cells (lineCells it ad fs.length c note) 61 (0, 0))).heap.size = W.heap.size + 1 := by simp
   have hlb : Wb.heap[w.heap.size + 1]? = some (.loop { rec .ready none with state := .busy }) := by rw [← hWb]; exact World.putObj_heap_same (by omega)
   have hoth : ∀ k, k ≠ w.heap.size + 1 → Wb.heap[k]? = (W.alloc (.cells (lineCells it ad fs.length c note) 61 (0, 0))).heap[k]? := fun k hk => by rw [← hWb]; exact World.putObj_heap_other (by omega)
   have hgr : (W.alloc (.cells (lineCells it ad fs.length c note) 61 (0, 0))).grownBy Wb (some (w.heap.size + 1)) := by rw [← hWb]; exact grownBy_putObj' _ _ _
   have hput : Below w.heap.size (W.alloc (.cells (lineCells it ad fs.length c note) 61 (0, 0))) Wb :=
    (Below.refl _ _).grown hgr (by omega) (fun k e => by cases e; omega)
   have hstb : Strs Wb ad fs := by
    rcases hst with h | ⟨bk, o, h1, h2, h3⟩
    ·exact .inl h
    ·by_cases hz : fs = []
     ·exact .inl hz
     ·refine .inr ⟨bk, o, h1, ?_, ?_⟩
      ·have := hput.size; omega
      ·intro j x hx
       have hne : bk ≠ w.heap.size + 1 := by
        rintro rfl
        have hx0 : ∃ x0, fs[0]? = some x0 := by cases fs with | nil => exact absurd rfl hz | cons y r => exact ⟨y, rfl⟩
        obtain ⟨x0, hx0⟩ := hx0
        have := h3 0 x0 hx0
        unfold World.cell? at this
        rw [hl] at this
        cases this
       exact ((World.cell?_of_block (a := ⟨bk, o + j, none⟩) (hoth bk hne)).trans (hal.cell (p := ⟨bk, o + j, none⟩) h2)).trans (h3 j x hx)
   have hbWb : Below n₀ w Wb := (((hb1.mono hn₀).trans hbW).trans (hal.mono (Nat.le_trans hn₀ (by omega)))).trans (hput.mono hn₀)
   have hbd := hbody pre it ad c fs note W.heap.size Wb hpm (hI _ _ _ (hI _ _ _ hi (grown_any hal)) hgr) hstb hfs hnote hc hpost ((hoth _ (by omega)).trans (heap_alloc_new _ _)) (by omega) hbWb
   rw [hWb]
   have fin : ∀ (jump : Option Code) (W3 : World), W3.heap[w.heap.size + 1]? = Wb.heap[w.heap.size + 1]? → W3.heap[w.heap.size]? = Wb.heap[w.heap.size]? → Below n₀ Wb W3 → I (pre ++ [it]) W3 →
     ∃ W4, (Instr.endRound (w.heap.size + 1) jump).run Tryz.prog W3 = .ok (.bool jump.isNone) W4 ∧ I (pre ++ [it]) W4 ∧ W4.heap[w.heap.size + 1]? = some (.loop (rec (if jump.isNone then .ready else .done) jump)) ∧ W4.heap[w.heap.size]? = some (.deferred (some [])) ∧ Below n₀ W W4 := fun jump W3 g1 g2 g3 g4 => by
    have hl3 := g1.trans hlb
    have hk3 := g2.trans ((hoth _ (by omega)).trans hk')
    have hr := run_endRound (P := Tryz.prog) jump hl3
    have hgr3 : W3.grownBy (W3.putObj (w.heap.size + 1) (.loop (rec (if jump.isNone then .ready else .done) jump))) (some (w.heap.size + 1)) := grownBy_putObj' _ _ _
    have hput3 : Below w.heap.size W3 (W3.putObj (w.heap.size + 1) (.loop (rec (if jump.isNone then .ready else .done) jump))) :=
     (Below.refl _ _).grown hgr3 (by have := (Array.getElem?_eq_some_iff.1 hl3).1; omega) (fun k e => by cases e; omega)
    have h5 : Below n₀ W Wb := (hal.mono (Nat.le_trans hn₀ (by omega))).trans (hput.mono hn₀)
    rw [hrec] at hr
    refine ⟨W3.putObj (w.heap.size + 1) (.loop (rec (if jump.isNone then .ready else .done) jump)), by rw [hrec]; exact hr, hI _ _ _ g4 hgr3, World.putObj_heap_same (Array.getElem?_eq_some_iff.1 hl3).1, (World.putObj_heap_other (by omega)).trans hk3, (h5.trans g3).trans (hput3.mono hn₀)⟩
   refine wpIn_mono hbd ?_
   rintro e a3 W3 hp
   cases e with
   | normal =>
    obtain ⟨g0, g1, g2, g3, g4⟩ := hp
    have g0' : pre.length < m := by simp at g0; omega
    obtain ⟨W4, r1, r2, r3, r4, r5⟩ := fin none W3 g1 g2 g3 g4
    refine ⟨_, W4, r1, by rw [decide_eq_true g0']; rfl, ⟨r2, by rw [if_pos g0]; exact r3, r4⟩, r5⟩
   | ret =>
    obtain ⟨g0, g1, g2, g3, g4⟩ := hp
    have g0' : ¬ pre.length < m := by simp at g0; omega
    obtain ⟨W4, r1, r2, r3, r4, r5⟩ := fin (some .ret) W3 g1 g2 g3 g4
    refine ⟨_, W4, r1, by rw [decide_eq_false g0']; rfl, ⟨r2, by rw [if_neg (by omega)]; exact r3, r4⟩, r5⟩
   | exit id => exact hp.elim
   | goto t => exact hp.elim
   | panic ch => exact hp.elim
   | outgrown => exact hp.elim
  ·rintro e W2 ⟨⟨v, rfl⟩, ⟨hi, hl, hk⟩, hb2⟩
   have hput2 : ∀ o, W2.grownBy (W2.putObj (w.heap.size + 1) o) (some (w.heap.size + 1)) := fun o => grownBy_putObj' _ _ _
   have hput3 : ∀ o, Below w.heap.size W2 (W2.putObj (w.heap.size + 1) o) := fun o =>
    (Below.refl _ _).grown (hput2 o) (by have := (Array.getElem?_eq_some_iff.1 hl).1; omega) (fun k e => by cases e; omega)
   by_cases hm : items.length ≤ m
   ·rw [List.take_of_length_le (by omega)] at hi hl
    rw [if_pos hm] at hl
    have hend := run_endLoop (P := Tryz.prog) hl (by rw [hrec]; simp)
    have hpend : (rec .ready none).pending = none := by rw [hrec]
    rw [hpend] at hend
    exact ⟨none, _, hend, hdone _ hm (hI _ _ _ hi (hput2 _)) ((World.putObj_heap_other (by omega)).trans hk) (((hb1.mono hn₀).trans hb2).trans ((hput3 _).mono hn₀))⟩
   ·rw [if_neg (by rw [List.length_take]; omega)] at hl
    have hend := run_endLoop (P := Tryz.prog) hl (by rw [hrec]; simp)
    have hpend : (rec .done (some .ret)).pending = some .ret := by rw [hrec]
    rw [hpend] at hend
    exact ⟨some .ret, _, hend, wpIn_ret (hstop _ (by omega) (hI _ _ _ hi (hput2 _)) ((World.putObj_heap_other (by omega)).trans hk) (((hb1.mono hn₀).trans hb2).trans ((hput3 _).mono hn₀)))⟩
end Go.Proofs.YtgdambmineeboaaGreatDoor.Lines2

/- A loop over the lines of a text that names no line. -/
namespace Go.Proofs.YtgdambmineeboaaGreatDoor.Lines3
open Go.RowKit Go.Lib Go.Shelf Go.Proofs.YtgdambmineeboaaGreatDoor.Text Go.Proofs.YtgdambmineeboaaGreatDoor.Runes Go.Proofs.YtgdambmineeboaaGreatDoor.Print Go.Proofs.YtgdambmineeboaaGreatDoor.RefNine Go.Proofs.YtgdambmineeboaaGreatDoor.RefPrint Go.Proofs.YtgdambmineeboaaGreatDoor.Format Go.Proofs.YtgdambmineeboaaGreatDoor.Tell Go.Proofs.YtgdambmineeboaaGreatDoor.Given Go.Proofs.YtgdambmineeboaaGreatDoor.Split Go.Proofs.YtgdambmineeboaaGreatDoor.Cut Go.Proofs.YtgdambmineeboaaGreatDoor.Lines Go.Proofs.YtgdambmineeboaaGreatDoor.Loop Go.Proofs.YtgdambmineeboaaGreatDoor.Lines2
theorem range_m0 {g : Operand} {ps : Array Tmp} {assign body : Code} {Q : Exit → Act → World → Prop} {a : Act} {w : World} (m n : Nat) (hn : 3 ≤ n) (B n₀ : Nat) (s : ByteArray) (items : List LineIt)
  (hg : a.eval g = .func (.func 92) #[] #[.pointer (some ⟨B, 0, none⟩)]) (hB : w.cell? ⟨B, 0, none⟩ = some (.string s)) (hBl : B < w.heap.size) (hQ : Quick w) (hq0 : 2 < n₀)
  (hn₀ : n₀ ≤ w.heap.size) (hR : Reads 1 s.data.toList items) (hs : s.size ≤ 1073741824) (hps : ps.size = 1) (has : assign = .skip)
  (I : List LineIt → World → Prop) (hI : ∀ pre A A', I pre A → A.grownBy A' (some (w.heap.size + 1)) → I pre A') (h0 : I [] w) 
  (hbody : ∀ pre it ad c fs note W, pre.length ≤ m → I pre W → Strs W ad fs → fs.map (·.data.toList) = it.fields → note.data.toList = it.note → fs.length ≤ c → (∃ post, items = pre ++ it :: post) →
   w.heap.size + 2 ≤ W.heap.size → Below n₀ w W →
   body.wpIn (Fence.wide.inRound (w.heap.size + 1)) (n - 1 - 1) Tryz.prog (Rounds w.heap.size n₀ m I (pre ++ [it]) W) { tmps := (ps.zip #[.agg (lineCells it ad fs.length c note)]).foldl (fun t (p, v) => t.setIfInBounds p v) a.tmps, defers := [] } W)
  (hdone : ∀ W, items.length ≤ m → I items W → W.heap[w.heap.size]? = some (.deferred (some [])) → Below n₀ w W → Q .normal { a with defers := { target := .collected w.heap.size, args := #[] } :: a.defers } W)
  (hstop : ∀ W, m < items.length → I (items.take (m + 1)) W → W.heap[w.heap.size]? = some (.deferred (some [])) → Below n₀ w W → Q .ret { a with defers := { target := .collected w.heap.size, args := #[] } :: a.defers } W) :
  (Code.rangeFunc g ps assign body).wpIn Fence.wide n Tryz.prog Q a w := by
 refine wpIn_rangeFunc ?_
 intro fn hfn
 obtain ⟨rec, hrec⟩ : ∃ rec : LoopState → Option Code → Go.Loop, rec = fun st pe => { state := st, pending := pe, fn, tmps := a.tmps, params := ps, assign, body, defers := w.heap.size } := ⟨_, rfl⟩
 obtain ⟨W1, hW1⟩ : ∃ W1, (w.alloc (.deferred (some []))).alloc (.loop (rec .ready none)) = W1 := ⟨_, rfl⟩
 have hL1 : W1.heap[w.heap.size + 1]? = some (.loop (rec .ready none)) := by
  rw [← hW1]; have := World.alloc_heap_new (w.alloc (.deferred (some []))) (.loop (rec .ready none)); rwa [World.size_alloc] at this
 have hK1 : W1.heap[w.heap.size]? = some (.deferred (some [])) := by
  rw [← hW1]; exact (Below.heap_alloc _ _ _ (by simp)).trans (World.alloc_heap_new w _)
 have hb1 : Below w.heap.size w W1 := by
  rw [← hW1]; exact ((Below.refl _ w).alloc (Nat.le_refl _) _).alloc (by simp) _
 refine ⟨w.heap.size + 1, [{ target := .collected w.heap.size, args := #[] }], W1, { target := .fn (.func 92) #[.pointer (some ⟨B, 0, none⟩)], args := #[.func (.yield (w.heap.size + 1)) #[] #[]] }, W1, 92,
  #[.func (.yield (w.heap.size + 1)) #[] #[], .pointer (some ⟨B, 0, none⟩)], W1, ?_, ?_, fun _ _ => trivial, ?_, fun _ => by omega, ?_⟩
 ·rw [← hW1, hrec]; exact run_enterLoop_outer _ _ _ _ _
 ·simp only [resolve, hg]
  simp [go_sem]
 ·simp [invoke, go_sem]
 ·refine (lines1_m m (n - 1) (by omega) (w.heap.size + 1) B n₀ s items W1
   (fun pre W => I pre W ∧ W.heap[w.heap.size + 1]? = some (.loop (if pre.length ≤ m then rec .ready none else rec .done (some .ret))) ∧ W.heap[w.heap.size]? = some (.deferred (some [])))
   ?_ ?_ ((hb1.cell (p := ⟨B, 0, none⟩) hBl).trans hB) (hQ.below hb1) hq0 (Nat.le_trans hn₀ hb1.size) hR hs ⟨hI _ _ _ h0 (grown_any hb1), by rw [if_pos (show ([] : List LineIt).length ≤ m from Nat.zero_le _)]; exact hL1, hK1⟩).mono ?_
  ·rintro pre A A' ⟨hi, hl, hk⟩ hbA
   have hlA := (Array.getElem?_eq_some_iff.1 hl).1
   exact ⟨hI _ _ _ hi (grown_any hbA), (hbA.block _ hlA).trans hl, (hbA.block _ (by omega)).trans hk⟩
  ·rintro pre it ad c fs note W hpm ⟨hi, hl, hk⟩ hst hfs hnote hc hpost hbW
   rw [if_pos hpm] at hl
   have hlt : w.heap.size + 1 < W.heap.size := (Array.getElem?_eq_some_iff.1 hl).1
   have hy := run_yield (P := Tryz.prog) (args := #[.agg (lineCells it ad fs.length c note)]) hl (by rw [hrec]; exact hps.symm)
   rw [hrec] at hy
   have hal : Below W.heap.size W W := Below.refl _ W
   have hk' := hk
   have hbusy := run_beginRound (P := Tryz.prog) hl (by rw [hrec])
   refine ⟨fn, _, assign, body, hy, roundIn_of_wpIn trivial ?_⟩
   rw [has]
   refine wpIn_skip ⟨_, hbusy, ?_⟩
   obtain ⟨Wb, hWb⟩ : ∃ Wb, W.putObj (w.heap.size + 1) (.loop { rec .ready none with state := .busy }) = Wb := ⟨_, rfl⟩
   have hlb : Wb.heap[w.heap.size + 1]? = some (.loop { rec .ready none with state := .busy }) := by rw [← hWb]; exact World.putObj_heap_same (by omega)
   have hoth : ∀ k, k ≠ w.heap.size + 1 → Wb.heap[k]? = W.heap[k]? := fun k hk => by rw [← hWb]; exact World.putObj_heap_other (by omega)
   have hgr : W.grownBy Wb (some (w.heap.size + 1)) := by rw [← hWb]; exact grownBy_putObj' _ _ _
   have hput : Below w.heap.size W Wb :=
    (Below.refl _ _).grown hgr (by omega) (fun k e => by cases e; omega)
   have hstb : Strs Wb ad fs := by
    rcases hst with h | ⟨bk, o, h1, h2, h3⟩
    ·exact .inl h
    ·by_cases hz : fs = []
     ·exact .inl hz
     ·refine .inr ⟨bk, o, h1, ?_, ?_⟩
      ·have := hput.size; omega
      ·intro j x hx
       have hne : bk ≠ w.heap.size + 1 := by
        rintro rfl
        have hx0 : ∃ x0, fs[0]? = some x0 := by cases fs with | nil => exact absurd rfl hz | cons y r => exact ⟨y, rfl⟩
        obtain ⟨x0, hx0⟩ := hx0
        have := h3 0 x0 hx0
        unfold World.cell? at this
        rw [hl] at this
        cases this
       exact ((World.cell?_of_block (a := ⟨bk, o + j, none⟩) (hoth bk hne)).trans (hal.cell (p := ⟨bk, o + j, none⟩) h2)).trans (h3 j x hx)
   have hbWb : Below n₀ w Wb := (((hb1.mono hn₀).trans hbW).trans (hal.mono (Nat.le_trans hn₀ (by omega)))).trans (hput.mono hn₀)
   have hbd := hbody pre it ad c fs note Wb hpm (hI _ _ _ (hI _ _ _ hi (grown_any hal)) hgr) hstb hfs hnote hc hpost (by have := hput.size; omega) hbWb
   rw [hWb]
   have fin : ∀ (jump : Option Code) (W3 : World), W3.heap[w.heap.size + 1]? = Wb.heap[w.heap.size + 1]? → W3.heap[w.heap.size]? = Wb.heap[w.heap.size]? → Below n₀ Wb W3 → I (pre ++ [it]) W3 →
     ∃ W4, (Instr.endRound (w.heap.size + 1) jump).run Tryz.prog W3 = .ok (.bool jump.isNone) W4 ∧ I (pre ++ [it]) W4 ∧ W4.heap[w.heap.size + 1]? = some (.loop (rec (if jump.isNone then .ready else .done) jump)) ∧ W4.heap[w.heap.size]? = some (.deferred (some [])) ∧ Below n₀ W W4 := fun jump W3 g1 g2 g3 g4 => by
    have hl3 := g1.trans hlb
    have hk3 := g2.trans ((hoth _ (by omega)).trans hk')
    have hr := run_endRound (P := Tryz.prog) jump hl3
    have hgr3 : W3.grownBy (W3.putObj (w.heap.size + 1) (.loop (rec (if jump.isNone then .ready else .done) jump))) (some (w.heap.size + 1)) := grownBy_putObj' _ _ _
    have hput3 : Below w.heap.size W3 (W3.putObj (w.heap.size + 1) (.loop (rec (if jump.isNone then .ready else .done) jump))) :=
     (Below.refl _ _).grown hgr3 (by have := (Array.getElem?_eq_some_iff.1 hl3).1; omega) (fun k e => by cases e; omega)
    have h5 : Below n₀ W Wb := (hal.mono (Nat.le_trans hn₀ (by omega))).trans (hput.mono hn₀)
    rw [hrec] at hr
    refine ⟨W3.putObj (w.heap.size + 1) (.loop (rec (if jump.isNone then .ready else .done) jump)), by rw [hrec]; exact hr, hI _ _ _ g4 hgr3, World.putObj_heap_same (Array.getElem?_eq_some_iff.1 hl3).1, (World.putObj_heap_other (by omega)).trans hk3, (h5.trans g3).trans (hput3.mono hn₀)⟩
   refine wpIn_mono hbd ?_
   rintro e a3 W3 hp
   cases e with
   | normal =>
    obtain ⟨g0, g1, g2, g3, g4⟩ := hp
    have g0' : pre.length < m := by simp at g0; omega
    obtain ⟨W4, r1, r2, r3, r4, r5⟩ := fin none W3 g1 g2 g3 g4
    refine ⟨_, W4, r1, by rw [decide_eq_true g0']; rfl, ⟨r2, by rw [if_pos g0]; exact r3, r4⟩, r5⟩
   | ret =>
    obtain ⟨g0, g1, g2, g3, g4⟩ := hp
    have g0' : ¬ pre.length < m := by simp at g0; omega
    obtain ⟨W4, r1, r2, r3, r4, r5⟩ := fin (some .ret) W3 g1 g2 g3 g4
    refine ⟨_, W4, r1, by rw [decide_eq_false g0']; rfl, ⟨r2, by rw [if_neg (by omega)]; exact r3, r4⟩, r5⟩
   | exit id => exact hp.elim
   | goto t => exact hp.elim
   | panic ch => exact hp.elim
   | outgrown => exact hp.elim
  ·rintro e W2 ⟨⟨v, rfl⟩, ⟨hi, hl, hk⟩, hb2⟩
   have hput2 : ∀ o, W2.grownBy (W2.putObj (w.heap.size + 1) o) (some (w.heap.size + 1)) := fun o => grownBy_putObj' _ _ _
   have hput3 : ∀ o, Below w.heap.size W2 (W2.putObj (w.heap.size + 1) o) := fun o =>
    (Below.refl _ _).grown (hput2 o) (by have := (Array.getElem?_eq_some_iff.1 hl).1; omega) (fun k e => by cases e; omega)
   by_cases hm : items.length ≤ m
   ·rw [List.take_of_length_le (by omega)] at hi hl
    rw [if_pos hm] at hl
    have hend := run_endLoop (P := Tryz.prog) hl (by rw [hrec]; simp)
    have hpend : (rec .ready none).pending = none := by rw [hrec]
    rw [hpend] at hend
    exact ⟨none, _, hend, hdone _ hm (hI _ _ _ hi (hput2 _)) ((World.putObj_heap_other (by omega)).trans hk) (((hb1.mono hn₀).trans hb2).trans ((hput3 _).mono hn₀))⟩
   ·rw [if_neg (by rw [List.length_take]; omega)] at hl
    have hend := run_endLoop (P := Tryz.prog) hl (by rw [hrec]; simp)
    have hpend : (rec .done (some .ret)).pending = some .ret := by rw [hrec]
    rw [hpend] at hend
    exact ⟨some .ret, _, hend, wpIn_ret (hstop _ (by omega) (hI _ _ _ hi (hput2 _)) ((World.putObj_heap_other (by omega)).trans hk) (((hb1.mono hn₀).trans hb2).trans ((hput3 _).mono hn₀)))⟩
end Go.Proofs.YtgdambmineeboaaGreatDoor.Lines3
