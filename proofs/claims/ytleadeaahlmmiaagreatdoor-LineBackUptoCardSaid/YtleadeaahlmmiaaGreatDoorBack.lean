/- The walk of the statement LineBack itself. -/
import Derived.Test.YtleadeaahlmmiaaGreatDoorLoop
import Derived.Test.YtleadeaahlmmiaaGreatDoorSame
import Derived.Test.YtleadeaahlmmiaaGreatDoorSeq
namespace Go.Proofs.YtleadeaahlmmiaaGreatDoor.Back
open Go.RowKit Go.Lib Go.Shelf Go.Proofs.YtleadeaahlmmiaaGreatDoor.Text Go.Proofs.YtleadeaahlmmiaaGreatDoor.Runes Go.Proofs.YtleadeaahlmmiaaGreatDoor.Print Go.Proofs.YtleadeaahlmmiaaGreatDoor.RefNine Go.Proofs.YtleadeaahlmmiaaGreatDoor.RefPrint Go.Proofs.YtleadeaahlmmiaaGreatDoor.Format Go.Proofs.YtleadeaahlmmiaaGreatDoor.Tell Go.Proofs.YtleadeaahlmmiaaGreatDoor.Given Go.Proofs.YtleadeaahlmmiaaGreatDoor.Point Go.Proofs.YtleadeaahlmmiaaGreatDoor.Split Go.Proofs.YtleadeaahlmmiaaGreatDoor.Cut Go.Proofs.YtleadeaahlmmiaaGreatDoor.Lines Go.Proofs.YtleadeaahlmmiaaGreatDoor.Loop Go.Proofs.YtleadeaahlmmiaaGreatDoor.Same Go.Proofs.YtleadeaahlmmiaaGreatDoor.Seq
attribute [local go_sem] Oper.semAt_some

/-- The statement's own two boxes. -/
structure Box (w : World) (v0 v1 v2 : Value) (W : World) : Prop where
  b : Below w.heap.size w W
  x : W.heap[w.heap.size]? = some (.cells #[v0, v1, v2] 24 (0, 0))
  r : W.heap[w.heap.size + 1]? = some (.cells #[.bool false] 4 (0, 0))
theorem Box.next {w W W' : World} {v0 v1 v2 : Value} (h : Box w v0 v1 v2 W) {n : Nat} (hn : w.heap.size + 1 < n) (hb : Below n W W') : Box w v0 v1 v2 W' :=
  ⟨h.b.trans (hb.mono (by omega)), (hb.block _ (by omega)).trans h.x, (hb.block _ hn).trans h.r⟩
theorem Box.lt {w W : World} {v0 v1 v2 : Value} (h : Box w v0 v1 v2 W) : w.heap.size + 1 < W.heap.size := block_lt h.r
theorem Box.c0 {w W : World} {v0 v1 v2 : Value} (h : Box w v0 v1 v2 W) : W.cell? ⟨w.heap.size, 0, none⟩ = some v0 := (block_cell (i := 0) h.x).trans rfl
theorem Box.c1 {w W : World} {v0 v1 v2 : Value} (h : Box w v0 v1 v2 W) : W.cell? ⟨w.heap.size, 1, none⟩ = some v1 := (block_cell (i := 1) h.x).trans rfl
theorem Box.c2 {w W : World} {v0 v1 v2 : Value} (h : Box w v0 v1 v2 W) : W.cell? ⟨w.heap.size, 2, none⟩ = some v2 := (block_cell (i := 2) h.x).trans rfl
theorem Box.cr {w W : World} {v0 v1 v2 : Value} (h : Box w v0 v1 v2 W) : W.cell? ⟨w.heap.size + 1, 0, none⟩ = some (.bool false) := (block_cell (i := 0) h.r).trans rfl
theorem Box.fr {w W : World} {v0 v1 v2 : Value} (h : Box w v0 v1 v2 W) : W.frozen? ⟨w.heap.size + 1, 0, none⟩ = false := block_free (i := 0) h.r
theorem box_start (w : World) (v0 v1 v2 : Value) : Box w v0 v1 v2 ((w.alloc (.cells #[v0, v1, v2] 24 (0, 0))).alloc (.cells #[.bool false] 4 (0, 0))) := by
  have e1 : (w.alloc (.cells #[v0, v1, v2] 24 (0, 0))).heap.size = w.heap.size + 1 := by simp
  have e2 := heap_alloc_new (w.alloc (.cells #[v0, v1, v2] 24 (0, 0))) (.cells #[.bool false] 4 (0, 0))
  rw [e1] at e2
  exact ⟨((Below.refl _ _).alloc (Nat.le_refl _) _).alloc (by simp) _, (heap_alloc_old _ _ (by simp)).trans (heap_alloc_new _ _), e2⟩

/-- What is read back of a line that was printed. -/
theorem reads_back (l : List ByteArray) (note : ByteArray) (hh : badHead l note = false) (hf : badField l = false) : Reads 1 (lineText l note) [⟨1, l.map (·.data.toList), note.data.toList⟩] := by
  obtain ⟨h10, h1, h2, h3⟩ := printed l note hh hf
  have hc : Lib.cut (lineText l note) [10] = (oneLine l note, [], true) := cut_hit (c := 10) [] h10
  have := Reads.some 1 (lineText l note) [] (by unfold lineText; simp) (by rw [hc]; exact h3) (by rw [hc]; exact Reads.nil 2)
  rw [hc, h1, h2] at this
  exact this

set_option maxRecDepth 100000 in
set_option maxHeartbeats 4000000 in
theorem back_in (num : Int) (a : Option Addr) (l : List ByteArray) (c : Nat) (note : ByteArray) (ra : Option Addr) (rl : List Int) (rc : Nat) (w : World)
    (hl : l.length ≤ 1048576) (hsz : ∀ s ∈ l, s.size ≤ 1048576) (hn : note.size ≤ 1048576) (hcap : l.length ≤ c) (hj : (Lib.join (l.map (·.data.toList)) [59, 32]).length ≤ 1073741000 - 1048576)
    (hrl : rl.length ≤ 1048576) (hS : Strs w a l) (hR : Rs w ra rl) (hT : Tabs w) (hQ : Quick w) :
    CallsIn Fence.wide 6 Tryz.prog 3 #[.agg #[.int .i64 num, .slice a l.length c, .string note], .slice ra rl.length rc] w fun e w' => e = .returned (.bool true) ∧ Below w.heap.size w w' := by
  have hsz' : ∀ s ∈ l, s.size ≤ 140737488351232 := fun s hs => Nat.le_trans (hsz s hs) (by decide)
  have c4 : ∀ W, Below w.heap.size w W → Calls Tryz.prog 5 #[.agg #[.int .i64 num, .slice a l.length c, .string note]] W (PrintPost l note W) := fun W hW =>
    print_any num a l c note W (by omega) hsz' (by omega) hcap (by omega) (hS.below hW) (hT.below hW).1
  have c6 : ∀ W, Below w.heap.size w W → Calls Tryz.prog 7 #[.agg #[.int .i64 num, .slice a l.length c, .string note]] W (GivenPost num l note W) := fun W hW =>
    given_any num a l c note W hl (hS.below hW)
  have c5 : ∀ W a' c', Strs W a' l → Calls Tryz.prog 6 #[.agg #[.int .i64 num, .slice a' l.length c', .string note]] W (PrintPost l note W) := fun W a' c' hW =>
    refPrint_any num a' l c' note W (by omega) hsz' (by omega) (by omega) hW
  have c7 : ∀ W, Below w.heap.size w W → Calls Tryz.prog 10 #[.slice ra rl.length rc] W (TellPost rl (fun w w' => Below w.heap.size w w') W) := fun W hW =>
    tell_any ra rl rc W hrl (hR.below hW) (hT.below hW)
  have c8 : ∀ W, Below w.heap.size w W → Calls Tryz.prog 11 #[.slice ra rl.length rc] W (TellPost rl (fun w w' => Below w.heap.size w w') W) := fun W hW =>
    (refTell_any ra rl rc W (by omega) (hR.below hW)).mono fun e w' h => ⟨h.1, h.2.below⟩
  have c9 : rl.any badRune = false → ∀ W, Below w.heap.size w W → Calls Tryz.prog 12 #[.string ⟨(tellText rl).toArray⟩] W (SeqPost rl W) := fun hb W hW =>
    sequence_any rl W hrl hb (hQ.below hW)
  have HA := Lib.hid awake_any
  have H4 := Lib.hid c4
  have H5 := Lib.hid c5
  have H6 := Lib.hid c6
  have H7 := Lib.hid c7
  have H8 := Lib.hid c8
  have H9 := Lib.hid c9
  have HQ := Lib.hid hQ
  have HJ := Lib.hid hj
  have HR := Lib.hid hR
  clear c4 c5 c6 c7 c8 c9 hT hsz' hsz hS hj hQ hR
  refine callsIn_of_wp_marks Tryz.func3 rfl trivial ?_ rfl
  simp only [Tryz.ntmps3, List.size_toArray, List.length_cons, List.length_nil, Nat.reduceAdd, Nat.reduceSub, Array.replicate_succ, Array.replicate_zero, List.push_toArray, List.append_toArray, List.nil_append, List.cons_append]
  cases hpb : (badHead l note || badField l) with
  | true =>
    have hpb4 : ∀ W, Below w.heap.size w W → Calls Tryz.prog 5 #[.agg #[.int .i64 num, .slice a l.length c, .string note]] W fun e w' => e = .returned (.tuple #[.string ⟨#[]⟩, .int .i64 1]) ∧ Below W.heap.size W w' := fun W hW =>
      (H4.out W hW).mono fun e w' h => ⟨by rw [h.1, hpb]; rfl, h.2⟩
    have hpb5 : ∀ W a' c', Strs W a' l → Calls Tryz.prog 6 #[.agg #[.int .i64 num, .slice a' l.length c', .string note]] W fun e w' => e = .returned (.tuple #[.string ⟨#[]⟩, .int .i64 1]) ∧ Below W.heap.size W w' := fun W a' c' hW =>
      (H5.out W a' c' hW).mono fun e w' h => ⟨by rw [h.1, hpb]; rfl, h.2⟩
    have HP4 := Lib.hid hpb4
    have HP5 := Lib.hid hpb5
    clear hpb4 hpb5
    gi_wp2_with fail
    have hx0 := box_start w (.int .i64 num) (.slice a l.length c) (.string note)
    refine ⟨trivial, (callsIn_wide.2 (HA.out _)).mono ?_⟩
    rintro e w1 ⟨rfl, rfl⟩
    have k0 := hx0.c0
    have k1 := hx0.c1
    have k2 := hx0.c2
    gi_wp2_with fail
    clear k0 k1 k2
    refine ⟨trivial, (callsIn_wide.2 (HP4.out _ hx0.b)).mono ?_⟩
    rintro e w1 ⟨rfl, hb⟩
    have hx1 := hx0.next hx0.lt hb
    have k0 := hx1.c0
    have k1 := hx1.c1
    have k2 := hx1.c2
    clear hb
    gi_wp2_with fail
    clear k0 k1 k2
    refine ⟨trivial, (callsIn_wide.2 (H6.out _ hx1.b)).mono ?_⟩
    rintro e w2 ⟨a', c', rfl, hS', hb, hc'⟩
    have hx2 := hx1.next hx1.lt hb
    clear hb
    gi_wp2_with fail
    refine ⟨trivial, (callsIn_wide.2 (HP5.out _ a' c' hS')).mono ?_⟩
    rintro e wt ⟨rfl, hb⟩
    have hxt := hx2.next hx2.lt hb
    clear hb hS' hx0 hx1 hx2
    gi_wp2_with fail
    cases htb : rl.any badRune with
    | true =>
      have hpb7 : ∀ W, Below w.heap.size w W → Calls Tryz.prog 10 #[.slice ra rl.length rc] W fun e w' => e = .returned (.tuple #[.string ⟨#[]⟩, .int .i64 90]) ∧ Below W.heap.size W w' := fun W hW =>
        (H7.out W hW).mono fun e w' h => ⟨by rw [h.1, htb]; rfl, h.2⟩
      have hpb8 : ∀ W, Below w.heap.size w W → Calls Tryz.prog 11 #[.slice ra rl.length rc] W fun e w' => e = .returned (.tuple #[.string ⟨#[]⟩, .int .i64 90]) ∧ Below W.heap.size W w' := fun W hW =>
        (H8.out W hW).mono fun e w' h => ⟨by rw [h.1, htb]; rfl, h.2⟩
      have HP7 := Lib.hid hpb7
      have HP8 := Lib.hid hpb8
      clear hpb7 hpb8
      refine ⟨trivial, (callsIn_wide.2 (HP7.out _ hxt.b)).mono ?_⟩
      rintro e w4 ⟨rfl, hb⟩
      have hx4 := hxt.next hxt.lt hb
      clear hb
      gi_wp2_with fail
      refine ⟨trivial, (callsIn_wide.2 (HP8.out _ hx4.b)).mono ?_⟩
      rintro e w5 ⟨rfl, hb⟩
      have hx5 := hx4.next hx4.lt hb
      clear hb
      gi_wp2_with fail
      refine ⟨trivial, (callsIn_wide.2 (HA.out _)).mono ?_⟩
      rintro e w6 ⟨rfl, rfl⟩
      have kr := hx5.cr
      have kf := hx5.fr
      gi_wp2
      refine ⟨.bool true, ?_, rfl, hx5.b.setCell (p := ⟨w.heap.size + 1, 0, none⟩) (Nat.le_succ _) _⟩
      have hcell := World.cell?_setCell_same' w5 ⟨w.heap.size + 1, 0, none⟩ (.bool true) (by rw [hx5.cr]; rfl)
      simp [results, Tryz.results3, go_sem, hcell]
    | false =>
      have hpb7 : ∀ W, Below w.heap.size w W → Calls Tryz.prog 10 #[.slice ra rl.length rc] W fun e w' => e = .returned (.tuple #[.string ⟨(tellText rl).toArray⟩, .int .i64 0]) ∧ Below W.heap.size W w' := fun W hW =>
        (H7.out W hW).mono fun e w' h => ⟨by rw [h.1, htb]; rfl, h.2⟩
      have hpb8 : ∀ W, Below w.heap.size w W → Calls Tryz.prog 11 #[.slice ra rl.length rc] W fun e w' => e = .returned (.tuple #[.string ⟨(tellText rl).toArray⟩, .int .i64 0]) ∧ Below W.heap.size W w' := fun W hW =>
        (H8.out W hW).mono fun e w' h => ⟨by rw [h.1, htb]; rfl, h.2⟩
      have HP7 := Lib.hid hpb7
      have HP8 := Lib.hid hpb8
      clear hpb7 hpb8
      refine ⟨trivial, (callsIn_wide.2 (HP7.out _ hxt.b)).mono ?_⟩
      rintro e w4 ⟨rfl, hb⟩
      have hx4 := hxt.next hxt.lt hb
      clear hb
      gi_wp2_with fail
      refine ⟨trivial, (callsIn_wide.2 (HP8.out _ hx4.b)).mono ?_⟩
      rintro e w5 ⟨rfl, hb⟩
      have hx5 := hx4.next hx4.lt hb
      clear hb
      gi_wp2_with fail
      refine ⟨trivial, (callsIn_wide.2 (H9.out htb _ hx5.b)).mono ?_⟩
      rintro e w6 ⟨sa, sc, rfl, hRs, hb⟩
      have hx6 := hx5.next hx5.lt hb
      clear hb
      have HX6 := Lib.hid hx6
      have HRS := Lib.hid hRs
      have HR6 := Lib.hid (HR.out.below hx6.b)
      clear hRs hx4 hx5
      gi_wp2_with fail
      gi_loopw [19] (fun v w' => ∃ (i : Nat), v = .int .i64 i ∧ i ≤ rl.length ∧ Below w6.heap.size w6 w') (fun v _ => rl.length - (intOf v).toNat)
      case atStart => exact ⟨0, rfl, Nat.zero_le _, Below.refl _ _⟩
      case round =>
        obtain ⟨i, rfl, hi, hbr⟩ := hrel
        by_cases hlt : i < rl.length
        · obtain ⟨x, hx⟩ : ∃ x, rl[i]? = some x := ⟨_, List.getElem?_eq_getElem hlt⟩
          have hne : rl ≠ [] := by rintro rfl; simp at hlt
          rcases HRS.out.below hbr with h0 | ⟨b1, o1, rfl, _, hc1⟩
          · exact absurd h0 hne
          rcases HR6.out.below hbr with h0 | ⟨b2, o2, rfl, _, hc2⟩
          · exact absurd h0 hne
          have q1 := hc1 i x hx
          have q2 := hc2 i x hx
          clear hc1 hc2 hx hne
          gi_wp2_with fail
          gi_region
          gi_wp2
          go_roundw
          case rel => exact ⟨i + 1, by go_num, by omega, hbr.drew⟩
          case measure => simp [intOf]; omega
        · obtain rfl : i = rl.length := by omega
          have hx7 := HX6.out.next HX6.out.lt hbr
          gi_wp2_with fail
          refine ⟨trivial, (callsIn_wide.2 (HA.out _)).mono ?_⟩
          rintro e w8 ⟨rfl, rfl⟩
          have kr := hx7.cr
          have kf := hx7.fr
          gi_wp2
          refine ⟨.bool true, ?_, rfl, hx7.b.setCell (p := ⟨w.heap.size + 1, 0, none⟩) (Nat.le_succ _) _⟩
          have hcell := World.cell?_setCell_same' wr ⟨w.heap.size + 1, 0, none⟩ (.bool true) (by rw [hx7.cr]; rfl)
          simp [results, Tryz.results3, go_sem, hcell]
  | false =>
    have hpb4 : ∀ W, Below w.heap.size w W → Calls Tryz.prog 5 #[.agg #[.int .i64 num, .slice a l.length c, .string note]] W fun e w' => e = .returned (.tuple #[.string ⟨(lineText l note).toArray⟩, .int .i64 0]) ∧ Below W.heap.size W w' := fun W hW =>
      (H4.out W hW).mono fun e w' h => ⟨by rw [h.1, hpb]; rfl, h.2⟩
    have hpb5 : ∀ W a' c', Strs W a' l → Calls Tryz.prog 6 #[.agg #[.int .i64 num, .slice a' l.length c', .string note]] W fun e w' => e = .returned (.tuple #[.string ⟨(lineText l note).toArray⟩, .int .i64 0]) ∧ Below W.heap.size W w' := fun W a' c' hW =>
      (H5.out W a' c' hW).mono fun e w' h => ⟨by rw [h.1, hpb]; rfl, h.2⟩
    have HP4 := Lib.hid hpb4
    have HP5 := Lib.hid hpb5
    clear hpb4 hpb5
    gi_wp2_with fail
    have hx0 := box_start w (.int .i64 num) (.slice a l.length c) (.string note)
    refine ⟨trivial, (callsIn_wide.2 (HA.out _)).mono ?_⟩
    rintro e w1 ⟨rfl, rfl⟩
    have k0 := hx0.c0
    have k1 := hx0.c1
    have k2 := hx0.c2
    gi_wp2_with fail
    clear k0 k1 k2
    refine ⟨trivial, (callsIn_wide.2 (HP4.out _ hx0.b)).mono ?_⟩
    rintro e w1 ⟨rfl, hb⟩
    have hx1 := hx0.next hx0.lt hb
    have k0 := hx1.c0
    have k1 := hx1.c1
    have k2 := hx1.c2
    clear hb
    gi_wp2_with fail
    clear k0 k1 k2
    refine ⟨trivial, (callsIn_wide.2 (H6.out _ hx1.b)).mono ?_⟩
    rintro e w2 ⟨a', c', rfl, hS', hb, hc'⟩
    have hx2 := hx1.next hx1.lt hb
    clear hb
    gi_wp2_with fail
    refine ⟨trivial, (callsIn_wide.2 (HP5.out _ a' c' hS')).mono ?_⟩
    rintro e wt ⟨rfl, hb⟩
    have hxt := hx2.next hx2.lt hb
    clear hb hS' hx0 hx1 hx2
    gi_wp2_with fail
    have hq0 : 0 < wt.heap.size := Nat.lt_of_lt_of_le HQ.out.2 hxt.b.size
    have hls : (⟨(lineText l note).toArray⟩ : ByteArray).size ≤ 1073741824 := by
      have hj := HJ.out
      have hn' : note.data.toList.length ≤ 1048576 := by rw [size_data]; exact hn
      rw [ba_size]
      unfold lineText noteTail
      split <;> simp only [List.length_append, List.length_cons, List.length_nil] <;> omega
    have hpb2 : badHead l note = false ∧ badField l = false := by rwa [Bool.or_eq_false_iff] at hpb
    have hrd : Reads 1 (⟨(lineText l note).toArray⟩ : ByteArray).data.toList [⟨1, l.map (·.data.toList), note.data.toList⟩] := reads_back l note hpb2.1 hpb2.2
    refine ⟨trivial, (callsIn_wide.2 (lines_any _ _)).mono ?_⟩
    rintro e wl0 ⟨rfl, hwl⟩
    obtain ⟨bn, hbn⟩ : ∃ bn, wt.heap.size = bn := ⟨_, rfl⟩
    have hx := hxt.lt
    have hl1 : (wt.alloc (.cells #[.int .i64 0] 3 (0, 0))).heap.size = bn + 1 := by simp [hbn]
    have hl2 : wl0.heap.size = bn + 2 := by rw [hwl]; simp [hbn]
    have hln : wl0.heap[bn]? = some (.cells #[.int .i64 0] 3 (0, 0)) := by
      rw [hwl, ← hbn]
      exact (heap_alloc_old _ _ (by simp)).trans (heap_alloc_new _ _)
    have hlsx : wl0.cell? ⟨bn + 1, 0, none⟩ = some (.string ⟨(lineText l note).toArray⟩) := by
      have := World.cell?_alloc_new (wt.alloc (.cells #[.int .i64 0] 3 (0, 0))) #[.string ⟨(lineText l note).toArray⟩] 9 0
      rw [hl1] at this
      rw [hwl]
      exact this
    have hbt : Below bn wt wl0 := by
      rw [hwl, ← hbn]
      exact ((Below.refl _ _).alloc (Nat.le_refl _) _).alloc (by simp) _
    have hxl := hxt.next (by omega) hbt
    rw [hbn] at hq0
    simp only [hbn, hl1]
    clear hwl hbt hxt
    gi_wp2_with fail
    have HX := Lib.hid hxl
    have HRD := Lib.hid hrd
    clear hxl hrd
    refine range_lines 6 (by decide) (bn + 1) bn ⟨(lineText l note).toArray⟩ [⟨1, l.map (·.data.toList), note.data.toList⟩] rfl hlsx (by omega) (HQ.out.below HX.out.b) hq0 (by omega) HRD.out hls rfl
      (fun pre W => W.heap[bn]? = some (.cells #[.int .i64 (pre.length : Int)] 3 (0, 0)) ∧ Below bn wl0 W)
      (fun pre A A' h hb => ⟨(hb.block bn (by omega)).trans h.1, h.2.trans (hb.mono (by omega))⟩) ⟨hln, Below.refl _ _⟩ 40 10 ?assign ?body ?done
    case assign =>
      intro it ad k c2 nt W K hK
      unfold lineCells
      gi_wp2
      exact hK
    case body =>
      rintro pre it ad c2 fs nt yb W ⟨hbnW, hbW0⟩ hst hfs hnt hc2 ⟨post, hpost⟩ hyb hyl hbW
      have hpre : pre = [] ∧ it = ⟨1, l.map (·.data.toList), note.data.toList⟩ := by
        cases pre with
        | nil => simp only [List.nil_append, List.cons.injEq] at hpost; exact ⟨rfl, hpost.1.symm⟩
        | cons x r => have := congrArg List.length hpost; simp at this
      obtain ⟨rfl, rfl⟩ := hpre
      obtain rfl : fs = l := map_data_inj hfs
      obtain rfl : nt = note := ba_ext hnt
      have hxW := HX.out.next (n := bn) (by omega) hbW0
      have k0 := hxW.c0
      have k1 := hxW.c1
      have k2 := hxW.c2
      have hnW : W.heap[bn]? = some (.cells #[.int .i64 0] 3 (0, 0)) := hbnW
      have hyb2 : W.heap[yb]? = some (.cells #[.int .i64 1, .slice ad fs.length c2, .string nt] 24 (0, 0)) := hyb
      have hyb3 := block_lt hyb
      have hbn3 := block_lt hnW
      have HXW := Lib.hid hxW
      clear hfs hnt hpost hbnW hyb hxW
      gi_wp2_with fail
      clear k0 k1 k2
      refine ⟨trivial, (CallsIn.inRound _ (callsIn_wide.2 (H6.out _ HXW.out.b))).mono ?_⟩
      rintro e w2 ⟨a2, c3, rfl, hS2, hb2, hc3⟩
      have hn2 := (hb2.block _ hbn3).trans hnW
      have hy2 := (hb2.block _ hyb3).trans hyb2
      have y0 : w2.cell? ⟨yb, 0, none⟩ = some (.int .i64 1) := (block_cell (i := 0) hy2).trans rfl
      have y1 : w2.cell? ⟨yb, 1, none⟩ = some (.slice ad fs.length c2) := (block_cell (i := 1) hy2).trans rfl
      have y2 : w2.cell? ⟨yb, 2, none⟩ = some (.string nt) := (block_cell (i := 2) hy2).trans rfl
      have n0 : w2.cell? ⟨bn, 0, none⟩ = some (.int .i64 0) := (block_cell (i := 0) hn2).trans rfl
      have l1 := block_lt hn2
      have l2 := block_lt hy2
      have HSM := Lib.hid (fun W3 (hW3 : Below w2.heap.size w2 W3) => same_true 1 ad a2 fs c2 c3 nt W3 (by omega) ((hst.below hb2).below hW3) (hS2.below hW3))
      gi_wp2_with fail
      refine ⟨trivial, (CallsIn.inRound _ (callsIn_wide.2 (HSM.out _ ((Below.refl _ _).alloc (Nat.le_refl _) _)))).mono ?_⟩
      rintro e w4 ⟨rfl, hb4⟩
      have hb24 : Below w2.heap.size w2 w4 := ((Below.refl w2.heap.size w2).alloc (Nat.le_refl _) _).trans (hb4.mono (by simp))
      have hn4 := (hb24.block _ l1).trans hn2
      have n4 : w4.cell? ⟨bn, 0, none⟩ = some (.int .i64 0) := (block_cell (i := 0) hn4).trans rfl
      have f4 := block_free (i := 0) hn4
      have hsz2 := hb2.size
      clear y0 y1 y2 n0
      gi_wp2
      have hW04 : Below bn W w4 := (hb2.mono (Nat.le_of_lt hbn3)).trans (hb24.mono (Nat.le_of_lt l1))
      have hW24 : Below bn W (w4.setCell ⟨bn, 0, none⟩ (.int .i64 1)) := hW04.setCell (p := ⟨bn, 0, none⟩) (Nat.le_refl _) _
      have hk : ∀ k, k ≠ bn → k < W.heap.size → (w4.setCell ⟨bn, 0, none⟩ (.int .i64 1)).heap[k]? = W.heap[k]? := fun k h1 h2 =>
        (Below.heap_setCell w4 ⟨bn, 0, none⟩ (.int .i64 1) k h1).trans ((hb24.block k (by omega)).trans (hb2.block k h2))
      exact ⟨hk _ (by omega) (by omega), hk _ (by omega) (by omega), hW24, block_set (i := 0) (v := .int .i64 1) hn4, hbW0.trans hW24⟩
    case done =>
      rintro wt ⟨hbnW, hbW0⟩ hKt hbW
      obtain ⟨D, hD⟩ : ∃ D, wl0.heap.size = D := ⟨_, rfl⟩
      rw [hD] at hKt
      simp only [hD]
      have hxt := HX.out.next (n := bn) (by omega) hbW0
      have n5 : wt.cell? ⟨bn, 0, none⟩ = some (.int .i64 1) := (block_cell (i := 0) hbnW).trans rfl
      have hDb : w.heap.size + 1 < D := by omega
      clear hbnW hbW0 hbW hln hlsx HRD HX
      gi_wp2_with fail
      cases htb : rl.any badRune with
      | true =>
        have hpb7 : ∀ W, Below w.heap.size w W → Calls Tryz.prog 10 #[.slice ra rl.length rc] W fun e w' => e = .returned (.tuple #[.string ⟨#[]⟩, .int .i64 90]) ∧ Below W.heap.size W w' := fun W hW =>
          (H7.out W hW).mono fun e w' h => ⟨by rw [h.1, htb]; rfl, h.2⟩
        have hpb8 : ∀ W, Below w.heap.size w W → Calls Tryz.prog 11 #[.slice ra rl.length rc] W fun e w' => e = .returned (.tuple #[.string ⟨#[]⟩, .int .i64 90]) ∧ Below W.heap.size W w' := fun W hW =>
          (H8.out W hW).mono fun e w' h => ⟨by rw [h.1, htb]; rfl, h.2⟩
        have HP7 := Lib.hid hpb7
        have HP8 := Lib.hid hpb8
        clear hpb7 hpb8
        refine ⟨trivial, (callsIn_wide.2 (HP7.out _ hxt.b)).mono ?_⟩
        rintro e w4 ⟨rfl, hb⟩
        have hx4 := hxt.next hxt.lt hb
        have hKt := (hb.block _ (block_lt hKt)).trans hKt
        clear hb
        gi_wp2_with fail
        refine ⟨trivial, (callsIn_wide.2 (HP8.out _ hx4.b)).mono ?_⟩
        rintro e w5 ⟨rfl, hb⟩
        have hx5 := hx4.next hx4.lt hb
        have hKt := (hb.block _ (block_lt hKt)).trans hKt
        clear hb
        gi_wp2_with fail
        refine ⟨trivial, (callsIn_wide.2 (HA.out _)).mono ?_⟩
        rintro e w6 ⟨rfl, rfl⟩
        have kr := hx5.cr
        have kf := hx5.fr
        gi_wp2
        have hKs : (w5.setCell ⟨w.heap.size + 1, 0, none⟩ (.bool true)).heap[D]? = some (.deferred (some [])) := (Below.heap_setCell w5 ⟨w.heap.size + 1, 0, none⟩ (.bool true) D (by show D ≠ w.heap.size + 1; omega)).trans hKt
        refine ⟨by simp, .inl ⟨_, _, rfl, run_takeDeferred hKs, ?_⟩⟩
        have hcell := World.cell?_setCell_same' w5 ⟨w.heap.size + 1, 0, none⟩ (.bool true) (by rw [hx5.cr]; rfl)
        have hcell2 : ((w5.setCell ⟨w.heap.size + 1, 0, none⟩ (.bool true)).putObj D (.deferred none)).cell? ⟨w.heap.size + 1, 0, none⟩ = some (.bool true) :=
          (World.cell?_of_block (World.putObj_heap_other (by show w.heap.size + 1 ≠ D; omega))).trans hcell
        have hDl := (Array.getElem?_eq_some_iff.1 hKs).1
        refine ⟨.bool true, ?_, rfl, (hx5.b.setCell (p := ⟨w.heap.size + 1, 0, none⟩) (Nat.le_succ _) _).grown (grownBy_putObj' _ D (.deferred none)) (by omega) (fun k e => by cases e; omega)⟩
        simp [results, Tryz.results3, go_sem, hcell2]
      | false =>
        have hpb7 : ∀ W, Below w.heap.size w W → Calls Tryz.prog 10 #[.slice ra rl.length rc] W fun e w' => e = .returned (.tuple #[.string ⟨(tellText rl).toArray⟩, .int .i64 0]) ∧ Below W.heap.size W w' := fun W hW =>
          (H7.out W hW).mono fun e w' h => ⟨by rw [h.1, htb]; rfl, h.2⟩
        have hpb8 : ∀ W, Below w.heap.size w W → Calls Tryz.prog 11 #[.slice ra rl.length rc] W fun e w' => e = .returned (.tuple #[.string ⟨(tellText rl).toArray⟩, .int .i64 0]) ∧ Below W.heap.size W w' := fun W hW =>
          (H8.out W hW).mono fun e w' h => ⟨by rw [h.1, htb]; rfl, h.2⟩
        have HP7 := Lib.hid hpb7
        have HP8 := Lib.hid hpb8
        clear hpb7 hpb8
        refine ⟨trivial, (callsIn_wide.2 (HP7.out _ hxt.b)).mono ?_⟩
        rintro e w4 ⟨rfl, hb⟩
        have hx4 := hxt.next hxt.lt hb
        have hKt := (hb.block _ (block_lt hKt)).trans hKt
        clear hb
        gi_wp2_with fail
        refine ⟨trivial, (callsIn_wide.2 (HP8.out _ hx4.b)).mono ?_⟩
        rintro e w5 ⟨rfl, hb⟩
        have hx5 := hx4.next hx4.lt hb
        have hKt := (hb.block _ (block_lt hKt)).trans hKt
        clear hb
        gi_wp2_with fail
        refine ⟨trivial, (callsIn_wide.2 (H9.out htb _ hx5.b)).mono ?_⟩
        rintro e w6 ⟨sa, sc, rfl, hRs, hb⟩
        have hx6 := hx5.next hx5.lt hb
        have hKt := (hb.block _ (block_lt hKt)).trans hKt
        clear hb
        have HX6 := Lib.hid hx6
        have HRS := Lib.hid hRs
        have HR6 := Lib.hid (HR.out.below hx6.b)
        clear hRs hx4 hx5
        gi_wp2_with fail
        gi_loopw [19] (fun v w' => ∃ (i : Nat), v = .int .i64 i ∧ i ≤ rl.length ∧ Below w6.heap.size w6 w') (fun v _ => rl.length - (intOf v).toNat)
        case atStart => exact ⟨0, rfl, Nat.zero_le _, Below.refl _ _⟩
        case round =>
          obtain ⟨i, rfl, hi, hbr⟩ := hrel
          by_cases hlt : i < rl.length
          · obtain ⟨x, hx⟩ : ∃ x, rl[i]? = some x := ⟨_, List.getElem?_eq_getElem hlt⟩
            have hne : rl ≠ [] := by rintro rfl; simp at hlt
            rcases HRS.out.below hbr with h0 | ⟨b1, o1, rfl, _, hc1⟩
            · exact absurd h0 hne
            rcases HR6.out.below hbr with h0 | ⟨b2, o2, rfl, _, hc2⟩
            · exact absurd h0 hne
            have q1 := hc1 i x hx
            have q2 := hc2 i x hx
            clear hc1 hc2 hx hne
            gi_wp2_with fail
            gi_region
            gi_wp2
            go_roundw
            case rel => exact ⟨i + 1, by go_num, by omega, hbr.drew⟩
            case measure => simp [intOf]; omega
          · obtain rfl : i = rl.length := by omega
            have hx7 := HX6.out.next HX6.out.lt hbr
            have hKt := (hbr.block _ (block_lt hKt)).trans hKt
            gi_wp2_with fail
            refine ⟨trivial, (callsIn_wide.2 (HA.out _)).mono ?_⟩
            rintro e w8 ⟨rfl, rfl⟩
            have kr := hx7.cr
            have kf := hx7.fr
            gi_wp2
            have hKs : (wr.setCell ⟨w.heap.size + 1, 0, none⟩ (.bool true)).heap[D]? = some (.deferred (some [])) := (Below.heap_setCell wr ⟨w.heap.size + 1, 0, none⟩ (.bool true) D (by show D ≠ w.heap.size + 1; omega)).trans hKt
            refine ⟨by simp, .inl ⟨_, _, rfl, run_takeDeferred hKs, ?_⟩⟩
            have hcell := World.cell?_setCell_same' wr ⟨w.heap.size + 1, 0, none⟩ (.bool true) (by rw [hx7.cr]; rfl)
            have hcell2 : ((wr.setCell ⟨w.heap.size + 1, 0, none⟩ (.bool true)).putObj D (.deferred none)).cell? ⟨w.heap.size + 1, 0, none⟩ = some (.bool true) :=
              (World.cell?_of_block (World.putObj_heap_other (by show w.heap.size + 1 ≠ D; omega))).trans hcell
            have hDl := (Array.getElem?_eq_some_iff.1 hKs).1
            refine ⟨.bool true, ?_, rfl, (hx7.b.setCell (p := ⟨w.heap.size + 1, 0, none⟩) (Nat.le_succ _) _).grown (grownBy_putObj' _ D (.deferred none)) (by omega) (fun k e => by cases e; omega)⟩
            simp [results, Tryz.results3, go_sem, hcell2]


theorem back_any (num : Int) (a : Option Addr) (l : List ByteArray) (c : Nat) (note : ByteArray) (ra : Option Addr) (rl : List Int) (rc : Nat) (w : World)
    (hl : l.length ≤ 1048576) (hsz : ∀ s ∈ l, s.size ≤ 1048576) (hn : note.size ≤ 1048576) (hcap : l.length ≤ c) (hj : (Lib.join (l.map (·.data.toList)) [59, 32]).length ≤ 1073741000 - 1048576)
    (hrl : rl.length ≤ 1048576) (hS : Strs w a l) (hR : Rs w ra rl) (hT : Tabs w) (hQ : Quick w) :
    Calls Tryz.prog 3 #[.agg #[.int .i64 num, .slice a l.length c, .string note], .slice ra rl.length rc] w fun e w' => e = .returned (.bool true) ∧ Below w.heap.size w w' :=
  callsIn_wide.1 (back_in num a l c note ra rl rc w hl hsz hn hcap hj hrl hS hR hT hQ)
end Go.Proofs.YtleadeaahlmmiaaGreatDoor.Back
