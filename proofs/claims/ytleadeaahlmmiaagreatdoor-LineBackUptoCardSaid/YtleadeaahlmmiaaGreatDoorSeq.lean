/- The walks of line.words and line.Sequence, at a text that line.Tell has told. -/
import Derived.Test.YtleadeaahlmmiaaGreatDoorCut
import Derived.Test.YtleadeaahlmmiaaGreatDoorPoint
import Derived.OwnWalk
import Derived.Lib.SliceRun
import Derived.BigFrame
namespace Go.Proofs.YtleadeaahlmmiaaGreatDoor.Seq
open Go.RowKit Go.Lib Go.Proofs.YtleadeaahlmmiaaGreatDoor.Text Go.Proofs.YtleadeaahlmmiaaGreatDoor.Runes Go.Proofs.YtleadeaahlmmiaaGreatDoor.Print Go.Proofs.YtleadeaahlmmiaaGreatDoor.RefNine Go.Proofs.YtleadeaahlmmiaaGreatDoor.RefPrint Go.Proofs.YtleadeaahlmmiaaGreatDoor.Format Go.Proofs.YtleadeaahlmmiaaGreatDoor.Tell Go.Proofs.YtleadeaahlmmiaaGreatDoor.Given Go.Proofs.YtleadeaahlmmiaaGreatDoor.Split Go.Proofs.YtleadeaahlmmiaaGreatDoor.Cut Go.Proofs.YtleadeaahlmmiaaGreatDoor.Point

/-! ### the text's words -/
theorem digit_no32 : ∀ d : Nat, d < 16 → Text.hexDigit d ≠ 32 := by decide +kernel
theorem low_no32 : ∀ i p, (32 : UInt8) ∉ lowHex i p
  | 0, _ => by simp [lowHex]
  | i + 1, p => by
    rw [lowHex, List.mem_append]
    rintro (h | h)
    · exact low_no32 i _ h
    · simp only [List.mem_singleton] at h
      exact digit_no32 _ (Nat.mod_lt p (by decide)) h.symm
theorem hex_no32 (p : Nat) : (32 : UInt8) ∉ hexL p := low_no32 _ _
theorem hex_ne (p : Nat) : hexL p ≠ [] := by
  intro h
  have := congrArg List.length h
  unfold hexL at this
  rw [lowHex_length] at this
  simp at this
theorem join_pieces : ∀ (xs : List (List UInt8)), xs ≠ [] → (∀ x ∈ xs, (32 : UInt8) ∉ x) → pieces 32 (Lib.join xs [32]) = xs
  | [], h, _ => absurd rfl h
  | [x], _, h => by rw [Lib.join_one]; exact pieces_none 32 x (h x (List.mem_cons_self ..))
  | x :: y :: r, _, h => by
    have e : Lib.join (x :: y :: r) [32] = x ++ 32 :: Lib.join (y :: r) [32] := by simp [Lib.join]
    rw [e, pieces_hit 32 _ x (h x (List.mem_cons_self ..)), join_pieces (y :: r) (by simp) (fun z hz => h z (List.mem_cons_of_mem _ hz))]

def word (x : Int) : ByteArray := ⟨(hexL x.toNat).toArray⟩
theorem tell_pieces (l : List Int) (h : l ≠ []) : pieces 32 (tellText l) = (l.map word).map (·.data.toList) := by
  unfold tellText
  rw [join_pieces _ (by simpa using h) (fun x hx => by obtain ⟨y, _, rfl⟩ := List.mem_map.1 hx; exact hex_no32 _), List.map_map]
  rfl

/-! ### line.words -/
theorem words1_any (s : ByteArray) (w : World) : Calls Tryz.prog 48 #[.string s] w fun e w' => e = .returned (.bool (s.data.toList == [])) ∧ Below w.heap.size w w' := by
  by_cases h : s.data.toList = []
  · have e1 : s.toList = [] := by rw [ByteArray.toList_eq]; exact h
    have HB : Hid ((s.data.toList == []) = true) := Lib.hid (by rw [h]; rfl)
    clear h
    go_enter Tryz.func48, Tryz.ntmps48
    go_wp2
    go_ret
    exact ⟨by rw [HB.out]; rfl, Below.refl _ _⟩
  · have e1 : s.toList.isEmpty = false := by rw [ByteArray.toList_eq]; exact List.isEmpty_eq_false_iff.2 h
    have HB : Hid ((s.data.toList == []) = false) := Lib.hid (by rw [beq_eq_false_iff_ne]; exact h)
    clear h
    go_enter Tryz.func48, Tryz.ntmps48
    go_wp2
    go_ret
    exact ⟨by rw [HB.out]; rfl, Below.refl _ _⟩

theorem delete_none (a : Option Addr) (l : List ByteArray) (c : Nat) (w : World) (hl : l.length ≤ 140737488351232) (hS : Strs w a l) (hn : ∀ x ∈ l, x.data.toList ≠ []) :
    Calls Tryz.prog 47 #[.slice a l.length c, .func (.func 48) #[] #[]] w fun e w' => e = .returned (.slice a l.length c) ∧ Below w.heap.size w w' := by
  have hI := indexFunc_any 48 (fun s => s.data.toList == []) a l c w hl hS (enters_of Tryz.func48 (by kernel_rfl) rfl) (fun W x _ _ => words1_any x W)
  have hidx : idxP (fun s : ByteArray => s.data.toList == []) l = -1 := idxP_none _ l fun j y hy _ => by rw [beq_eq_false_iff_ne]; exact hn y (List.mem_of_getElem? hy)
  rw [hidx] at hI
  have HI := Lib.hid hI
  clear hI hidx hn hS
  go_enter Tryz.func47, Tryz.ntmps47
  go_wp2_with (go_at_call 32; refine HI.out.mono ?_; rintro e w1 ⟨rfl, hb1⟩)
  go_ret
  exact ⟨rfl, hb1⟩

set_option maxRecDepth 100000 in
theorem delete_one (bk : Nat) (w : World) (hb : w.heap[bk]? = some (.cells #[.string ⟨#[]⟩] 9 (0, 0))) :
    Calls Tryz.prog 47 #[.slice (some ⟨bk, 0, none⟩) 1 1, .func (.func 48) #[] #[]] w fun e w' => e = .returned (.slice (some ⟨bk, 0, none⟩) 0 1) ∧ Below bk w w' := by
  have hc : ∀ W, Below w.heap.size w W → W.cell? ⟨bk, 0, none⟩ = some (.string ⟨#[]⟩) ∧ W.frozen? ⟨bk, 0, none⟩ = false := fun W hW =>
    have h := (hW.block _ (block_lt hb)).trans hb
    ⟨(block_cell (i := 0) h).trans rfl, block_free (i := 0) h⟩
  have hS : Strs w (some ⟨bk, 0, none⟩) [⟨#[]⟩] := .inr ⟨bk, 0, rfl, block_lt hb, fun j x hx => by
    cases j with
    | zero => cases hx; exact (hc w (Below.refl _ _)).1
    | succ j => cases hx⟩
  have hI := indexFunc_any 48 (fun s => s.data.toList == []) (some ⟨bk, 0, none⟩) [⟨#[]⟩] 1 w (by decide) hS (enters_of Tryz.func48 (by kernel_rfl) rfl) (fun W x _ _ => words1_any x W)
  have hidx : idxP (fun s : ByteArray => s.data.toList == []) [⟨#[]⟩] = 0 := idxP_at _ _ 0 ⟨#[]⟩ rfl rfl (fun j y _ h => absurd h (Nat.not_lt_zero _))
  rw [hidx] at hI
  have hlt := block_lt hb
  have HI := Lib.hid hI
  have HC := Lib.hid hc
  clear hI hidx hS hb hc
  go_enter Tryz.func47, Tryz.ntmps47
  go_wp2_with (go_at_call 32; refine HI.out.mono ?_; rintro e w1 ⟨rfl, hb1⟩)
  obtain ⟨k1, k2⟩ := HC.out w1 hb1
  have hcl : ∀ ty, (Builtin.clear_ #[22] ty #[.slice (some ⟨bk, 0, none⟩) 1 1]).run Tryz.prog w1 = .ok (.tuple #[]) (w1.setCells bk 0 (List.replicate 1 (.string ⟨#[]⟩))) :=
    fun ty => by
      refine Lib.run_clear_slice w1 _ _ ty _ Tryz.underlying22 Tryz.zeroValue9 rfl rfl bk 0 1 1 (by decide) ?_ ?_
      · intro j hj
        obtain rfl : j = 0 := by omega
        rw [Nat.add_zero, k1]; rfl
      · intro j hj
        obtain rfl : j = 0 := by omega
        exact k2
  clear HI HC
  go_loopw [5, 6] (fun u v w' => u = .int .i64 0 ∧ v = .int .i64 1 ∧ w1 = w') (fun _ _ _ => 0)
  case atStart => exact ⟨rfl, rfl, rfl⟩
  case round =>
    obtain ⟨rfl, rfl, rfl⟩ := hrel
    go_wp2_with (simp only [hcl])
    go_ret
    exact ⟨rfl, (hb1.mono (Nat.le_of_lt hlt)).setCell (p := ⟨bk, 0, none⟩) (Nat.le_refl _) _⟩
theorem map_data_inj : ∀ {a b : List ByteArray}, a.map (·.data.toList) = b.map (·.data.toList) → a = b
  | [], [], _ => rfl
  | [], _ :: _, h => by simp at h
  | _ :: _, [], h => by simp at h
  | x :: a, y :: b, h => by
    rw [List.map_cons, List.map_cons, List.cons.injEq] at h
    rw [ba_ext h.1, map_data_inj h.2]

def WordsPost (l : List Int) (w : World) (e : Ending) (w' : World) : Prop := ∃ a c, e = .returned (.slice a l.length c) ∧ Strs w' a (l.map word) ∧ Below w.heap.size w w'

theorem words_any (l : List Int) (w : World) (hz : (tellText l).length ≤ 1073741824) (hQ : Quick w) :
    Calls Tryz.prog 27 #[.string ⟨(tellText l).toArray⟩] w (WordsPost l w) := by
  obtain ⟨m, hm⟩ := hQ.1
  have hS := Tryz.strings_Split ⟨(tellText l).toArray⟩ ⟨#[32]⟩ m w (by rw [ba_size]; omega) hm (by decide)
  have hps := splitB_pieces 32 ⟨(tellText l).toArray⟩
  have hcl := count_pieces 32 _ (tellText l) (Nat.le_refl _)
  have hcl2 : Lib.countB ⟨(tellText l).toArray⟩ ⟨#[32]⟩ + 1 = (pieces 32 (tellText l)).length := hcl
  rw [hcl2] at hS
  have hlen : (pieces 32 (tellText l)).length = (Lib.splitB ⟨#[32]⟩ 0 (Lib.countB ⟨(tellText l).toArray⟩ ⟨#[32]⟩) ⟨(tellText l).toArray⟩).length := by
    rw [splitB_length]
  rw [hlen] at hS
  have hps' : (Lib.splitB ⟨#[32]⟩ 0 (Lib.countB ⟨(tellText l).toArray⟩ ⟨#[32]⟩) ⟨(tellText l).toArray⟩).map (·.data.toList) = pieces 32 (tellText l) := hps
  generalize (Lib.splitB ⟨#[32]⟩ 0 (Lib.countB ⟨(tellText l).toArray⟩ ⟨#[32]⟩) ⟨(tellText l).toArray⟩) = ps at *
  clear hps hcl hcl2 hlen
  have hblk : (w.alloc (.cells (ps.map Value.string).toArray 9 (0, 0))).heap[w.heap.size]? = some (.cells (ps.map Value.string).toArray 9 (0, 0)) := heap_alloc_new _ _
  have hal : Below w.heap.size w (w.alloc (.cells (ps.map Value.string).toArray 9 (0, 0))) := (Below.refl _ _).alloc (Nat.le_refl _) _
  by_cases hl : l = []
  · subst hl
    have e1 : ps = [⟨#[]⟩] := map_data_inj (by rw [hps']; rfl)
    subst e1
    have hD := delete_one w.heap.size _ hblk
    have HS := Lib.hid hS
    have HD := Lib.hid hD
    have HA := Lib.hid hal
    clear hS hD hblk hps' hal hm hQ
    go_enter Tryz.func27, Tryz.ntmps27
    go_wp2_with fail
    refine HS.out.mono ?_
    rintro e w1 ⟨rfl, rfl⟩
    go_wp2_with fail
    refine HD.out.mono ?_
    rintro e w2 ⟨rfl, hb2⟩
    go_wp2_with fail
    go_ret
    exact ⟨_, _, rfl, .inl rfl, HA.out.trans hb2⟩
  · have hpw : ps = l.map word := map_data_inj (by rw [hps', tell_pieces l hl])
    have hle : ps.length ≤ 140737488351232 := by
      have := pieces_le 32 (tellText l)
      rw [← hps', List.length_map] at this
      omega
    have hst : Strs (w.alloc (.cells (ps.map Value.string).toArray 9 (0, 0))) (some ⟨w.heap.size, 0, none⟩) ps := .inr ⟨w.heap.size, 0, rfl, block_lt hblk, fun j x hx => by
      rw [Nat.zero_add]
      exact (block_cell (i := j) hblk).trans (by simp [hx])⟩
    have hD := delete_none (some ⟨w.heap.size, 0, none⟩) ps ps.length _ hle hst (fun x hx => by
      rw [hpw] at hx
      obtain ⟨y, _, rfl⟩ := List.mem_map.1 hx
      exact hex_ne _)
    have hpl : ps.length = l.length := by rw [hpw, List.length_map]
    have HS := Lib.hid hS
    have HD := Lib.hid hD
    have HA := Lib.hid hal
    have HT := Lib.hid hst
    have HW := Lib.hid hpw
    have HL := Lib.hid hpl
    clear hS hD hblk hps' hal hm hQ hst hpw hpl hl
    go_enter Tryz.func27, Tryz.ntmps27
    go_wp2_with fail
    refine HS.out.mono ?_
    rintro e w1 ⟨rfl, rfl⟩
    go_wp2_with fail
    refine HD.out.mono ?_
    rintro e w2 ⟨rfl, hb2⟩
    go_wp2_with fail
    go_ret
    exact ⟨some ⟨w.heap.size, 0, none⟩, ps.length, by rw [← HL.out]; rfl, by rw [← HW.out]; exact HT.out.below hb2, HA.out.trans (hb2.mono HA.out.size)⟩

/-! ### line.Sequence -/
theorem info_rune : (Tryz.prog.info? 21).map (fun i => (i.zero, i.size, i.bytes)) = some (some (.int .i32 0), 1, 4) := by kernel_rfl
def runes (l : List Int) : List Value := l.map fun x => Value.int .i32 x
theorem runes_snoc (l : List Int) (i : Nat) (x : Int) (h : l[i]? = some x) : runes (l.take (i + 1)) = runes (l.take i) ++ [Value.int .i32 x] := by
  rw [take_snoc' l i _ h]
  simp [runes]

def SeqPost (l : List Int) (w : World) (e : Ending) (w' : World) : Prop := ∃ a c, e = .returned (.tuple #[.slice a l.length c, .int .i64 0, .int .i64 0]) ∧ Rs w' a l ∧ Below w.heap.size w w'

set_option maxRecDepth 100000 in
set_option maxHeartbeats 2000000 in
theorem sequence_any (l : List Int) (w : World) (hl : l.length ≤ 1048576) (hb : l.any badRune = false) (hQ : Quick w) :
    Calls Tryz.prog 12 #[.string ⟨(tellText l).toArray⟩] w (SeqPost l w) := by
  have htl := tell_len l hb
  have HW := Lib.hid (words_any l w (by omega) hQ)
  have HB := Lib.hid hb
  obtain ⟨i0, hi, hz0, hz1, hz2⟩ := info_parts info_rune
  clear hQ hb htl
  go_enter Tryz.func12, Tryz.ntmps12
  go_wp2_with fail
  refine HW.out.mono ?_
  rintro e w1 ⟨a, c, rfl, hst, hbw⟩
  have HST := Lib.hid hst
  clear hst HW
  go_wp2_with fail
  go_loopw [5, 13] (fun u v w' => ∃ (i : Nat), v = .int .i64 i ∧ i ≤ l.length ∧ w'.ownsRow w1.heap.size 21 1 u i (runes (l.take i)) ∧ Below w1.heap.size w1 w') (fun _ v _ => l.length - (intOf v).toNat)
  case atStart => exact ⟨0, rfl, Nat.zero_le _, World.ownsRow_nil _ _ _ _, Below.refl _ _⟩
  case round =>
    obtain ⟨i, rfl, hi', hown, hb1⟩ := hrel
    by_cases hlt : i < l.length
    · obtain ⟨x, hx⟩ : ∃ x, l[i]? = some x := ⟨_, List.getElem?_eq_getElem hlt⟩
      have hbx : badRune x = false := by
        have := List.any_eq_false.1 HB.out x (List.mem_of_getElem? hx)
        simpa using this
      have hx2 : 0 ≤ x ∧ x ≤ 1114111 := by
        unfold badRune at hbx
        rw [Bool.or_eq_false_iff] at hbx
        have h1 := of_decide_eq_false hbx.1
        have h2 := of_decide_eq_false hbx.2
        omega
      obtain ⟨n, rfl⟩ := Int.eq_ofNat_of_zero_le hx2.1
      rcases HST.out.below hb1 with h0 | ⟨bk, of, rfl, _, hc⟩
      · have : l = [] := List.map_eq_nil_iff.1 h0
        subst this
        simp at hlt
      have hcell := hc i (word n) (by rw [List.getElem?_map, hx]; rfl)
      have HP := Lib.hid (fun W => point_any (word n) n W rfl (by omega))
      have hsn := Lib.hid (runes_snoc l i n hx)
      generalize word n = wd at *
      clear hc hx hbx
      go_wp2_with (first
        | (go_at_call 13; refine (HP.out _).mono ?_; rintro e w3 ⟨rfl, rfl⟩)
        | (at_builtin; refine wpList_append_own _ rfl _ _ 25 rfl w1.heap.size 21 i0 (.int .i32 0) 1 4 Tryz.underlying25 hi hz0 hz1 hz2 rfl (by decide) _ _ _ rfl (hown.alloc _) ⟨wr.heap.size, 0, none⟩ 1 1 [.int .i32 (n : Int)] rfl rfl ?c1 ?c2 ?c3 ?c4 ?c5 ?_))
      case c1 => intro j u hu; cases j with | zero => cases hu; rw [Lib.add_plain]; exact World.cell?_alloc_new _ _ _ _ | succ j => cases hu
      case c2 => intro u hu; simp only [List.mem_singleton] at hu; subst hu; rfl
      case c3 => unfold maxLen; omega
      case c4 => omega
      case c5 => have := hb1.size; simp; omega
      intro v' w4 hown4 hgrow hv'
      have hbw4 : Below w1.heap.size w1 w4 := (hb1.alloc hb1.size _).grown hgrow (by have := hb1.size; simp; omega) (fun k hk => (hown.lt k hk).1)
      have hown5 : w4.ownsRow w1.heap.size 21 1 v' (i + 1) (runes (l.take (i + 1))) := by
        rw [hsn.out]
        exact hown4
      clear hown4 hgrow hown hb1 hv'
      go_wp2
      go_roundw
      case rel => exact ⟨i + 1, by go_num, by omega, hown5, hbw4⟩
      case measure => simp [intOf]; omega
    · obtain rfl : i = l.length := by omega
      rw [List.take_length] at hown
      have hb2 := hbw.trans (hb1.mono hbw.size)
      rcases hown.2 with ⟨rfl, h0⟩ | ⟨g, cap, cur, rfl, hg, hcur, hnc, hcm, hcs, htk⟩
      · have hl0 : l = [] := List.length_eq_zero_iff.1 h0
        subst hl0
        go_wp2
        go_ret3
        exact ⟨none, 0, rfl, .inl rfl, hb2⟩
      · have hrs : Rs wr (some ⟨g, 0, none⟩) l := .inr ⟨g, 0, rfl, block_lt hcur, fun j x hx => by
          have hc := hown.cells (g := g) rfl j (.int .i32 x) (by unfold runes; rw [List.getElem?_map, hx]; rfl)
          rw [Lib.add_plain] at hc
          exact hc⟩
        clear hown htk hcur hcs
        go_wp2
        go_ret3
        exact ⟨some ⟨g, 0, none⟩, cap, rfl, hrs, hb2⟩
end Go.Proofs.YtleadeaahlmmiaaGreatDoor.Seq
