/- The walk of line.cut. -/
import Derived.Test.YtgdambmineeboaaGreatDoorBBookA
import Derived.Test.YtgdambmineeboaaGreatDoorBOf
import Derived.Deep.RegionLaw
import Derived.Deep.RegionWith
set_option linter.unusedSimpArgs false
set_option linter.unusedVariables false
namespace Go.Proofs.YtgdambmineeboaaGreatDoor.Cut
open Go.RowKit Go.Lib Go.Proofs.YtgdambmineeboaaGreatDoor.Text Go.Proofs.YtgdambmineeboaaGreatDoor.Runes Go.Proofs.YtgdambmineeboaaGreatDoor.Print Go.Proofs.YtgdambmineeboaaGreatDoor.RefNine Go.Proofs.YtgdambmineeboaaGreatDoor.RefPrint Go.Proofs.YtgdambmineeboaaGreatDoor.Format Go.Proofs.YtgdambmineeboaaGreatDoor.Tell Go.Proofs.YtgdambmineeboaaGreatDoor.Given Go.Proofs.YtgdambmineeboaaGreatDoor.Split

def CutPost (num : Int) (b : List UInt8) (w : World) (e : Ending) (w' : World) : Prop :=
  ∃ a c l, l.map (·.data.toList) = lineFields b ∧ e = .returned (.tuple #[.agg #[.int .i64 num, .slice a l.length c, .string ⟨(lineNote b).toArray⟩], .bool (lineSome b)]) ∧ Strs w' a l ∧ Below w.heap.size w w' ∧ l.length ≤ c

/-- The pieces' trimmed texts, as values. -/
def trimmed (ps : List ByteArray) : List Value := ps.map fun p => Value.string ⟨(Lib.trimS p.data.toList [32, 9]).toArray⟩
theorem trimmed_snoc (ps : List ByteArray) (i : Nat) (p : ByteArray) (h : ps[i]? = some p) : trimmed (ps.take (i + 1)) = trimmed (ps.take i) ++ [Value.string ⟨(Lib.trimS p.data.toList [32, 9]).toArray⟩] := by
  unfold trimmed
  have : ps.take (i + 1) = ps.take i ++ [p] := by
    rw [List.take_add_one, h]; rfl
  rw [this, List.map_append]
  rfl

/-- The variable that says up to where the quick search goes. -/
def Quick (w : World) : Prop := (∃ m, w.cell? ⟨2, 0, none⟩ = some (.int .i64 m)) ∧ 2 < w.heap.size
theorem Quick.below {w w' : World} (h : Quick w) (hb : Below w.heap.size w w') : Quick w' :=
  ⟨h.1.elim fun m hm => ⟨m, (hb.cell (p := ⟨2, 0, none⟩) h.2).trans hm⟩, Nat.lt_of_lt_of_le h.2 hb.size⟩

theorem cutStr (s sep : ByteArray) (W : World) (hs : s.size ≤ 1073741824) (hQ : Quick W) : Calls Tryz.prog 93 #[.string s, .string sep] W fun e w' =>
    e = .returned (.tuple #[.string ⟨(Lib.cut s.data.toList sep.data.toList).1.toArray⟩, .string ⟨(Lib.cut s.data.toList sep.data.toList).2.1.toArray⟩, .bool (Lib.cut s.data.toList sep.data.toList).2.2]) ∧ Below W.heap.size W w' := by
  obtain ⟨m, hm⟩ := hQ.1
  refine (Tryz.strings_Cut s sep m W (by omega) hm).mono ?_
  rintro e w' ⟨rfl, n, rfl⟩
  exact ⟨rfl, rfl, rfl, rfl, Nat.le_refl _, fun _ _ => rfl⟩

theorem cut_le (s sep : List UInt8) : (Lib.cut s sep).1.length ≤ s.length ∧ (Lib.cut s sep).2.1.length ≤ s.length := by
  unfold Lib.cut
  split
  · simp only [List.length_take, List.length_drop]; omega
  · simp
theorem body_le (b : List UInt8) : (body b).length ≤ b.length := by
  unfold body Lib.trimSuffix
  split
  · simp only [List.length_take]; omega
  · exact Nat.le_refl _
theorem ba_size (l : List UInt8) : (⟨l.toArray⟩ : ByteArray).size = l.length := by rw [← size_data]

structure Told (b : ByteArray) (b1 d nt n1 : ByteArray) (fl : Bool) (ps : List ByteArray) : Prop where
  h1 : ∀ W, Calls Tryz.prog 146 #[.string b, .string ⟨#[13]⟩] W fun e w' => e = .returned (.string b1) ∧ w' = W
  h2 : ∀ W, Quick W → Calls Tryz.prog 93 #[.string b1, .string ⟨#[35]⟩] W fun e w' => e = .returned (.tuple #[.string d, .string nt, .bool fl]) ∧ Below W.heap.size W w'
  h3 : ∀ W, Calls Tryz.prog 147 #[.string nt, .string ⟨#[32, 9]⟩] W fun e w' => e = .returned (.string n1) ∧ Below W.heap.size W w'
  h4 : ∀ W, Quick W → Calls Tryz.prog 148 #[.string d, .string ⟨#[59]⟩] W fun e w' => e = .returned (.slice (some ⟨W.heap.size, 0, none⟩) ps.length ps.length) ∧ w' = W.alloc (.cells (ps.map Value.string).toArray 9)
  h5 : ∀ p ∈ ps, ∀ W, Calls Tryz.prog 147 #[.string p, .string ⟨#[32, 9]⟩] W fun e w' => e = .returned (.string ⟨(Lib.trimS p.data.toList [32, 9]).toArray⟩) ∧ Below W.heap.size W w'
  h6 : n1 = ⟨(lineNote b.data.toList).toArray⟩
  h7 : (ps.map fun p => Lib.trimS p.data.toList [32, 9]) = lineFields b.data.toList
  h8 : ps ≠ []
  h9 : ps.length ≤ 1073741825

theorem ascii_blank' : ∀ c ∈ ([32, 9] : List UInt8), c.toNat < 128 := by decide

theorem told (b : ByteArray) (hs : b.size ≤ 1073741824) : ∃ b1 d nt n1 fl ps, Told b b1 d nt n1 fl ps := by
  have hb : b.data.toList.length ≤ 1073741824 := by rw [size_data]; exact hs
  have hbl := body_le b.data.toList
  have hcl := cut_le (body b.data.toList) [35]
  refine ⟨⟨(body b.data.toList).toArray⟩, ⟨(Lib.cut (body b.data.toList) [35]).1.toArray⟩, ⟨(Lib.cut (body b.data.toList) [35]).2.1.toArray⟩, ⟨(lineNote b.data.toList).toArray⟩, (Lib.cut (body b.data.toList) [35]).2.2,
    Lib.splitB ⟨#[59]⟩ 0 (Lib.countB ⟨(Lib.cut (body b.data.toList) [35]).1.toArray⟩ ⟨#[59]⟩) ⟨(Lib.cut (body b.data.toList) [35]).1.toArray⟩, ?_, ?_, ?_, ?_, ?_, rfl, ?_, ?_, ?_⟩
  · exact fun W => Tryz.strings_TrimSuffix b ⟨#[13]⟩ W (by omega)
  · exact fun W hQ => cutStr ⟨(body b.data.toList).toArray⟩ ⟨#[35]⟩ W (by rw [ba_size]; omega) hQ
  · exact fun W => Trim.trim_any _ ⟨#[32, 9]⟩ W (by rw [ba_size]; omega) (by decide) ascii_blank'
  · intro W hQ
    obtain ⟨m, hm⟩ := hQ.1
    refine (Tryz.strings_Split ⟨(Lib.cut (body b.data.toList) [35]).1.toArray⟩ ⟨#[59]⟩ m W (by rw [ba_size]; omega) hm (by decide)).mono ?_
    rintro e w' ⟨rfl, rfl⟩
    have hc := count_pieces 59 _ (Lib.cut (body b.data.toList) [35]).1 (Nat.le_refl _)
    rw [splitB_length]
    refine ⟨?_, rfl⟩
    show Ending.returned (.slice _ (Lib.count (Lib.cut (body b.data.toList) [35]).1 [59] + 1) (Lib.count (Lib.cut (body b.data.toList) [35]).1 [59] + 1)) = _
    rw [hc]
  · intro p hp W
    refine Trim.trim_any p ⟨#[32, 9]⟩ W ?_ (by decide) ascii_blank'
    have h1 := pieces_size 59 (Lib.cut (body b.data.toList) [35]).1 p.data.toList (by
      have := splitB_pieces 59 ⟨(Lib.cut (body b.data.toList) [35]).1.toArray⟩
      rw [← this]
      exact List.mem_map.2 ⟨p, hp, rfl⟩)
    rw [size_data] at h1
    omega
  · unfold lineFields
    have := splitB_pieces 59 ⟨(Lib.cut (body b.data.toList) [35]).1.toArray⟩
    rw [← this, List.map_map]
    rfl
  · intro e
    have := splitB_pieces 59 ⟨(Lib.cut (body b.data.toList) [35]).1.toArray⟩
    rw [e] at this
    exact pieces_ne _ _ this.symm
  · rw [splitB_length]
    have := pieces_le 59 (Lib.cut (body b.data.toList) [35]).1
    show (pieces 59 (Lib.cut (body b.data.toList) [35]).1).length ≤ _
    omega

structure Good (w : World) (num : Int) (n1 : ByteArray) (ps : List ByteArray) (bt : Nat) (sl : Value) (W : World) : Prop where
  bel : Below w.heap.size w W
  res : W.heap[w.heap.size]? = some (.cells #[.int .i64 0, .slice none 0 0, .string ⟨#[]⟩] 61 (0, 0))
  st : W.heap[bt]? = some (.cells #[.int .i64 num, sl, .string n1] 61 (0, 0))
  pc : W.heap[bt + 1]? = some (.cells (ps.map Value.string).toArray 9 (0, 0))
  far : w.heap.size < bt
  siz : bt + 1 < W.heap.size
theorem Good.next {w : World} {num : Int} {n1 : ByteArray} {ps : List ByteArray} {bt : Nat} {sl : Value} {W W' : World} (h : Good w num n1 ps bt sl W) (hb : Below W.heap.size W W') : Good w num n1 ps bt sl W' :=
  have hz := h.siz
  have hf := h.far
  ⟨h.bel.trans (hb.mono h.bel.size), (hb.block _ (by omega)).trans h.res, (hb.block _ (by omega)).trans h.st, (hb.block _ (by omega)).trans h.pc, hf, Nat.lt_of_lt_of_le hz hb.size⟩

theorem Good.after {w : World} {num : Int} {n1 : ByteArray} {ps : List ByteArray} {bt : Nat} {sl : Value} {W W' : World} (h : Good w num n1 ps bt sl W) (hge : ∀ k, sl.ownBlock = some k → bt + 2 ≤ k) (o : Obj)
    (hgrow : (W.alloc o).grownBy W' sl.ownBlock) (v : Value) : Good w num n1 ps bt v (W'.setCell ⟨bt, 1, none⟩ v) := by
  have hf := h.far
  have hz := h.siz
  have ne : ∀ k, k < bt + 2 → some k ≠ sl.ownBlock := fun k hk e => by have := hge k e.symm; omega
  refine ⟨?_, ?_, ?_, ?_, hf, ?_⟩
  · exact ((h.bel.alloc h.bel.size o).grown hgrow (by have := h.bel.size; simp; omega) (fun k hk => by have := hge k hk; omega)).setCell (p := ⟨bt, 1, none⟩) (Nat.le_of_lt hf) v
  · exact (Below.heap_setCell W' ⟨bt, 1, none⟩ v _ (by show w.heap.size ≠ bt; omega)).trans (grown_block hgrow ((heap_alloc_old W o (by omega)).trans h.res) (ne _ (by omega)))
  · exact block_set (i := 1) (v := v) (grown_block hgrow ((heap_alloc_old W o (by omega)).trans h.st) (ne _ (by omega)))
  · exact (Below.heap_setCell W' ⟨bt, 1, none⟩ v _ (by show bt + 1 ≠ bt; omega)).trans (grown_block hgrow ((heap_alloc_old W o (by omega)).trans h.pc) (ne _ (by omega)))
  · have := hgrow.size
    simp at this ⊢
    omega

theorem set3_keep (w : World) (b k : Nat) (v0 v1 v2 : Value) (h : k ≠ b) : ((((w.setCell ⟨b, 0, none⟩ v0).setCell ⟨b, 1, none⟩ v1).setCell ⟨b, 2, none⟩ v2).drew).heap[k]? = w.heap[k]? :=
  (Below.heap_setCell _ ⟨b, 2, none⟩ v2 k h).trans ((Below.heap_setCell _ ⟨b, 1, none⟩ v1 k h).trans (Below.heap_setCell _ ⟨b, 0, none⟩ v0 k h))

set_option maxRecDepth 100000 in
set_option maxHeartbeats 2000000 in
theorem cut_any (b : ByteArray) (num : Int) (w : World) (hs : b.size ≤ 1073741824) (hQ : Quick w) :
    Calls Tryz.prog 94 #[.string b, .int .i64 num] w (CutPost num b.data.toList w) := by
  obtain ⟨i0, hi, hz0, hz1, hz2⟩ := info_parts info_str
  obtain ⟨b1, d, nt, n1, fl, ps, ht⟩ := told b hs
  have HQ := Lib.hid hQ
  have HT := Lib.hid ht
  clear hQ ht
  go_enter Tryz.func94, Tryz.ntmps94
  go_wp2_with fail
  refine (HT.out.h1 _).mono ?_
  rintro e w1 ⟨rfl, rfl⟩
  go_wp2_with fail
  refine (HT.out.h2 _ (HQ.out.below ((Below.refl _ _).alloc (Nat.le_refl _) _))).mono ?_
  rintro e w1 ⟨rfl, hb1⟩
  go_wp2_with fail
  refine (HT.out.h3 _).mono ?_
  rintro e w2 ⟨rfl, hb2⟩
  go_wp2_with fail
  have hbw2 : Below w.heap.size w w2 := ((((Below.refl w.heap.size w).alloc (Nat.le_refl _) _).trans (hb1.mono (by simp))).trans (hb2.mono (Nat.le_trans (by simp) hb1.size)))
  have hres2 : w2.heap[w.heap.size]? = some (.cells #[.int .i64 0, .slice none 0 0, .string ⟨#[]⟩] 61 (0, 0)) :=
    (hb2.block _ (Nat.lt_of_lt_of_le (by simp) hb1.size)).trans ((hb1.block _ (by simp)).trans (heap_alloc_new _ _))
  have hlt2 : w.heap.size < w2.heap.size := block_lt hres2
  refine (HT.out.h4 _ (HQ.out.below (hbw2.alloc hbw2.size _))).mono ?_
  rintro e w3 ⟨rfl, rfl⟩
  have hg : Good w num n1 ps w2.heap.size (.slice none 0 0) ((w2.alloc (.cells #[.int .i64 num, .slice none 0 0, .string n1] 61 (0, 0))).alloc (.cells (ps.map Value.string).toArray 9 (0, 0))) := by
    have e1 : (w2.alloc (.cells #[.int .i64 num, .slice none 0 0, .string n1] 61 (0, 0))).heap.size = w2.heap.size + 1 := by simp
    have e2 := heap_alloc_new (w2.alloc (.cells #[.int .i64 num, .slice none 0 0, .string n1] 61 (0, 0))) (.cells (ps.map Value.string).toArray 9 (0, 0))
    rw [e1] at e2
    refine ⟨(hbw2.alloc hbw2.size _).alloc (by rw [e1]; omega) _, ?_, ?_, e2, hlt2, by simp⟩
    · exact (heap_alloc_old _ _ (by rw [e1]; omega)).trans ((heap_alloc_old _ _ hlt2).trans hres2)
    · exact (heap_alloc_old _ _ (by rw [e1]; omega)).trans (heap_alloc_new _ _)
  have e1 : (w2.alloc (.cells #[.int .i64 num, .slice none 0 0, .string n1] 61 (0, 0))).heap.size = w2.heap.size + 1 := by simp
  rw [e1]
  have hB : ((w2.alloc (.cells #[.int .i64 num, .slice none 0 0, .string n1] 61 (0, 0))).alloc (.cells (ps.map Value.string).toArray 9 (0, 0))).heap.size = w2.heap.size + 2 := by simp
  have h9 := HT.out.h9
  generalize ((w2.alloc (.cells #[.int .i64 num, .slice none 0 0, .string n1] 61 (0, 0))).alloc (.cells (ps.map Value.string).toArray 9 (0, 0))) = w3 at *
  generalize w2.heap.size = bt at *
  clear hb1 hb2 hbw2 hres2 e1
  go_wp2_with fail
  go_loopw [27] (fun v w' => ∃ (i : Nat) (sl : Value), v = .int .i64 i ∧ i ≤ ps.length ∧ w'.ownsRow (bt + 2) 9 1 sl i (trimmed (ps.take i)) ∧ Good w num n1 ps bt sl w') (fun v _ => ps.length - (intOf v).toNat)
  case atStart => exact ⟨0, _, rfl, Nat.zero_le _, World.ownsRow_nil _ _ _ _, hg⟩
  case round =>
    obtain ⟨i, sl, rfl, hi', hown, hG⟩ := hrel
    by_cases hlt : i < ps.length
    · obtain ⟨p, hp⟩ : ∃ p, ps[i]? = some p := ⟨_, List.getElem?_eq_getElem hlt⟩
      have hpc : wr.cell? ⟨bt + 1, i, none⟩ = some (.string p) := (block_cell (i := i) hG.pc).trans (by simp [hp])
      have hst1 : wr.cell? ⟨bt, 1, none⟩ = some sl := (block_cell (i := 1) hG.st).trans rfl
      have H5 := HT.out.h5 p (List.mem_of_getElem? hp)
      have hts := trimmed_snoc ps i p hp
      generalize (⟨(Lib.trimS p.data.toList [32, 9]).toArray⟩ : ByteArray) = tp at *
      have H5' := Lib.hid H5
      have HTS := Lib.hid hts
      clear H5 hts
      have hown1 := hown.drew
      have hG1 : Good w num n1 ps bt sl wr.drew := hG.next (Below.refl _ _).drew
      have hsz1 : bt + 2 ≤ wr.drew.heap.size := hG1.siz
      have hst1d : wr.drew.cell? ⟨bt, 1, none⟩ = some sl := (block_cell (i := 1) hG1.st).trans rfl
      have hlt1 : bt < wr.drew.heap.size := by omega
      have hne : some bt ≠ sl.ownBlock := fun h => by have := (hown.lt bt h.symm).1; omega
      have hne1 : some (bt + 1) ≠ sl.ownBlock := fun h => by have := (hown.lt _ h.symm).1; omega
      have hne0 : some w.heap.size ≠ sl.ownBlock := fun h => by have := (hown.lt _ h.symm).1; omega
      have hge : ∀ k, sl.ownBlock = some k → bt + 2 ≤ k := fun k hk => (hown.lt k hk).1
      clear hown
      go_wp2_with fail
      go_region_law ((first
        | (refine step_append_lies _ (by rfl) _ _ _ (by rfl) (bt + 2) 9 i0 _ 1 16 Tryz.underlying22 hi hz0 hz1 hz2 rfl (by omega) sl i (trimmed (ps.take i)) (by rfl) ((own_below hown1 hb5).alloc _)
            ⟨w5.heap.size, 0, none⟩ 1 1 [.string tp] (by rfl) (by simp) (World.news_of_block (heap_alloc_new w5 (.cells #[.string tp] 9 (0, 0)))) (by simp [Value.oneCell']) (by omega) (by unfold maxLen; omega) (by omega) (by simpa using Nat.le_succ_of_le (Nat.le_trans hsz1 hb5.size)) (w5.heap.size + 1) (by simp) ?_
           intro g cap w6 hown6 hgrow _ _
           have hG5 := hG1.next hb5
           have hblk := grown_block hgrow ((heap_alloc_old w5 (.cells #[.string tp] 9 (0, 0)) (block_lt hG5.st)).trans hG5.st) hne
           have f1 := block_free (i := 1) hblk
           have s1 := (block_cell (i := 1) hblk).trans rfl)
        | (go_simp; go_at_call 147; refine (H5'.out _).mono ?_; rintro e w5 ⟨rfl, hb5⟩; have q5 := (hb5.cell (p := ⟨bt, 1, none⟩) hlt1).trans hst1d; have q6 := (World.cell?_alloc_lt (w := w5) (o := .cells #[.string tp] 9 (0, 0)) (a := ⟨bt, 1, none⟩) (Nat.lt_of_lt_of_le hlt1 hb5.size)).trans q5)))
      all_goals
        have hG7 := hG5.after hge _ hgrow (.slice (some ⟨g, 0, none⟩) (i + 1) cap)
        have hown7 := ownsRow_setCell_below hown6 (a := ⟨bt, 1, none⟩) (by show bt < bt + 2; omega) (.slice (some ⟨g, 0, none⟩) (i + 1) cap)
        clear hgrow hblk f1 s1 hG5 q5 q6 hb5 hown6 hown1 hG1
        go_wp2
        go_roundw
        case rel => exact ⟨i + 1, _, by go_num, by omega, by rw [HTS.out]; exact hown7, hG7⟩
        case measure => simp [intOf]; omega
    · obtain rfl : i = ps.length := by omega
      rw [List.take_length] at hown
      have hpos : 0 < ps.length := by have := HT.out.h8; cases ps with | nil => exact absurd rfl this | cons => simp
      obtain ⟨g, cap, rfl, hgb, hgl⟩ := hown.form hpos
      have hcap : ps.length ≤ cap := by
        rcases hown.2 with ⟨h, _⟩ | ⟨g', cap', cur, h, _, _, hnc, _⟩
        · cases h
        · cases h; exact hnc
      have hstr : ∀ (j : Nat) x, (ps.map fun p => (⟨(Lib.trimS p.data.toList [32, 9]).toArray⟩ : ByteArray))[j]? = some x → wr.cell? ⟨g, 0 + j, none⟩ = some (.string x) := by
        intro j x hx
        have h1 : (trimmed ps)[j]? = some (.string x) := by
          unfold trimmed
          rw [List.getElem?_map] at hx ⊢
          cases hl : ps[j]? with
          | none => rw [hl] at hx; cases hx
          | some y => rw [hl] at hx; cases hx; rfl
        have hc := hown.cells (g := g) rfl j (.string x) h1
        rw [Lib.add_plain] at hc
        exact hc
      have hlen : (ps.map fun p => (⟨(Lib.trimS p.data.toList [32, 9]).toArray⟩ : ByteArray)).length = ps.length := List.length_map _
      have hfields : (ps.map fun p => (⟨(Lib.trimS p.data.toList [32, 9]).toArray⟩ : ByteArray)).map (·.data.toList) = lineFields b.data.toList := by
        rw [← HT.out.h7, List.map_map]; rfl
      have h6 := HT.out.h6
      generalize (ps.map fun p => (⟨(Lib.trimS p.data.toList [32, 9]).toArray⟩ : ByteArray)) = fs at *
      have hsome : lineSome b.data.toList = (decide (1 < fs.length) || !((fs.headD ⟨#[]⟩).data.toList).isEmpty) := by
        unfold lineSome
        rw [← hfields, List.length_map]
        cases fs <;> rfl
      obtain ⟨x, hx⟩ : ∃ x, fs[0]? = some x := ⟨_, List.getElem?_eq_getElem (by omega)⟩
      have hx0 := hstr 0 x hx
      have hhd : fs.headD ⟨#[]⟩ = x := by cases fs with | nil => cases hx | cons y r => cases hx; rfl
      rw [hhd] at hsome
      have c0 : wr.cell? ⟨bt, 0, none⟩ = some (.int .i64 num) := (block_cell (i := 0) hG.st).trans rfl
      have c1 : wr.cell? ⟨bt, 1, none⟩ = some (.slice (some ⟨g, 0, none⟩) ps.length cap) := (block_cell (i := 1) hG.st).trans rfl
      have c2 : wr.cell? ⟨bt, 2, none⟩ = some (.string n1) := (block_cell (i := 2) hG.st).trans rfl
      have hx0 : wr.cell? ⟨g, 0, none⟩ = some (.string x) := hx0
      have f0 := block_free (i := 0) hG.res
      have f1 := block_free (i := 1) hG.res
      have f2 := block_free (i := 2) hG.res
      have r0 : wr.cell? ⟨w.heap.size, 0, none⟩ = some (.int .i64 0) := (block_cell (i := 0) hG.res).trans rfl
      have r1 : wr.cell? ⟨w.heap.size, 1, none⟩ = some (.slice none 0 0) := (block_cell (i := 1) hG.res).trans rfl
      have r2 : wr.cell? ⟨w.heap.size, 2, none⟩ = some (.string ⟨#[]⟩) := (block_cell (i := 2) hG.res).trans rfl
      have d1 : ¬ w.heap.size = bt := by omega
      have d2 : ¬ w.heap.size = g := by omega
      have HG := Lib.hid hG
      have HS := Lib.hid hstr
      have HF := Lib.hid hfields
      have HM := Lib.hid hsome
      have H6 := Lib.hid h6
      have HL := Lib.hid hlen
      have HX := Lib.hid hx
      clear hstr hfields hsome hhd hx hG hown h6 hlen
      have hW : ∀ W2, W2 = ((((wr.setCell ⟨w.heap.size, 0, none⟩ (.int .i64 num)).setCell ⟨w.heap.size, 1, none⟩ (.slice (some ⟨g, 0, none⟩) ps.length cap)).setCell ⟨w.heap.size, 2, none⟩ (.string n1)).drew) →
          W2.heap[w.heap.size]? = some (.cells #[.int .i64 num, .slice (some ⟨g, 0, none⟩) ps.length cap, .string n1] 61 (0, 0)) ∧ Below w.heap.size w W2 ∧ Strs W2 (some ⟨g, 0, none⟩) fs := by
        rintro W2 rfl
        refine ⟨block_set (i := 2) (v := .string n1) (block_set (i := 1) (v := .slice (some ⟨g, 0, none⟩) ps.length cap) (block_set (i := 0) (v := .int .i64 num) HG.out.res)),
          (((HG.out.bel.setCell (p := ⟨w.heap.size, 0, none⟩) (Nat.le_refl _) _).setCell (p := ⟨w.heap.size, 1, none⟩) (Nat.le_refl _) _).setCell (p := ⟨w.heap.size, 2, none⟩) (Nat.le_refl _) _).drew, .inr ⟨g, 0, rfl, ?_, ?_⟩⟩
        · simpa using hgl
        · intro j y hy
          exact (World.cell?_of_block (a := ⟨g, 0 + j, none⟩) (set3_keep wr w.heap.size g _ _ _ (by omega))).trans (HS.out j y hy)
      have HW := Lib.hid hW
      have HCP := Lib.hid hcap
      clear hW hgb hgl hcap
      have hcase : (decide ((1 : Int) < (ps.length : Int)) = true ∧ lineSome b.data.toList = true) ∨ ((decide ((1 : Int) < (ps.length : Int)) = false ∧ x.toList = []) ∧ lineSome b.data.toList = false) ∨
          ((decide ((1 : Int) < (ps.length : Int)) = false ∧ x.toList.isEmpty = false) ∧ lineSome b.data.toList = true) := by
        rw [HM.out, HL.out]
        by_cases h1 : 1 < ps.length
        · exact .inl ⟨decide_eq_true (by omega), by rw [decide_eq_true h1]; rfl⟩
        · by_cases h2 : x.data.toList = []
          · exact .inr (.inl ⟨⟨decide_eq_false (by omega), by rw [ByteArray.toList_eq]; exact h2⟩, by rw [decide_eq_false h1, h2]; rfl⟩)
          · exact .inr (.inr ⟨⟨decide_eq_false (by omega), by rw [ByteArray.toList_eq]; exact List.isEmpty_eq_false_iff.2 h2⟩, by rw [List.isEmpty_eq_false_iff.2 h2, decide_eq_false h1]; rfl⟩)
      rcases hcase with ⟨e1, hb⟩ | ⟨⟨e1, e2⟩, hb⟩ | ⟨⟨e1, e2⟩, hb⟩
      all_goals
        have HB := Lib.hid hb
        clear hb
        go_wp2
        go_region
        go_wp2
        have hw2 := HW.out _ rfl
        generalize (((wr.setCell ⟨w.heap.size, 0, none⟩ (.int .i64 num)).setCell ⟨w.heap.size, 1, none⟩ (.slice (some ⟨g, 0, none⟩) ps.length cap)).setCell ⟨w.heap.size, 2, none⟩ (.string n1)).drew = W2 at *
        obtain ⟨hb3, hbw, hst⟩ := hw2
        have k0 : W2.cell? ⟨w.heap.size, 0, none⟩ = some (.int .i64 num) := (block_cell (i := 0) hb3).trans rfl
        have k1 : W2.cell? ⟨w.heap.size, 1, none⟩ = some (.slice (some ⟨g, 0, none⟩) ps.length cap) := (block_cell (i := 1) hb3).trans rfl
        have k2 : W2.cell? ⟨w.heap.size, 2, none⟩ = some (.string n1) := (block_cell (i := 2) hb3).trans rfl
        have hcap' := HL.out
        refine bodyPost_ret (v := .tuple #[.agg #[.int .i64 num, .slice (some ⟨g, 0, none⟩) ps.length cap, .string n1], .bool (lineSome b.data.toList)]) ?_ rfl ⟨some ⟨g, 0, none⟩, cap, fs, HF.out, by rw [hcap', H6.out], hst, hbw, by rw [hcap']; exact HCP.out⟩
        rw [HB.out]
        simp [results, Tryz.results94, go_sem, k0, k1, k2]
end Go.Proofs.YtgdambmineeboaaGreatDoor.Cut
