/- The walk of the statement's own helper 'given'. -/
import Derived.Test.YtleadeaahlmmiaaGreatDoorTell
import Derived.Tactics2
import Derived.WalkSpells
import Derived.StillTactics
import Derived.Laws.Pointers
import Derived.Deep.RegionHeld3
import Derived.Deep.AppendLies
import Derived.KernelRfl
namespace Go.Proofs.YtleadeaahlmmiaaGreatDoor.Given
open Go.RowKit Go.Lib Go.Proofs.YtleadeaahlmmiaaGreatDoor.Text Go.Proofs.YtleadeaahlmmiaaGreatDoor.Runes Go.Proofs.YtleadeaahlmmiaaGreatDoor.Print Go.Proofs.YtleadeaahlmmiaaGreatDoor.RefNine Go.Proofs.YtleadeaahlmmiaaGreatDoor.RefPrint Go.Proofs.YtleadeaahlmmiaaGreatDoor.Format Go.Proofs.YtleadeaahlmmiaaGreatDoor.Tell

def GivenPost (num : Int) (l : List ByteArray) (note : ByteArray) (w : World) (e : Ending) (w' : World) : Prop :=
  ∃ a' c', e = .returned (.agg #[.int .i64 num, .slice a' l.length c', .string note]) ∧ Strs w' a' l ∧ Below w.heap.size w w' ∧ l.length ≤ c'

theorem below_cell3 (w : World) (x y z : Obj) (a : Addr) (h : a.block < w.heap.size) : (((w.alloc x).alloc y).alloc z).cell? a = w.cell? a :=
  (World.cell?_alloc_lt (w := (w.alloc x).alloc y) (o := z) (a := a) (by simp; omega)).trans ((World.cell?_alloc_lt (w := w.alloc x) (o := y) (a := a) (by simp; omega)).trans (World.cell?_alloc_lt (w := w) (o := x) (a := a) h))
theorem block3 (w : World) (x y z : Obj) : (((w.alloc x).alloc y).alloc z).drew.heap[w.heap.size + 1]? = some y := by
  have h1 := heap_alloc_new (w.alloc x) y
  have h2 : (w.alloc x).heap.size = w.heap.size + 1 := by simp
  rw [h2] at h1
  have h3 : ((w.alloc x).alloc y).heap.size = w.heap.size + 2 := by simp
  exact (heap_alloc_old ((w.alloc x).alloc y) z (by rw [h3]; exact Nat.lt_succ_self _)).trans h1
/-- A block of a world before, as a whole, behind what has grown. -/
theorem grown_block {w w' : World} {row : Option Nat} {b : Nat} {cs : Array Value} {t : TypeId} (hg : w.grownBy w' row) (h : w.heap[b]? = some (.cells cs t (0, 0))) (hne : some b ≠ row) : w'.heap[b]? = some (.cells cs t (0, 0)) :=
  (hg.block b (block_lt h) hne).trans h

set_option maxRecDepth 100000 in
set_option maxHeartbeats 3200000 in
theorem given_some (num : Int) (bk o : Nat) (l : List ByteArray) (c : Nat) (note : ByteArray) (w : World) (hl : l.length ≤ 1048576) (hpos : 0 < l.length) (hbk : bk < w.heap.size)
    (hc : ∀ (j : Nat) x, l[j]? = some x → w.cell? ⟨bk, o + j, none⟩ = some (.string x)) :
    Calls Tryz.prog 7 #[.agg #[.int .i64 num, .slice (some ⟨bk, o, none⟩) l.length c, .string note]] w (GivenPost num l note w) := by
  obtain ⟨i0, hi, hz0, hz1, hz2⟩ := info_parts info_str
  have HC := Lib.hid hc
  clear hc
  have hown : ((((w.alloc (.cells #[.int .i64 num, .slice (some ⟨bk, o, none⟩) l.length c, .string note] 24 (0, 0))).alloc (.cells #[.int .i64 0, .slice none 0 0, .string ⟨#[]⟩] 32 (0, 0))).alloc (.cells #[] 9 (0, 0))).drew).ownsRow (w.heap.size + 2) 9 1 (.slice (some ⟨w.heap.size + 2, 0, none⟩) 0 0) 0 [] := by
    have := (World.ownsRow_made (base := w.heap.size + 2) (e := 9) (size := 1) ((w.alloc (.cells #[.int .i64 num, .slice (some ⟨bk, o, none⟩) l.length c, .string note] 24 (0, 0))).alloc (.cells #[.int .i64 0, .slice none 0 0, .string ⟨#[]⟩] 32 (0, 0))) #[] 0 (by simp) (by decide) rfl).drew
    simpa using this
  have HO := Lib.hid hown
  have hnw : ∀ j u, (l.map Value.string)[j]? = some u → ((((w.alloc (.cells #[.int .i64 num, .slice (some ⟨bk, o, none⟩) l.length c, .string note] 24 (0, 0))).alloc (.cells #[.int .i64 0, .slice none 0 0, .string ⟨#[]⟩] 32 (0, 0))).alloc (.cells #[] 9 (0, 0))).drew).cell? ((⟨bk, o, none⟩ : Addr).add j) = some u := by
    intro j u hu
    rw [Lib.add_plain]
    rw [World.drew_is_drewN, World.cell?_drewN, below_cell3 w _ _ _ _ hbk]
    rw [List.getElem?_map] at hu
    cases hl2 : l[j]? with
    | none => rw [hl2] at hu; cases hu
    | some y => rw [hl2] at hu; cases hu; exact HC.out j y hl2
  have HN := Lib.hid hnw
  clear hown hnw
  go_enter Tryz.func7, Tryz.ntmps7
  go_wp2
  go_region_held3 (fun w' => w'.cell? ⟨w.heap.size, 0, none⟩ = some (.int .i64 num) ∧ w'.cell? ⟨w.heap.size, 1, none⟩ = some (.slice (some ⟨bk, o, none⟩) l.length c) ∧ w'.cell? ⟨w.heap.size, 2, none⟩ = some (.string note))
    (first
      | go_keep
      | (go_split_ands
         refine ⟨?_, ?_, ?_⟩
         · (rw [hgrow.cell_far _ (by simp; omega) (by simp [Value.ownBlock])]; assumption)
         · (rw [hgrow.cell_far _ (by simp; omega) (by simp [Value.ownBlock])]; assumption)
         · (rw [hgrow.cell_far _ (by simp; omega) (by simp [Value.ownBlock])]; assumption)))
    ((refine step_append_lies _ (by rfl) _ _ _ (by rfl) (w.heap.size + 2) 9 i0 _ 1 16 Tryz.underlying22 hi hz0 hz1 hz2 rfl (by omega) (.slice (some ⟨w.heap.size + 2, 0, none⟩) 0 0) 0 [] (by rfl) HO.out
        ⟨bk, o, none⟩ l.length c (l.map Value.string) (by rfl) (by simp) HN.out (by simp [Value.oneCell'])
        hpos (by unfold maxLen; omega) (by omega) (by simp) (w.heap.size + 3) (by simp) ?_; intro gg cap w1 hown1 hgrow hat hlt; have hblk := grown_block (b := w.heap.size + 1) (cs := #[.int .i64 0, .slice none 0 0, .string ⟨#[]⟩]) (t := 32) hgrow (block3 _ _ _ _) (by simp [Value.ownBlock]); have s0 := (block_cell (i := 0) hblk).trans rfl; have s1 := (block_cell (i := 1) hblk).trans rfl; have s2 := (block_cell (i := 2) hblk).trans rfl; have f0 := block_free (i := 0) hblk; have f1 := block_free (i := 1) hblk; have f2 := block_free (i := 2) hblk))
  go_wp2
  have hb3 := block_set (i := 2) (v := .string note) (block_set (i := 1) (v := .slice (some ⟨gg, 0, none⟩) l.length cap) (block_set (i := 0) (v := .int .i64 num) hblk))
  have hbw : Below w.heap.size w (((w1.setCell ⟨w.heap.size + 1, 0, none⟩ (.int .i64 num)).setCell ⟨w.heap.size + 1, 1, none⟩ (.slice (some ⟨gg, 0, none⟩) l.length cap)).setCell ⟨w.heap.size + 1, 2, none⟩ (.string note)) :=
    ((((((((Below.refl w.heap.size w).alloc (Nat.le_refl _) _).alloc (by simp) _).alloc (by simp; omega) _).drew).grown hgrow (by simp; omega) (fun k hk => by simp [Value.ownBlock] at hk; omega)).setCell (by simp) _).setCell (by simp) _).setCell (by simp) _
  have hS : Strs (((w1.setCell ⟨w.heap.size + 1, 0, none⟩ (.int .i64 num)).setCell ⟨w.heap.size + 1, 1, none⟩ (.slice (some ⟨gg, 0, none⟩) l.length cap)).setCell ⟨w.heap.size + 1, 2, none⟩ (.string note)) (some ⟨gg, 0, none⟩) l := by
    have hown2 : w1.ownsRow (w.heap.size + 2) 9 1 (.slice (some ⟨gg, 0, none⟩) l.length cap) l.length (l.map Value.string) := by simpa using hown1
    have hown3 := ownsRow_setCell_below (ownsRow_setCell_below (ownsRow_setCell_below hown2 (a := ⟨w.heap.size + 1, 0, none⟩) (Nat.lt_succ_self _) (.int .i64 num)) (a := ⟨w.heap.size + 1, 1, none⟩) (Nat.lt_succ_self _) (.slice (some ⟨gg, 0, none⟩) l.length cap)) (a := ⟨w.heap.size + 1, 2, none⟩) (Nat.lt_succ_self _) (.string note)
    refine .inr ⟨gg, 0, rfl, (hown3.lt gg rfl).2, fun j x hx => ?_⟩
    have := hown3.cells (g := gg) rfl j (.string x) (by rw [List.getElem?_map, hx]; rfl)
    rw [Lib.add_plain, Nat.zero_add] at this
    rw [Nat.zero_add]
    exact this
  have hcap : l.length ≤ cap := by
    rcases hown1.2 with ⟨h, _⟩ | ⟨g', cap', cur, h, _, _, h2, _⟩
    · cases h
    · cases h; omega
  clear hown1 hgrow
  generalize ((w1.setCell ⟨w.heap.size + 1, 0, none⟩ (.int .i64 num)).setCell ⟨w.heap.size + 1, 1, none⟩ (.slice (some ⟨gg, 0, none⟩) l.length cap)).setCell ⟨w.heap.size + 1, 2, none⟩ (.string note) = W2 at *
  have c0 : W2.cell? ⟨w.heap.size + 1, 0, none⟩ = some (.int .i64 num) := (block_cell (i := 0) hb3).trans rfl
  have c1 : W2.cell? ⟨w.heap.size + 1, 1, none⟩ = some (.slice (some ⟨gg, 0, none⟩) l.length cap) := (block_cell (i := 1) hb3).trans rfl
  have c2 : W2.cell? ⟨w.heap.size + 1, 2, none⟩ = some (.string note) := (block_cell (i := 2) hb3).trans rfl
  refine bodyPost_ret (v := .agg #[.int .i64 num, .slice (some ⟨gg, 0, none⟩) l.length cap, .string note]) ?_ rfl ⟨_, _, rfl, hS, hbw, hcap⟩
  simp [results, Tryz.results7, go_sem, c0, c1, c2]

set_option maxRecDepth 100000 in
set_option maxHeartbeats 3200000 in
theorem given_nil (num : Int) (c : Nat) (note : ByteArray) (w : World) :
    Calls Tryz.prog 7 #[.agg #[.int .i64 num, .slice none 0 c, .string note]] w (GivenPost num [] note w) := by
  go_enter Tryz.func7, Tryz.ntmps7
  go_wp2
  go_region_held3 (fun w' => w'.cell? ⟨w.heap.size, 0, none⟩ = some (.int .i64 num) ∧ w'.cell? ⟨w.heap.size, 1, none⟩ = some (.slice none 0 c) ∧ w'.cell? ⟨w.heap.size, 2, none⟩ = some (.string note))
    (first
      | go_keep
      | fail)
    (first | fail)
  go_wp2
  have hb3 := block3 w (.cells #[.int .i64 num, .slice none 0 c, .string note] 24 (0, 0)) (.cells #[.int .i64 num, .slice (some ⟨w.heap.size + 1 + 1, 0, none⟩) 0 0, .string note] 32 (0, 0)) (.cells #[] 9 (0, 0))
  have hbw : Below w.heap.size w (((w.alloc (.cells #[.int .i64 num, .slice none 0 c, .string note] 24 (0, 0))).alloc (.cells #[.int .i64 num, .slice (some ⟨w.heap.size + 1 + 1, 0, none⟩) 0 0, .string note] 32 (0, 0))).alloc (.cells #[] 9 (0, 0))).drew :=
    ((((Below.refl w.heap.size w).alloc (Nat.le_refl _) _).alloc (by simp) _).alloc (by simp; omega) _).drew
  generalize (((w.alloc (.cells #[.int .i64 num, .slice none 0 c, .string note] 24 (0, 0))).alloc (.cells #[.int .i64 num, .slice (some ⟨w.heap.size + 1 + 1, 0, none⟩) 0 0, .string note] 32 (0, 0))).alloc (.cells #[] 9 (0, 0))).drew = W2 at *
  have c0 : W2.cell? ⟨w.heap.size + 1, 0, none⟩ = some (.int .i64 num) := (block_cell (i := 0) hb3).trans rfl
  have c1 : W2.cell? ⟨w.heap.size + 1, 1, none⟩ = some (.slice (some ⟨w.heap.size + 1 + 1, 0, none⟩) 0 0) := (block_cell (i := 1) hb3).trans rfl
  have c2 : W2.cell? ⟨w.heap.size + 1, 2, none⟩ = some (.string note) := (block_cell (i := 2) hb3).trans rfl
  refine bodyPost_ret (v := .agg #[.int .i64 num, .slice (some ⟨w.heap.size + 1 + 1, 0, none⟩) 0 0, .string note]) ?_ rfl ⟨_, _, rfl, .inl rfl, hbw, Nat.le_refl _⟩
  simp [results, Tryz.results7, go_sem, c0, c1, c2]

set_option maxRecDepth 100000 in
set_option maxHeartbeats 3200000 in
theorem given_empty (num : Int) (a : Addr) (c : Nat) (note : ByteArray) (w : World) :
    Calls Tryz.prog 7 #[.agg #[.int .i64 num, .slice (some a) 0 c, .string note]] w (GivenPost num [] note w) := by
  go_enter Tryz.func7, Tryz.ntmps7
  go_wp2
  go_region_held3 (fun w' => w'.cell? ⟨w.heap.size, 0, none⟩ = some (.int .i64 num) ∧ w'.cell? ⟨w.heap.size, 1, none⟩ = some (.slice (some a) 0 c) ∧ w'.cell? ⟨w.heap.size, 2, none⟩ = some (.string note))
    (first
      | go_keep
      | fail)
    (first | fail)
  go_wp2
  have hb3 := block3 w (.cells #[.int .i64 num, .slice (some a) 0 c, .string note] 24 (0, 0)) (.cells #[.int .i64 num, .slice (some ⟨w.heap.size + 1 + 1, 0, none⟩) 0 0, .string note] 32 (0, 0)) (.cells #[] 9 (0, 0))
  have hbw : Below w.heap.size w (((w.alloc (.cells #[.int .i64 num, .slice (some a) 0 c, .string note] 24 (0, 0))).alloc (.cells #[.int .i64 num, .slice (some ⟨w.heap.size + 1 + 1, 0, none⟩) 0 0, .string note] 32 (0, 0))).alloc (.cells #[] 9 (0, 0))).drew :=
    ((((Below.refl w.heap.size w).alloc (Nat.le_refl _) _).alloc (by simp) _).alloc (by simp; omega) _).drew
  generalize (((w.alloc (.cells #[.int .i64 num, .slice (some a) 0 c, .string note] 24 (0, 0))).alloc (.cells #[.int .i64 num, .slice (some ⟨w.heap.size + 1 + 1, 0, none⟩) 0 0, .string note] 32 (0, 0))).alloc (.cells #[] 9 (0, 0))).drew = W2 at *
  have c0 : W2.cell? ⟨w.heap.size + 1, 0, none⟩ = some (.int .i64 num) := (block_cell (i := 0) hb3).trans rfl
  have c1 : W2.cell? ⟨w.heap.size + 1, 1, none⟩ = some (.slice (some ⟨w.heap.size + 1 + 1, 0, none⟩) 0 0) := (block_cell (i := 1) hb3).trans rfl
  have c2 : W2.cell? ⟨w.heap.size + 1, 2, none⟩ = some (.string note) := (block_cell (i := 2) hb3).trans rfl
  refine bodyPost_ret (v := .agg #[.int .i64 num, .slice (some ⟨w.heap.size + 1 + 1, 0, none⟩) 0 0, .string note]) ?_ rfl ⟨_, _, rfl, .inl rfl, hbw, Nat.le_refl _⟩
  simp [results, Tryz.results7, go_sem, c0, c1, c2]

theorem given_any (num : Int) (a : Option Addr) (l : List ByteArray) (c : Nat) (note : ByteArray) (w : World) (hl : l.length ≤ 1048576) (hS : Strs w a l) :
    Calls Tryz.prog 7 #[.agg #[.int .i64 num, .slice a l.length c, .string note]] w (GivenPost num l note w) := by
  rcases l with _ | ⟨x, r⟩
  · cases a with
    | none => exact given_nil num c note w
    | some ad => exact given_empty num ad c note w
  · rcases hS with h | ⟨bk, o, rfl, hbk, hc⟩
    · cases h
    · exact given_some num bk o (x :: r) c note w hl (by simp) hbk hc
end Go.Proofs.YtleadeaahlmmiaaGreatDoor.Given
