/- The walk of book.Read at the text of a book. -/
import Derived.Test.YtgdambmineeboaaGreatDoorBStep
import Derived.Test.YtgdambmineeboaaGreatDoorBLns
import Derived.Test.YtgdambmineeboaaGreatDoorBLines3
import Derived.Test.YtgdambmineeboaaGreatDoorBBookA
import Derived.Outline
set_option linter.unusedSimpArgs false
set_option linter.unusedVariables false
namespace Go.Proofs.YtgdambmineeboaaGreatDoor.Read10
open Go.RowKit Go.Lib Go.Shelf Go.Proofs.YtgdambmineeboaaGreatDoor.Text Go.Proofs.YtgdambmineeboaaGreatDoor.Runes Go.Proofs.YtgdambmineeboaaGreatDoor.Print Go.Proofs.YtgdambmineeboaaGreatDoor.RefNine Go.Proofs.YtgdambmineeboaaGreatDoor.RefPrint Go.Proofs.YtgdambmineeboaaGreatDoor.Format Go.Proofs.YtgdambmineeboaaGreatDoor.Tell Go.Proofs.YtgdambmineeboaaGreatDoor.Given Go.Proofs.YtgdambmineeboaaGreatDoor.Mem Go.Proofs.YtgdambmineeboaaGreatDoor.Book Go.Proofs.YtgdambmineeboaaGreatDoor.Split Go.Proofs.YtgdambmineeboaaGreatDoor.Cut Go.Proofs.YtgdambmineeboaaGreatDoor.Lines Go.Proofs.YtgdambmineeboaaGreatDoor.Loop Go.Proofs.YtgdambmineeboaaGreatDoor.Lines2 Go.Proofs.YtgdambmineeboaaGreatDoor.Lines3 Go.Proofs.YtgdambmineeboaaGreatDoor.RSt Go.Proofs.YtgdambmineeboaaGreatDoor.Kinds Go.Proofs.YtgdambmineeboaaGreatDoor.Lns Go.Proofs.YtgdambmineeboaaGreatDoor.Step
attribute [local go_sem] Oper.semAt_some
/-- A line, whichever, taken. -/
theorem step_any {RB MB base : Nat} {w0 : World} (G : Step.Ground RB MB base w0) (B : Mem.Book) (hlen : ∀ i, lnB B i ≤ 1048575) (W : World) (h : RSB RB base w0 B W) (hz : base ≤ W.heap.size) (num : Int) (note : ByteArray) (ad : Option Addr) (c : Nat) (l : Ln) (hok : LnOk l) (hst : Strs W ad l.fields) (hc : l.fields.length ≤ c) :
  Calls Tryz.prog 39 #[.map (some MB), .pointer (some ⟨RB, 0, none⟩), .agg #[.int .i64 num, .slice ad l.fields.length c, .string note]] W fun e w' => e = .returned (.int .i64 0) ∧ Took RB base w0 (addLn B l) W w' := by
 cases l with
 | st x => exact step_st G B hlen W h hz num note ad c x (by obtain ⟨_, h1, h2⟩ := hok; omega) hok.1 _ rfl hc hst
 | mp x => exact step_mp G B hlen W h hz num note ad c x hok.1 hok.2.1 _ rfl hc hst
 | cl x => exact step_cl G B hlen W h hz num note ad c x hok.1 hok.2 _ rfl hc hst
 | de x => exact step_de G B hlen W h hz num note ad c x hok.1 hok.2.1 _ rfl hc hst
 | ex x => exact step_ex G B hlen W h hz num note ad c x hok _ rfl hc hst
 | bi x => exact step_bi G B hlen W h hz num note ad c x hok.1 (by have := hok.2; omega) _ rfl hc hst
 | jo x => exact step_jo G B hlen W h hz num note ad c x hok.1 (by have := hok.2; omega) _ rfl hc hst
 | ma x => exact step_ma G B hlen W h hz num note ad c x hok _ rfl hc hst
 | sc a b s => exact step_sc G B hlen W h hz num note ad c a b s hok.1 hok.2 _ rfl hc hst
 | li x => exact step_li G B hlen W h hz num note ad c x hok.1 hok.2.1 _ rfl hc hst
theorem lnB_add (B : Mem.Book) (l : Ln) (i : Nat) : lnB (addLn B l) i ≤ lnB B i + 1 := by
 by_cases hi : i < 11
 ·cases l <;> rcases eleven hi with rfl | rfl | rfl | rfl | rfl | rfl | rfl | rfl | rfl | rfl | rfl <;> simp only [lnB, addLn, List.length_append, List.length_singleton] <;> first | omega | (split <;> simp)
 ·match i, hi with
  | i + 11, _ => exact Nat.zero_le _
theorem lnB_fold : ∀ (ls : List Ln) (B : Mem.Book) (i : Nat), lnB (ls.foldl addLn B) i ≤ lnB B i + ls.length
 | [], B, i => by simp
 | l :: ls, B, i => by
  have h1 := lnB_fold ls (addLn B l) i
  have h2 := lnB_add B l i
  rw [List.foldl_cons, List.length_cons]
  omega
theorem lnB_empty (i : Nat) : lnB emptyB i = 0 := by
 by_cases hi : i < 11
 ·rcases eleven hi with rfl | rfl | rfl | rfl | rfl | rfl | rfl | rfl | rfl | rfl | rfl <;> rfl
 ·match i, hi with
  | i + 11, _ => rfl
theorem csB_empty (i : Nat) : csB emptyB [] [] [] i = [] := by
 by_cases hi : i < 11
 ·rcases eleven hi with rfl | rfl | rfl | rfl | rfl | rfl | rfl | rfl | rfl | rfl | rfl <;> rfl
 ·match i, hi with
  | i + 11, _ => rfl
theorem rsb_start {RB base : Nat} {w : World} (hb : w.heap[RB]? = some (.cells (boxA fun _ => .slice none 0 0) 27 (0, 0))) (hbase : w.heap.size ≤ base) : RSB RB base w emptyB w := by
 refine ⟨[], [], [], [], rfl, rfl, rfl, ?_, fun _ => .slice none 0 0, hb, fun i _ => ?_, ?_, ?_, ?_, block_lt hb, hbase⟩
 ·rintro r (h | h | h) <;> cases h
 ·rw [lnB_empty, csB_empty]
  exact World.ownsRow_nil _ _ _ _
 ·intro i j _ _ _ k hk
  cases hk
 ·intro r hr
  cases hr
 ·exact ⟨rfl, rfl, rfl, Nat.le_refl _, fun _ _ _ => rfl⟩
/-- What was read lies as a book. -/
theorem own_move {base : Nat} {V W : World} {e : TypeId} {k : Nat} {v : Value} {n : Nat} {xs : List Value} (h : V.ownsRow base e k v n xs) (hk : ∀ j, base ≤ j → W.heap[j]? = V.heap[j]?) : W.ownsRow base e k v n xs := by
 refine ⟨h.1, ?_⟩
 rcases h.2 with h2 | ⟨g, cap, cur, hv, hg, hc, r⟩
 ·exact .inl h2
 ·exact .inr ⟨g, cap, cur, hv, hg, (hk g hg).trans hc, r⟩
theorem rsb_lies {RB base : Nat} {w0 : World} {B : Mem.Book} {V : World} (h : RSB RB base w0 B V) : ∃ A : Ads, (∀ W : World, (∀ j, base ≤ j → W.heap[j]? = V.heap[j]?) → Lies W B A) ∧ V.heap[RB]? = some (.cells (slices B A).toArray 27 (0, 0)) ∧ B.names.length ≤ A.nc ∧ B.decomp.length ≤ A.dc := by
 obtain ⟨ms, ds, ls, rs, hm, hd, hl, hr, vs, hR⟩ := h
 have key : ∀ W : World, (∀ j, base ≤ j → W.heap[j]? = V.heap[j]?) → ∀ i, i < 11 → W.ownsRow base (tyL i) (szL i) (vs i) (lnB B i) (csB B ms ds ls i) := fun W hk i hi => own_move (hR.own i hi) hk
 have e2 : ms.length = B.maps.length := by rw [← hm, List.length_map]
 have e4 : ds.length = B.decomp.length := by rw [← hd, List.length_map]
 have e10 : ls.length = B.like.length := by rw [← hl, List.length_map]
 have vals : ∀ {α : Type} {enc : α → List Value} {k : Nat} (i : Nat) (l : List α), (∀ x, (enc x).length = k) → i < 11 → szL i = k → lnB B i = l.length → csB B ms ds ls i = flat enc l → ∃ a c, vs i = .slice a l.length c ∧ (∀ W : World, (∀ j, base ≤ j → W.heap[j]? = V.heap[j]?) → Tab k enc W a l) ∧ l.length ≤ c := fun {α enc k} i l hk hi hsz hln hcs => by
  have h0 := hR.own i hi
  rw [hsz, hln, hcs] at h0
  obtain ⟨a, c, h1, _, h3⟩ := tab_of_own hk h0
  refine ⟨a, c, h1, fun W hW => ?_, h3⟩
  have h4 := key W hW i hi
  rw [hsz, hln, hcs] at h4
  obtain ⟨a', c', h5, h6, _⟩ := tab_of_own hk h4
  rw [h1] at h5
  injection h5 with p q r
  rw [p]
  exact h6
 have t1 := vals 1 B.status encV_len (by decide) rfl rfl rfl
 have t2 := vals 2 ms encR_len (by decide) rfl e2.symm rfl
 have t3 := vals 3 B.cls encV_len (by decide) rfl rfl rfl
 have t4 := vals 4 ds encR_len (by decide) rfl e4.symm rfl
 have t5 := vals 5 B.excl encS_len (by decide) rfl rfl rfl
 have t6 := vals 6 B.bidi encV_len (by decide) rfl rfl rfl
 have t7 := vals 7 B.join encV_len (by decide) rfl rfl rfl
 have t8 := vals 8 B.marks encS_len (by decide) rfl rfl rfl
 have t9 := vals 9 B.script encV_len (by decide) rfl rfl rfl
 have t10 := vals 10 ls encR_len (by decide) rfl e10.symm rfl
 have t0 : ∃ a c, vs 0 = .slice a B.names.length c ∧ (∀ W : World, (∀ j, base ≤ j → W.heap[j]? = V.heap[j]?) → Strs W a B.names) ∧ B.names.length ≤ c := by
  rcases (hR.own 0 (by decide)).2 with ⟨hv, h0⟩ | ⟨g, cap, cur, hv, hg, hcur, hnc, _⟩
  ·have : B.names.length = 0 := h0
   exact ⟨none, 0, by rw [hv, this], fun W _ => .inl (List.length_eq_zero_iff.1 this), by omega⟩
  ·refine ⟨_, cap, hv, fun W hW => .inr ⟨g, 0, rfl, block_lt ((hW g hg).trans hcur), fun j x hx => ?_⟩, hnc⟩
   have := (key W hW 0 (by decide)).cells (g := g) (by rw [hv]; rfl) j (.string x) (by show (B.names.map Value.string)[j]? = _; rw [List.getElem?_map, hx]; rfl)
   rw [Lib.add_plain] at this
   exact this
 have hrr : ∀ W : World, (∀ j, base ≤ j → W.heap[j]? = V.heap[j]?) → ∀ r, r ∈ rs → Rs W r.ad r.is := fun W hW r hmem => by
  have ho := own_move (hR.rn r hmem) hW
  rcases ho.2 with ⟨_, h0⟩ | ⟨g, cap, cur, hv, hg, hcur, _⟩
  ·exact .inl (List.length_eq_zero_iff.1 h0)
  ·injection hv with h1 h2 h3
   refine .inr ⟨g, 0, h1, block_lt hcur, fun j x hx => ?_⟩
   have := ho.cells (g := g) (by rw [h1]; rfl) j (.int .i32 x) (by unfold runeV; rw [List.getElem?_map, hx]; rfl)
   rw [Lib.add_plain] at this
   exact this
 obtain ⟨a0, c0, v0, s0, n0⟩ := t0
 obtain ⟨a1, c1, v1, s1, n1⟩ := t1
 obtain ⟨a2, c2, v2, s2, n2⟩ := t2
 obtain ⟨a3, c3, v3, s3, n3⟩ := t3
 obtain ⟨a4, c4, v4, s4, n4⟩ := t4
 obtain ⟨a5, c5, v5, s5, n5⟩ := t5
 obtain ⟨a6, c6, v6, s6, n6⟩ := t6
 obtain ⟨a7, c7, v7, s7, n7⟩ := t7
 obtain ⟨a8, c8, v8, s8, n8⟩ := t8
 obtain ⟨a9, c9, v9, s9, n9⟩ := t9
 obtain ⟨a10, c10, v10, s10, n10⟩ := t10
 refine ⟨⟨a0, c0, a1, c1, a2, c2, a3, c3, a4, c4, a5, c5, a6, c6, a7, c7, a8, c8, a9, c9, a10, c10⟩, fun W hW => ⟨s0 W hW, s1 W hW, ⟨ms, s2 W hW, hm, fun r h => hrr W hW r (hr r (.inl h))⟩, s3 W hW, ⟨ds, s4 W hW, hd, fun r h => hrr W hW r (hr r (.inr (.inl h)))⟩, s5 W hW, s6 W hW, s7 W hW, s8 W hW, s9 W hW, ⟨ls, s10 W hW, hl, fun r h => hrr W hW r (hr r (.inr (.inr h)))⟩⟩, ?_, n0, by show B.decomp.length ≤ c4; omega⟩
 rw [hR.bx]
 unfold boxA slices
 rw [v0, v1, v2, v3, v4, v5, v6, v7, v8, v9, v10, e2, e4, e10]
theorem box_below {lo bx : Nat} {v : Value} {W W' : World} (h : Box lo W bx v) (hb : Below W.heap.size W W') : Box lo W' bx v := ⟨h.1, (hb.cell (p := ⟨bx, 0, none⟩) (World.block_lt_of_cell? _ _ h.2)).trans h.2⟩
theorem kat_below {lo MB : Nat} {W W' : World} (h : KAt lo W MB) (hm : MB < W.heap.size) (hb : Below W.heap.size W W') : KAt lo W' MB := by
 have hmb := hb.block MB hm
 constructor
 ·obtain ⟨bx, e, b⟩ := h.k_valid
  exact ⟨bx, entry_old e hmb, box_below b hb⟩
 ·obtain ⟨bx, e, b⟩ := h.k_ignored
  exact ⟨bx, entry_old e hmb, box_below b hb⟩
 ·obtain ⟨bx, e, b⟩ := h.k_deviation
  exact ⟨bx, entry_old e hmb, box_below b hb⟩
 ·obtain ⟨bx, e, b⟩ := h.k_mapped
  exact ⟨bx, entry_old e hmb, box_below b hb⟩
 ·obtain ⟨bx, br, e, b, r⟩ := h.k_class
  exact ⟨bx, br, entry_old e hmb, box_below b hb, box_below r hb⟩
 ·obtain ⟨bx, e, b⟩ := h.k_decomposed
  exact ⟨bx, entry_old e hmb, box_below b hb⟩
 ·obtain ⟨bx, e, b⟩ := h.k_excluded
  exact ⟨bx, entry_old e hmb, box_below b hb⟩
 ·obtain ⟨bx, br, bn, ad, c, e, b, r, q, bk, of, had, hc⟩ := h.k_bidi
  exact ⟨bx, br, bn, ad, c, entry_old e hmb, box_below b hb, box_below r hb, box_below q hb, bk, of, had, fun j x hx => (hb.cell (p := ⟨bk, of + j, none⟩) (World.block_lt_of_cell? _ _ (hc j x hx))).trans (hc j x hx)⟩
 ·obtain ⟨bx, br, bn, ad, c, e, b, r, q, bk, of, had, hc⟩ := h.k_joining
  exact ⟨bx, br, bn, ad, c, entry_old e hmb, box_below b hb, box_below r hb, box_below q hb, bk, of, had, fun j x hx => (hb.cell (p := ⟨bk, of + j, none⟩) (World.block_lt_of_cell? _ _ (hc j x hx))).trans (hc j x hx)⟩
 ·obtain ⟨bx, e, b⟩ := h.k_mark
  exact ⟨bx, entry_old e hmb, box_below b hb⟩
 ·obtain ⟨bx, br, e, b, r⟩ := h.k_script
  exact ⟨bx, br, entry_old e hmb, box_below b hb, box_below r hb⟩
 ·obtain ⟨bx, e, b⟩ := h.k_like
  exact ⟨bx, entry_old e hmb, box_below b hb⟩
theorem new_at' {w : World} {o : Obj} {k : Nat} (h : k = w.heap.size) : (w.alloc o).heap[k]? = some o := by subst h; exact heap_alloc_new _ _
theorem res_set (w : World) (n : Nat) (z0 z1 z2 z3 z4 z5 z6 z7 z8 z9 z10 v0 v1 v2 v3 v4 v5 v6 v7 v8 v9 v10 x0 y0 x y : Value) (h0 : w.heap[n]? = some (.cells #[z0, z1, z2, z3, z4, z5, z6, z7, z8, z9, z10] 27 (0, 0))) (h1 : w.heap[n + 1]? = some (.cells #[x0] 3 (0, 0))) (h2 : w.heap[n + 1 + 1]? = some (.cells #[y0] 35 (0, 0))) :
  (((((((((((((w.setCell ⟨n, 0, none⟩ v0).setCell ⟨n, 1, none⟩ v1).setCell ⟨n, 2, none⟩ v2).setCell ⟨n, 3, none⟩ v3).setCell ⟨n, 4, none⟩ v4).setCell ⟨n, 5, none⟩ v5).setCell ⟨n, 6, none⟩ v6).setCell ⟨n, 7, none⟩ v7).setCell ⟨n, 8, none⟩ v8).setCell ⟨n, 9, none⟩ v9).setCell ⟨n, 10, none⟩ v10).setCell ⟨n + 1, 0, none⟩ x).setCell ⟨n + 1 + 1, 0, none⟩ y).heap[n]? = some (.cells #[v0, v1, v2, v3, v4, v5, v6, v7, v8, v9, v10] 27 (0, 0)) ∧ (((((((((((((w.setCell ⟨n, 0, none⟩ v0).setCell ⟨n, 1, none⟩ v1).setCell ⟨n, 2, none⟩ v2).setCell ⟨n, 3, none⟩ v3).setCell ⟨n, 4, none⟩ v4).setCell ⟨n, 5, none⟩ v5).setCell ⟨n, 6, none⟩ v6).setCell ⟨n, 7, none⟩ v7).setCell ⟨n, 8, none⟩ v8).setCell ⟨n, 9, none⟩ v9).setCell ⟨n, 10, none⟩ v10).setCell ⟨n + 1, 0, none⟩ x).setCell ⟨n + 1 + 1, 0, none⟩ y).heap[n + 1]? = some (.cells #[x] 3 (0, 0)) ∧ (((((((((((((w.setCell ⟨n, 0, none⟩ v0).setCell ⟨n, 1, none⟩ v1).setCell ⟨n, 2, none⟩ v2).setCell ⟨n, 3, none⟩ v3).setCell ⟨n, 4, none⟩ v4).setCell ⟨n, 5, none⟩ v5).setCell ⟨n, 6, none⟩ v6).setCell ⟨n, 7, none⟩ v7).setCell ⟨n, 8, none⟩ v8).setCell ⟨n, 9, none⟩ v9).setCell ⟨n, 10, none⟩ v10).setCell ⟨n + 1, 0, none⟩ x).setCell ⟨n + 1 + 1, 0, none⟩ y).heap[n + 1 + 1]? = some (.cells #[y] 35 (0, 0)) ∧ (∀ k, k ≠ n → k ≠ n + 1 → k ≠ n + 1 + 1 → (((((((((((((w.setCell ⟨n, 0, none⟩ v0).setCell ⟨n, 1, none⟩ v1).setCell ⟨n, 2, none⟩ v2).setCell ⟨n, 3, none⟩ v3).setCell ⟨n, 4, none⟩ v4).setCell ⟨n, 5, none⟩ v5).setCell ⟨n, 6, none⟩ v6).setCell ⟨n, 7, none⟩ v7).setCell ⟨n, 8, none⟩ v8).setCell ⟨n, 9, none⟩ v9).setCell ⟨n, 10, none⟩ v10).setCell ⟨n + 1, 0, none⟩ x).setCell ⟨n + 1 + 1, 0, none⟩ y).heap[k]? = w.heap[k]?) ∧ (∀ m a, Below m a w → m ≤ n → Below m a (((((((((((((w.setCell ⟨n, 0, none⟩ v0).setCell ⟨n, 1, none⟩ v1).setCell ⟨n, 2, none⟩ v2).setCell ⟨n, 3, none⟩ v3).setCell ⟨n, 4, none⟩ v4).setCell ⟨n, 5, none⟩ v5).setCell ⟨n, 6, none⟩ v6).setCell ⟨n, 7, none⟩ v7).setCell ⟨n, 8, none⟩ v8).setCell ⟨n, 9, none⟩ v9).setCell ⟨n, 10, none⟩ v10).setCell ⟨n + 1, 0, none⟩ x).setCell ⟨n + 1 + 1, 0, none⟩ y)) := by
 obtain ⟨g1, g2, g3⟩ := set11 w n z0 z1 z2 z3 z4 z5 z6 z7 z8 z9 z10 v0 v1 v2 v3 v4 v5 v6 v7 v8 v9 v10 27 h0
 generalize (((((((((((w.setCell ⟨n, 0, none⟩ v0).setCell ⟨n, 1, none⟩ v1).setCell ⟨n, 2, none⟩ v2).setCell ⟨n, 3, none⟩ v3).setCell ⟨n, 4, none⟩ v4).setCell ⟨n, 5, none⟩ v5).setCell ⟨n, 6, none⟩ v6).setCell ⟨n, 7, none⟩ v7).setCell ⟨n, 8, none⟩ v8).setCell ⟨n, 9, none⟩ v9).setCell ⟨n, 10, none⟩ v10) = w1 at *
 have k1 := (g2 (n + 1) (by omega)).trans h1
 have k2 := (g2 (n + 1 + 1) (by omega)).trans h2
 refine ⟨?_, ?_, ?_, ?_, ?_⟩
 ·rw [Below.heap_setCell _ _ _ _ (show n ≠ n + 1 + 1 by omega), Below.heap_setCell _ _ _ _ (show n ≠ n + 1 by omega)]
  exact g1
 ·rw [Below.heap_setCell _ _ _ _ (show n + 1 ≠ n + 1 + 1 by omega)]
  exact block_set (i := 0) (v := x) k1
 ·exact block_set (i := 0) (v := y) ((Below.heap_setCell w1 ⟨n + 1, 0, none⟩ x (n + 1 + 1) (show n + 1 + 1 ≠ n + 1 by omega)).trans k2)
 ·intro k a b c
  rw [Below.heap_setCell _ _ _ _ (show k ≠ n + 1 + 1 from c), Below.heap_setCell _ _ _ _ (show k ≠ n + 1 from b)]
  exact g2 k a
 ·intro m a h hm
  exact ((g3 m a h hm).setCell (p := ⟨n + 1, 0, none⟩) (by show m ≤ n + 1; omega) x).setCell (p := ⟨n + 1 + 1, 0, none⟩) (by show m ≤ n + 1 + 1; omega) y
/-- The boxes of Read's results. -/
structure Res (n : Nat) (W : World) (ev : Int) : Prop where
 r0 : W.heap[n]? = some (.cells (boxA fun _ => .slice none 0 0) 27 (0, 0))
 r1 : W.heap[n + 1]? = some (.cells #[.int .i64 0] 3 (0, 0))
 r2 : W.heap[n + 1 + 1]? = some (.cells #[.int .i64 ev] 35 (0, 0))
theorem Res.keep {n : Nat} {W W' : World} {ev : Int} (h : Res n W ev) (hk : ∀ k, k < n + 1 + 1 + 1 → W'.heap[k]? = W.heap[k]?) : Res n W' ev :=
 ⟨(hk _ (by omega)).trans h.r0, (hk _ (by omega)).trans h.r1, (hk _ (by omega)).trans h.r2⟩
def nilAds : Ads := ⟨none, 0, none, 0, none, 0, none, 0, none, 0, none, 0, none, 0, none, 0, none, 0, none, 0, none, 0⟩
/-- What Read answers. -/
def ReadPost (ls : List Ln) (w : World) (e : Ending) (w' : World) : Prop :=
 ((ls.length ≤ 262144 ∧ ∃ A, e = .returned (.tuple #[bookV (ls.foldl addLn emptyB) A, .int .i64 0, .int .i64 0]) ∧ Lies w' (ls.foldl addLn emptyB) A ∧ (ls.foldl addLn emptyB).names.length ≤ A.nc ∧ (ls.foldl addLn emptyB).decomp.length ≤ A.dc) ∨
  (262144 < ls.length ∧ e = .returned (.tuple #[bookV emptyB nilAds, .int .i64 0, .int .i64 104]))) ∧ Below w.heap.size w w'
set_option maxRecDepth 100000 in
set_option maxHeartbeats 16000000 in
theorem read_in (s : ByteArray) (ls : List Ln) (w : World) (hok : ∀ l ∈ ls, LnOk l) (hs : s.data.toList = ls.flatMap Ln.text) (hz : s.size ≤ 1073741824) (hlen : ls.length ≤ 1048575) (hQ : Quick w) :
  CallsIn Fence.wide 8 Tryz.prog 10 #[.string s] w (ReadPost ls w) := by
 have HQ := Lib.hid hQ
 have HOK := Lib.hid hok
 have HRD : Hid (Reads 1 s.data.toList (ls.zipIdx 1 |>.map fun p => itOf p.2 p.1)) := Lib.hid (by rw [hs]; exact reads_lns ls 1 hok)
 have HIL : Hid ((ls.zipIdx 1 |>.map fun p => itOf p.2 p.1).length = ls.length) := Lib.hid (by simp)
 have HIT : Hid (∀ (i : Nat) l, ls[i]? = some l → (ls.zipIdx 1 |>.map fun p => itOf p.2 p.1)[i]? = some (itOf (1 + i) l)) := Lib.hid (fun i l h => by simp [h])
 generalize (ls.zipIdx 1 |>.map fun p => itOf p.2 p.1) = items at *
 clear hs hok hQ
 refine callsIn_of_wp_marks Tryz.func10 rfl trivial ?_ rfl
 simp only [Tryz.ntmps10, List.size_toArray, List.length_cons, List.length_nil, Nat.reduceAdd, Nat.reduceSub, Array.replicate_succ, Array.replicate_zero, List.push_toArray, List.append_toArray, List.nil_append, List.cons_append]
 gi_wp2_with fail
 refine ⟨trivial, (callsIn_wide.2 (lines_any _ _)).mono ?_⟩
 rintro e wl0 ⟨rfl, hwl⟩
 obtain ⟨n, hn⟩ : ∃ n, w.heap.size = n := ⟨_, rfl⟩
 have hl2 : wl0.heap.size = n + 1 + 1 + 1 + 1 + 1 := by rw [hwl]; simp [hn]
 have hres : Res n wl0 0 := by
  rw [hwl, ← hn]
  refine ⟨?_, ?_, ?_⟩
  ·exact (Below.heap_alloc _ _ _ (by simp; try omega)).trans ((Below.heap_alloc _ _ _ (by simp; try omega)).trans ((Below.heap_alloc _ _ _ (by simp; try omega)).trans ((Below.heap_alloc _ _ _ (by simp; try omega)).trans (heap_alloc_new _ _))))
  ·exact (Below.heap_alloc _ _ _ (by simp; try omega)).trans ((Below.heap_alloc _ _ _ (by simp; try omega)).trans ((Below.heap_alloc _ _ _ (by simp; try omega)).trans (new_at' (by simp))))
  ·exact (Below.heap_alloc _ _ _ (by simp; try omega)).trans ((Below.heap_alloc _ _ _ (by simp; try omega)).trans (new_at' (by simp)))
 have hln : wl0.heap[n + 1 + 1 + 1]? = some (.cells #[.int .i64 0] 3 (0, 0)) := by
  rw [hwl, ← hn]
  exact (Below.heap_alloc _ _ _ (by simp; try omega)).trans (new_at' (by simp))
 have hlsx : wl0.cell? ⟨n + 1 + 1 + 1 + 1, 0, none⟩ = some (.string s) := by
  have h1 : wl0.heap[n + 1 + 1 + 1 + 1]? = some (.cells #[.string s] 9 (0, 0)) := by
   rw [hwl, ← hn]
   exact new_at' (by simp)
  exact (block_cell (i := 0) h1).trans rfl
 have hbw : Below n w wl0 := by
  rw [hwl, ← hn]
  exact (((((Below.refl _ _).alloc (Nat.le_refl _) _).alloc (by simp) _).alloc (by simp; omega) _).alloc (by simp; omega) _).alloc (by simp; omega) _
 have hq0 : 2 < n := by rw [← hn]; exact HQ.out.2
 have HN := Lib.hid hn
 have hl1 : ((((w.alloc (.cells #[.slice none 0 0, .slice none 0 0, .slice none 0 0, .slice none 0 0, .slice none 0 0, .slice none 0 0, .slice none 0 0, .slice none 0 0, .slice none 0 0, .slice none 0 0, .slice none 0 0] 27 (0, 0))).alloc (.cells #[.int .i64 0] 3 (0, 0))).alloc (.cells #[.int .i64 0] 35 (0, 0))).alloc (.cells #[.int .i64 0] 3 (0, 0))).heap.size = n + 1 + 1 + 1 + 1 := by simp [hn]
 have HRES := Lib.hid hres
 have HBW := Lib.hid hbw
 have hQ0 : Quick wl0 := HQ.out.below (by rw [hn]; exact hbw)
 clear hwl hres hbw
 simp only [hn, hl1]
 clear hn hl1
 gi_wp2_with fail
 refine range_m0 262144 8 (by decide) (n + 1 + 1 + 1 + 1) n s items rfl hlsx (by omega) hQ0 hq0 (by omega) HRD.out hz rfl rfl
  (fun pre W => W.heap[n + 1 + 1 + 1]? = some (.cells #[.int .i64 (pre.length : Int)] 3 (0, 0)) ∧ Res n W (if pre.length ≤ 262144 then 0 else 104) ∧ Below n wl0 W)
  ?hI ⟨hln, HRES.out, Below.refl _ _⟩ ?body ?done ?stop
 case hI =>
  rintro pre A A' ⟨h1, h2, h3⟩ hg
  have hsz := h3.size
  exact ⟨(hg.block _ (by omega) (fun e => by injection e with e; omega)).trans h1, h2.keep (fun k hk => hg.block k (by omega) (fun e => by injection e with e; omega)), h3.grown hg (by omega) (fun k e => by injection e with e; omega)⟩
 case body =>
  rintro pre it ad c fs note W hpm ⟨hnW, hrW, hbW⟩ hst hfs hnt hc2 hpost hWz hbW2
  rw [if_pos hpm] at hrW
  have n0 : W.cell? ⟨n + 1 + 1 + 1, 0, none⟩ = some (.int .i64 (pre.length : Int)) := (block_cell (i := 0) hnW).trans rfl
  have f0 := block_free (i := 0) hnW
  have HNW := Lib.hid hnW
  have HRW := Lib.hid hrW
  have HBW' := Lib.hid hbW
  have hpi : (pre.length : Int) ≤ 262144 := by omega
  obtain ⟨pl, hpl⟩ : ∃ pl, pl = pre.length := ⟨_, rfl⟩
  rw [← hpl] at n0 hpi hpm
  have HPL := Lib.hid hpl
  clear hnW hrW hbW hst hfs hnt hc2 hpost hpl
  by_cases hm : pl < 262144
  ·have ht : decide (262144 < (pl : Int) + 1) = false := decide_eq_false (by omega)
   gi_wp2
   have hb3 : Below n W (W.setCell ⟨n + 1 + 1 + 1, 0, none⟩ (.int .i64 ((pl : Int) + 1))) := (Below.refl n W).setCell (p := ⟨n + 1 + 1 + 1, 0, none⟩) (by show n ≤ n + 1 + 1 + 1; omega) _
   have hk3 : ∀ k, k ≠ n + 1 + 1 + 1 → (W.setCell ⟨n + 1 + 1 + 1, 0, none⟩ (.int .i64 ((pl : Int) + 1))).heap[k]? = W.heap[k]? := fun k hk => Below.heap_setCell _ _ _ _ hk
   have hl3 : (pre ++ [it]).length ≤ 262144 := by rw [List.length_append, ← HPL.out]; show pl + 1 ≤ 262144; omega
   refine ⟨hl3, hk3 _ (by omega), hk3 _ (by omega), hb3, ?_, ?_, HBW'.out.trans hb3⟩
   ·have h5 := block_set (i := 0) (v := .int .i64 ((pl : Int) + 1)) HNW.out
    rw [show ((pre ++ [it]).length : Int) = (pl : Int) + 1 from by rw [List.length_append, ← HPL.out]; rfl]
    exact h5
   ·rw [if_pos hl3]
    exact HRW.out.keep fun k hk => hk3 k (by omega)
  ·have ht : decide (262144 < (pl : Int) + 1) = true := decide_eq_true (by omega)
   have z0 : W.cell? ⟨n, 0, none⟩ = some (.slice none 0 0) := (block_cell (i := 0) HRW.out.r0).trans rfl
   have fz0 := block_free (i := 0) HRW.out.r0
   have z1 : W.cell? ⟨n, 1, none⟩ = some (.slice none 0 0) := (block_cell (i := 1) HRW.out.r0).trans rfl
   have fz1 := block_free (i := 1) HRW.out.r0
   have z2 : W.cell? ⟨n, 2, none⟩ = some (.slice none 0 0) := (block_cell (i := 2) HRW.out.r0).trans rfl
   have fz2 := block_free (i := 2) HRW.out.r0
   have z3 : W.cell? ⟨n, 3, none⟩ = some (.slice none 0 0) := (block_cell (i := 3) HRW.out.r0).trans rfl
   have fz3 := block_free (i := 3) HRW.out.r0
   have z4 : W.cell? ⟨n, 4, none⟩ = some (.slice none 0 0) := (block_cell (i := 4) HRW.out.r0).trans rfl
   have fz4 := block_free (i := 4) HRW.out.r0
   have z5 : W.cell? ⟨n, 5, none⟩ = some (.slice none 0 0) := (block_cell (i := 5) HRW.out.r0).trans rfl
   have fz5 := block_free (i := 5) HRW.out.r0
   have z6 : W.cell? ⟨n, 6, none⟩ = some (.slice none 0 0) := (block_cell (i := 6) HRW.out.r0).trans rfl
   have fz6 := block_free (i := 6) HRW.out.r0
   have z7 : W.cell? ⟨n, 7, none⟩ = some (.slice none 0 0) := (block_cell (i := 7) HRW.out.r0).trans rfl
   have fz7 := block_free (i := 7) HRW.out.r0
   have z8 : W.cell? ⟨n, 8, none⟩ = some (.slice none 0 0) := (block_cell (i := 8) HRW.out.r0).trans rfl
   have fz8 := block_free (i := 8) HRW.out.r0
   have z9 : W.cell? ⟨n, 9, none⟩ = some (.slice none 0 0) := (block_cell (i := 9) HRW.out.r0).trans rfl
   have fz9 := block_free (i := 9) HRW.out.r0
   have z10 : W.cell? ⟨n, 10, none⟩ = some (.slice none 0 0) := (block_cell (i := 10) HRW.out.r0).trans rfl
   have fz10 := block_free (i := 10) HRW.out.r0
   have y1 : W.cell? ⟨n + 1, 0, none⟩ = some (.int .i64 0) := (block_cell (i := 0) HRW.out.r1).trans rfl
   have fy1 := block_free (i := 0) HRW.out.r1
   have y2 : W.cell? ⟨n + 1 + 1, 0, none⟩ = some (.int .i64 0) := (block_cell (i := 0) HRW.out.r2).trans rfl
   have fy2 := block_free (i := 0) HRW.out.r2
   gi_wp2
   have hb3 : Below n W (W.setCell ⟨n + 1 + 1 + 1, 0, none⟩ (.int .i64 ((pl : Int) + 1))) := (Below.refl n W).setCell (p := ⟨n + 1 + 1 + 1, 0, none⟩) (by show n ≤ n + 1 + 1 + 1; omega) _
   have hk3 : ∀ k, k ≠ n + 1 + 1 + 1 → (W.setCell ⟨n + 1 + 1 + 1, 0, none⟩ (.int .i64 ((pl : Int) + 1))).heap[k]? = W.heap[k]? := fun k hk => Below.heap_setCell _ _ _ _ hk
   have h5 := block_set (i := 0) (v := .int .i64 ((pl : Int) + 1)) HNW.out
   have hr3 := HRW.out.keep (W' := W.setCell ⟨n + 1 + 1 + 1, 0, none⟩ (.int .i64 ((pl : Int) + 1))) fun k hk => hk3 k (by omega)
   generalize W.setCell ⟨n + 1 + 1 + 1, 0, none⟩ (.int .i64 ((pl : Int) + 1)) = W3 at *
   obtain ⟨g0, g1, g2, g3, g4⟩ := res_set W3 n _ _ _ _ _ _ _ _ _ _ _ (.slice none 0 0) (.slice none 0 0) (.slice none 0 0) (.slice none 0 0) (.slice none 0 0) (.slice none 0 0) (.slice none 0 0) (.slice none 0 0) (.slice none 0 0) (.slice none 0 0) (.slice none 0 0) _ _ (.int .i64 0) (.int .i64 104) hr3.r0 hr3.r1 hr3.r2
   have hb4 := g4 n W hb3 (Nat.le_refl _)
   have hl3 : (pre ++ [it]).length = 262144 + 1 := by rw [List.length_append, ← HPL.out]; show pl + 1 = _; omega
   refine ⟨hl3, (g3 _ (by omega) (by omega) (by omega)).trans (hk3 _ (by omega)), (g3 _ (by omega) (by omega) (by omega)).trans (hk3 _ (by omega)), hb4, ?_, ?_, HBW'.out.trans hb4⟩
   ·rw [show ((pre ++ [it]).length : Int) = (pl : Int) + 1 from by rw [List.length_append, ← HPL.out]; rfl]
    exact (g3 _ (by omega) (by omega) (by omega)).trans h5
   ·rw [if_neg (by omega)]
    exact ⟨g0, g1, g2⟩
 case done =>
  rintro W hm ⟨hnW, hrW, hbW⟩ hD hbW2
  rw [if_pos hm] at hrW
  have hDl := (Array.getElem?_eq_some_iff.1 hD).1
  have hnz : n + 1 + 1 + 1 < W.heap.size := block_lt hnW
  have HRW := Lib.hid hrW
  have HBW1 := Lib.hid hbW
  have HD := Lib.hid hD
  have HM := Lib.hid hm
  clear hrW hnW hbW hD hbW2 hm
  obtain ⟨WA, hWA⟩ : ∃ WA, W.alloc (.cells #[.slice none 0 0, .slice none 0 0, .slice none 0 0, .slice none 0 0, .slice none 0 0, .slice none 0 0, .slice none 0 0, .slice none 0 0, .slice none 0 0, .slice none 0 0, .slice none 0 0] 27 (0, 0)) = WA := ⟨_, rfl⟩
  have hzA : WA.heap.size = W.heap.size + 1 := by rw [← hWA]; simp
  have hA : Below W.heap.size W WA := by rw [← hWA]; exact (Below.refl _ _).alloc (Nat.le_refl _) _
  have hxA : WA.heap[W.heap.size]? = some (.cells (boxA fun _ => .slice none 0 0) 27 (0, 0)) := by rw [← hWA]; exact heap_alloc_new _ _
  have HZA := Lib.hid hzA
  have HA := Lib.hid hA
  have HXA := Lib.hid hxA
  clear hzA hA hxA
  gi_wp2_with fail
  refine ⟨trivial, (callsIn_wide.2 (kinds_any _)).mono ?_⟩
  rintro e wk ⟨MB, rfl, hMB, hMBl, hbk, hK⟩
  have HK := Lib.hid hK
  have HBK := Lib.hid hbk
  have hMB1 : W.heap.size < MB := by have := HZA.out; omega
  have hkz := hbk.size
  have hkz2 : W.heap.size < wk.heap.size := by have := HZA.out; omega
  clear hK hbk hWA hMB
  gi_wp2_with fail
  refine ⟨trivial, (callsIn_wide.2 (lines_any _ _)).mono ?_⟩
  rintro e wl1 ⟨rfl, hwl1⟩
  have hz1 : wl1.heap.size = wk.heap.size + 1 + 1 := by rw [hwl1]; simp
  have hb1 : Below wk.heap.size wk wl1 := by rw [hwl1]; exact ((Below.refl _ _).alloc (Nat.le_refl _) _).alloc (by simp) _
  have h7 : wl1.heap[wk.heap.size]? = some (.cells #[.map (some MB)] 85 (0, 0)) := by rw [hwl1]; exact (Below.heap_alloc _ _ _ (by simp)).trans (heap_alloc_new _ _)
  have h8 : wl1.cell? ⟨wk.heap.size + 1, 0, none⟩ = some (.string s) := by
   have h9 : wl1.heap[wk.heap.size + 1]? = some (.cells #[.string s] 9 (0, 0)) := by rw [hwl1]; exact new_at' (by simp)
   exact (block_cell (i := 0) h9).trans rfl
  have hbAll : Below W.heap.size W wl1 := HA.out.trans ((HBK.out.mono (by have := HZA.out; omega)).trans (hb1.mono (by omega)))
  have HBA := Lib.hid hbAll
  have hQ1 : Quick wl1 := (quick_low hQ0 hq0 HBW1.out).below hbAll
  have hxB : wl1.heap[W.heap.size]? = some (.cells (boxA fun _ => .slice none 0 0) 27 (0, 0)) := (hb1.block _ (by omega)).trans ((HBK.out.block _ (by have := HZA.out; omega)).trans HXA.out)
  have HGR : Hid (Step.Ground W.heap.size MB (wl1.heap.size + 1 + 1) wl1) := Lib.hid ⟨by have := kat_below HK.out hMBl hb1; rw [HZA.out] at this; exact this, hMB1, by omega, hQ1, by omega, hxB⟩
  have HRS0 := Lib.hid (rsb_start (base := wl1.heap.size + 1 + 1) hxB (by omega))
  have H7 := Lib.hid h7
  clear hwl1 hb1 hbAll hxB h7
  gi_wp2_with fail
  refine range_m 1048576 8 (by decide) (wk.heap.size + 1) n s items rfl h8 (by omega) hQ1 hq0 (by omega) HRD.out hz rfl
   (fun pre V => RSB W.heap.size (wl1.heap.size + 1 + 1) wl1 ((ls.take pre.length).foldl addLn emptyB) V)
   ?hI2 HRS0.out 21 8 ?assign2 ?body2 ?done2 ?stop2
  case hI2 =>
   intro pre A A' h1 hg
   exact h1.keep hg (fun l e => by injection e with e; omega)
  case assign2 =>
   intro it ad k c nt V K hK
   unfold lineCells
   gi_wp2
   exact hK
  case body2 =>
   rintro pre it ad c fs nt yb V hpm hI hst hfs hnt hc2 ⟨post, hpost⟩ hyb hyl hbV
   have hi : items[pre.length]? = some it := by rw [hpost]; simp
   have hil : pre.length < ls.length := by rw [← HIL.out]; exact (List.getElem?_eq_some_iff.1 hi).1
   obtain ⟨l, hl⟩ : ∃ l, ls[pre.length]? = some l := ⟨_, List.getElem?_eq_getElem hil⟩
   have hit : it = itOf (1 + pre.length) l := by have := HIT.out _ _ hl; rw [hi] at this; exact Option.some.inj this
   have hfl : fs = l.fields := Seq.map_data_inj (by rw [hfs, hit]; rfl)
   have hyb2 : V.heap[yb]? = some (.cells #[.int .i64 (it.num : Int), .slice ad fs.length c, .string nt] 61 (0, 0)) := hyb
   have hybl := block_lt hyb
   have hvz : wl1.heap.size + 1 + 1 ≤ V.heap.size := by omega
   have hlk : l ∈ ls := List.mem_of_getElem? hl
   have hbd : ∀ i, lnB ((ls.take pre.length).foldl addLn emptyB) i ≤ 1048575 := fun i => by
    have h1 := lnB_fold (ls.take pre.length) emptyB i
    rw [lnB_empty, List.length_take] at h1
    omega
   have H7V : V.heap[wk.heap.size]? = some (.cells #[.map (some MB)] 85 (0, 0)) := by
    obtain ⟨_, _, _, _, _, _, _, _, hx⟩ := hI
    exact (hx.old (by omega) (by omega)).trans H7.out
   have HSTEP := Lib.hid (step_any HGR.out _ hbd V hI hvz (it.num : Int) nt ad c l (HOK.out l hlk) (by rw [← hfl]; exact hst) (by rw [← hfl]; exact hc2))
   have HNX : Hid ((ls.take (pre ++ [it]).length).foldl addLn emptyB = addLn ((ls.take pre.length).foldl addLn emptyB) l) := Lib.hid (by
    rw [show (pre ++ [it]).length = pre.length + 1 from by simp, RefNine.take_snoc' ls pre.length l hl, List.foldl_append]
    rfl)
   have HPL : Hid ((pre ++ [it]).length ≤ 1048576) := Lib.hid (by rw [List.length_append, List.length_singleton]; omega)
   rw [← hfl] at HSTEP
   have k7 : V.cell? ⟨wk.heap.size, 0, none⟩ = some (.map (some MB)) := (block_cell (i := 0) H7V).trans rfl
   have q0 : V.cell? ⟨yb, 0, none⟩ = some (.int .i64 (it.num : Int)) := (block_cell (i := 0) hyb2).trans rfl
   have q1 : V.cell? ⟨yb, 1, none⟩ = some (.slice ad fs.length c) := (block_cell (i := 1) hyb2).trans rfl
   have q2 : V.cell? ⟨yb, 2, none⟩ = some (.string nt) := (block_cell (i := 2) hyb2).trans rfl
   clear hi hil hl hit hfl hyb hyb2 hlk hbd H7V hI hst hfs hnt hc2 hpost
   gi_wp2_with fail
   refine ⟨trivial, (CallsIn.inRound _ (callsIn_wide.2 HSTEP.out)).mono ?_⟩
   rintro e w2 ⟨rfl, hT, hKp⟩
   have HT := Lib.hid hT
   have HKP := Lib.hid hKp
   clear hT hKp k7 q0 q1 q2
   gi_wp2
   refine ⟨HPL.out, HKP.out.blk _ (by omega) (by omega) (by omega), HKP.out.blk _ (by omega) (by omega) (by omega), HKP.out.below (by omega) (by omega) (by omega), ?_⟩
   show RSB W.heap.size (wl1.heap.size + 1 + 1) wl1 ((ls.take (pre ++ [it]).length).foldl addLn emptyB) w2
   rw [HNX.out]
   exact HT.out
  case stop2 =>
   intro V hm2
   have := HIL.out
   omega
  case done2 =>
   intro V hm2 hI hD2 hbV
   rw [HIL.out, List.take_length] at hI
   have hRX : ∀ k, k < wl1.heap.size → k ≠ W.heap.size → V.heap[k]? = wl1.heap[k]? := fun k h1 h2 => by
    obtain ⟨_, _, _, _, _, _, _, _, hx⟩ := hI
    exact hx.old h1 h2
   obtain ⟨A, hLi, hbx, hcn, hcd⟩ := rsb_lies hI
   have hWl : W.heap.size < wl1.heap.size := by omega
   have hresV : Res n V 0 := (HRW.out.keep (W' := wl1) fun k hk => HBA.out.block k (by omega)).keep fun k hk => hRX k (by omega) (by omega)
   have hD1 : V.heap[n + 1 + 1 + 1 + 1 + 1]? = some (.deferred (some [])) := by
    have h1 := HD.out
    rw [hl2] at h1 hDl
    exact (hRX _ (by omega) (by omega)).trans ((HBA.out.block _ (by omega)).trans h1)
   have HLI := Lib.hid hLi
   have HCN := Lib.hid hcn
   have HCD := Lib.hid hcd
   have HRV := Lib.hid hresV
   have HD1 := Lib.hid hD1
   have HD2 := Lib.hid hD2
   have HBV := Lib.hid (HBW.out.trans (HBW1.out.trans ((HBA.out.mono (by omega)).trans hbV)))
   have hVz := hbV.size
   generalize hB1 : ls.foldl addLn emptyB = B1 at *
   have HB1 := Lib.hid hB1
   clear hB1
   have hbx2 : V.heap[W.heap.size]? = some (.cells #[(.slice A.na B1.names.length A.nc), (.slice A.sa B1.status.length A.sc), (.slice A.ma B1.maps.length A.mc), (.slice A.ka B1.cls.length A.kc), (.slice A.da B1.decomp.length A.dc), (.slice A.xa B1.excl.length A.xc), (.slice A.ba B1.bidi.length A.bc), (.slice A.ja B1.join.length A.jc), (.slice A.qa B1.marks.length A.qc), (.slice A.ra B1.script.length A.rc), (.slice A.la B1.like.length A.lc)] 27 (0, 0)) := hbx
   have HBX := Lib.hid hbx2
   have b0 : V.cell? ⟨W.heap.size, 0, none⟩ = some (.slice A.na B1.names.length A.nc) := (block_cell (i := 0) hbx2).trans rfl
   have b1 : V.cell? ⟨W.heap.size, 1, none⟩ = some (.slice A.sa B1.status.length A.sc) := (block_cell (i := 1) hbx2).trans rfl
   have b2 : V.cell? ⟨W.heap.size, 2, none⟩ = some (.slice A.ma B1.maps.length A.mc) := (block_cell (i := 2) hbx2).trans rfl
   have b3 : V.cell? ⟨W.heap.size, 3, none⟩ = some (.slice A.ka B1.cls.length A.kc) := (block_cell (i := 3) hbx2).trans rfl
   have b4 : V.cell? ⟨W.heap.size, 4, none⟩ = some (.slice A.da B1.decomp.length A.dc) := (block_cell (i := 4) hbx2).trans rfl
   have b5 : V.cell? ⟨W.heap.size, 5, none⟩ = some (.slice A.xa B1.excl.length A.xc) := (block_cell (i := 5) hbx2).trans rfl
   have b6 : V.cell? ⟨W.heap.size, 6, none⟩ = some (.slice A.ba B1.bidi.length A.bc) := (block_cell (i := 6) hbx2).trans rfl
   have b7 : V.cell? ⟨W.heap.size, 7, none⟩ = some (.slice A.ja B1.join.length A.jc) := (block_cell (i := 7) hbx2).trans rfl
   have b8 : V.cell? ⟨W.heap.size, 8, none⟩ = some (.slice A.qa B1.marks.length A.qc) := (block_cell (i := 8) hbx2).trans rfl
   have b9 : V.cell? ⟨W.heap.size, 9, none⟩ = some (.slice A.ra B1.script.length A.rc) := (block_cell (i := 9) hbx2).trans rfl
   have b10 : V.cell? ⟨W.heap.size, 10, none⟩ = some (.slice A.la B1.like.length A.lc) := (block_cell (i := 10) hbx2).trans rfl
   have z0 : V.cell? ⟨n, 0, none⟩ = some (.slice none 0 0) := (block_cell (i := 0) hresV.r0).trans rfl
   have fz0 := block_free (i := 0) hresV.r0
   have z1 : V.cell? ⟨n, 1, none⟩ = some (.slice none 0 0) := (block_cell (i := 1) hresV.r0).trans rfl
   have fz1 := block_free (i := 1) hresV.r0
   have z2 : V.cell? ⟨n, 2, none⟩ = some (.slice none 0 0) := (block_cell (i := 2) hresV.r0).trans rfl
   have fz2 := block_free (i := 2) hresV.r0
   have z3 : V.cell? ⟨n, 3, none⟩ = some (.slice none 0 0) := (block_cell (i := 3) hresV.r0).trans rfl
   have fz3 := block_free (i := 3) hresV.r0
   have z4 : V.cell? ⟨n, 4, none⟩ = some (.slice none 0 0) := (block_cell (i := 4) hresV.r0).trans rfl
   have fz4 := block_free (i := 4) hresV.r0
   have z5 : V.cell? ⟨n, 5, none⟩ = some (.slice none 0 0) := (block_cell (i := 5) hresV.r0).trans rfl
   have fz5 := block_free (i := 5) hresV.r0
   have z6 : V.cell? ⟨n, 6, none⟩ = some (.slice none 0 0) := (block_cell (i := 6) hresV.r0).trans rfl
   have fz6 := block_free (i := 6) hresV.r0
   have z7 : V.cell? ⟨n, 7, none⟩ = some (.slice none 0 0) := (block_cell (i := 7) hresV.r0).trans rfl
   have fz7 := block_free (i := 7) hresV.r0
   have z8 : V.cell? ⟨n, 8, none⟩ = some (.slice none 0 0) := (block_cell (i := 8) hresV.r0).trans rfl
   have fz8 := block_free (i := 8) hresV.r0
   have z9 : V.cell? ⟨n, 9, none⟩ = some (.slice none 0 0) := (block_cell (i := 9) hresV.r0).trans rfl
   have fz9 := block_free (i := 9) hresV.r0
   have z10 : V.cell? ⟨n, 10, none⟩ = some (.slice none 0 0) := (block_cell (i := 10) hresV.r0).trans rfl
   have fz10 := block_free (i := 10) hresV.r0
   have y1 : V.cell? ⟨n + 1, 0, none⟩ = some (.int .i64 0) := (block_cell (i := 0) hresV.r1).trans rfl
   have fy1 := block_free (i := 0) hresV.r1
   have y2 : V.cell? ⟨n + 1 + 1, 0, none⟩ = some (.int .i64 0) := (block_cell (i := 0) hresV.r2).trans rfl
   have fy2 := block_free (i := 0) hresV.r2
   clear hI hRX hLi hbx hcn hcd hresV hD1 hD2 hbx2 hbV
   gi_wp2_with fail
   have hDD : n + 1 + 1 + 1 + 1 + 1 < wl1.heap.size := by omega
   obtain ⟨g0, g1, g2, g3, g4⟩ := res_set V n _ _ _ _ _ _ _ _ _ _ _ (.slice A.na B1.names.length A.nc) (.slice A.sa B1.status.length A.sc) (.slice A.ma B1.maps.length A.mc) (.slice A.ka B1.cls.length A.kc) (.slice A.da B1.decomp.length A.dc) (.slice A.xa B1.excl.length A.xc) (.slice A.ba B1.bidi.length A.bc) (.slice A.ja B1.join.length A.jc) (.slice A.qa B1.marks.length A.qc) (.slice A.ra B1.script.length A.rc) (.slice A.la B1.like.length A.lc) _ _ (.int .i64 0) (.int .i64 0) HRV.out.r0 HRV.out.r1 HRV.out.r2
   have hb4 := g4 n w HBV.out (Nat.le_refl _)
   have d2 := (g3 wl1.heap.size (by omega) (by omega) (by omega)).trans HD2.out
   have d1 := (g3 (n + 1 + 1 + 1 + 1 + 1) (by omega) (by omega) (by omega)).trans HD1.out
   generalize (((((((((((((V.setCell ⟨n, 0, none⟩ (.slice A.na B1.names.length A.nc)).setCell ⟨n, 1, none⟩ (.slice A.sa B1.status.length A.sc)).setCell ⟨n, 2, none⟩ (.slice A.ma B1.maps.length A.mc)).setCell ⟨n, 3, none⟩ (.slice A.ka B1.cls.length A.kc)).setCell ⟨n, 4, none⟩ (.slice A.da B1.decomp.length A.dc)).setCell ⟨n, 5, none⟩ (.slice A.xa B1.excl.length A.xc)).setCell ⟨n, 6, none⟩ (.slice A.ba B1.bidi.length A.bc)).setCell ⟨n, 7, none⟩ (.slice A.ja B1.join.length A.jc)).setCell ⟨n, 8, none⟩ (.slice A.qa B1.marks.length A.qc)).setCell ⟨n, 9, none⟩ (.slice A.ra B1.script.length A.rc)).setCell ⟨n, 10, none⟩ (.slice A.la B1.like.length A.lc)).setCell ⟨n + 1, 0, none⟩ (.int .i64 0)).setCell ⟨n + 1 + 1, 0, none⟩ (.int .i64 0)) = VF at *
   have d1' : (VF.putObj wl1.heap.size (.deferred none)).heap[n + 1 + 1 + 1 + 1 + 1]? = some (.deferred (some [])) := (World.putObj_heap_other (by omega)).trans d1
   refine ⟨by simp, .inl ⟨_, _, rfl, run_takeDeferred d2, by simp, .inl ⟨_, _, rfl, run_takeDeferred d1', ?_⟩⟩⟩
   have hk : ∀ k, k ≠ wl1.heap.size → k ≠ n + 1 + 1 + 1 + 1 + 1 → ((VF.putObj wl1.heap.size (.deferred none)).putObj (n + 1 + 1 + 1 + 1 + 1) (.deferred none)).heap[k]? = VF.heap[k]? := fun k a b => (World.putObj_heap_other b).trans (World.putObj_heap_other a)
   have hl1' := (Array.getElem?_eq_some_iff.1 d2).1
   have hl2' := (Array.getElem?_eq_some_iff.1 d1').1
   have hbP : Below n w ((VF.putObj wl1.heap.size (.deferred none)).putObj (n + 1 + 1 + 1 + 1 + 1) (.deferred none)) := (hb4.grown (grownBy_putObj' _ wl1.heap.size (.deferred none)) (by omega) (fun k e => by injection e with e; omega)).grown (grownBy_putObj' _ (n + 1 + 1 + 1 + 1 + 1) (.deferred none)) (by omega) (fun k e => by injection e with e; omega)
   generalize (VF.putObj wl1.heap.size (.deferred none)).putObj (n + 1 + 1 + 1 + 1 + 1) (.deferred none) = VP at *
   have p0 := (hk n (by omega) (by omega)).trans g0
   have p1 := (hk (n + 1) (by omega) (by omega)).trans g1
   have p2 := (hk (n + 1 + 1) (by omega) (by omega)).trans g2
   have w0 : VP.cell? ⟨n, 0, none⟩ = some (.slice A.na B1.names.length A.nc) := (block_cell (i := 0) p0).trans rfl
   have w1 : VP.cell? ⟨n, 1, none⟩ = some (.slice A.sa B1.status.length A.sc) := (block_cell (i := 1) p0).trans rfl
   have w2 : VP.cell? ⟨n, 2, none⟩ = some (.slice A.ma B1.maps.length A.mc) := (block_cell (i := 2) p0).trans rfl
   have w3 : VP.cell? ⟨n, 3, none⟩ = some (.slice A.ka B1.cls.length A.kc) := (block_cell (i := 3) p0).trans rfl
   have w4 : VP.cell? ⟨n, 4, none⟩ = some (.slice A.da B1.decomp.length A.dc) := (block_cell (i := 4) p0).trans rfl
   have w5 : VP.cell? ⟨n, 5, none⟩ = some (.slice A.xa B1.excl.length A.xc) := (block_cell (i := 5) p0).trans rfl
   have w6 : VP.cell? ⟨n, 6, none⟩ = some (.slice A.ba B1.bidi.length A.bc) := (block_cell (i := 6) p0).trans rfl
   have w7 : VP.cell? ⟨n, 7, none⟩ = some (.slice A.ja B1.join.length A.jc) := (block_cell (i := 7) p0).trans rfl
   have w8 : VP.cell? ⟨n, 8, none⟩ = some (.slice A.qa B1.marks.length A.qc) := (block_cell (i := 8) p0).trans rfl
   have w9 : VP.cell? ⟨n, 9, none⟩ = some (.slice A.ra B1.script.length A.rc) := (block_cell (i := 9) p0).trans rfl
   have w10 : VP.cell? ⟨n, 10, none⟩ = some (.slice A.la B1.like.length A.lc) := (block_cell (i := 10) p0).trans rfl
   have x1 : VP.cell? ⟨n + 1, 0, none⟩ = some (.int .i64 0) := (block_cell (i := 0) p1).trans rfl
   have x2 : VP.cell? ⟨n + 1 + 1, 0, none⟩ = some (.int .i64 0) := (block_cell (i := 0) p2).trans rfl
   have hlies := HLI.out VP (fun j hj => (hk j (by omega) (by omega)).trans (g3 j (by omega) (by omega) (by omega)))
   refine ⟨.tuple #[.agg #[.slice A.na B1.names.length A.nc, .slice A.sa B1.status.length A.sc, .slice A.ma B1.maps.length A.mc, .slice A.ka B1.cls.length A.kc, .slice A.da B1.decomp.length A.dc, .slice A.xa B1.excl.length A.xc, .slice A.ba B1.bidi.length A.bc, .slice A.ja B1.join.length A.jc, .slice A.qa B1.marks.length A.qc, .slice A.ra B1.script.length A.rc, .slice A.la B1.like.length A.lc], .int .i64 0, .int .i64 0], ?_, ?_⟩
   rotate_left
   ·refine ⟨.inl ⟨by rw [← HIL.out]; exact HM.out, A, ?_⟩, by rw [HN.out]; exact hbP⟩
    rw [HB1.out]
    exact ⟨rfl, hlies, HCN.out, HCD.out⟩
   simp [results, Tryz.results10, go_sem, x1, x2, w0, w1, w2, w3, w4, w5, w6, w7, w8, w9, w10]
 case stop =>
  rintro W hm ⟨hnW, hrW, hbW⟩ hD hbW2
  have hl3 : (items.take (262144 + 1)).length = 262144 + 1 := by rw [List.length_take]; omega
  rw [if_neg (by omega)] at hrW
  gi_wp2
  refine ⟨by simp, .inl ⟨_, _, rfl, run_takeDeferred hD, ?_⟩⟩
  have hDl := (Array.getElem?_eq_some_iff.1 hD).1
  have hrP : Res n (W.putObj wl0.heap.size (.deferred none)) 104 := hrW.keep fun k hk => World.putObj_heap_other (by omega)
  have hbP : Below n w (W.putObj wl0.heap.size (.deferred none)) := (HBW.out.trans hbW).grown (grownBy_putObj' _ _ _) (by have := hbW.size; omega) (fun k e => by cases e; omega)
  generalize W.putObj wl0.heap.size (.deferred none) = WP at *
  have z0 : WP.cell? ⟨n, 0, none⟩ = some (.slice none 0 0) := (block_cell (i := 0) hrP.r0).trans rfl
  have fz0 := block_free (i := 0) hrP.r0
  have z1 : WP.cell? ⟨n, 1, none⟩ = some (.slice none 0 0) := (block_cell (i := 1) hrP.r0).trans rfl
  have fz1 := block_free (i := 1) hrP.r0
  have z2 : WP.cell? ⟨n, 2, none⟩ = some (.slice none 0 0) := (block_cell (i := 2) hrP.r0).trans rfl
  have fz2 := block_free (i := 2) hrP.r0
  have z3 : WP.cell? ⟨n, 3, none⟩ = some (.slice none 0 0) := (block_cell (i := 3) hrP.r0).trans rfl
  have fz3 := block_free (i := 3) hrP.r0
  have z4 : WP.cell? ⟨n, 4, none⟩ = some (.slice none 0 0) := (block_cell (i := 4) hrP.r0).trans rfl
  have fz4 := block_free (i := 4) hrP.r0
  have z5 : WP.cell? ⟨n, 5, none⟩ = some (.slice none 0 0) := (block_cell (i := 5) hrP.r0).trans rfl
  have fz5 := block_free (i := 5) hrP.r0
  have z6 : WP.cell? ⟨n, 6, none⟩ = some (.slice none 0 0) := (block_cell (i := 6) hrP.r0).trans rfl
  have fz6 := block_free (i := 6) hrP.r0
  have z7 : WP.cell? ⟨n, 7, none⟩ = some (.slice none 0 0) := (block_cell (i := 7) hrP.r0).trans rfl
  have fz7 := block_free (i := 7) hrP.r0
  have z8 : WP.cell? ⟨n, 8, none⟩ = some (.slice none 0 0) := (block_cell (i := 8) hrP.r0).trans rfl
  have fz8 := block_free (i := 8) hrP.r0
  have z9 : WP.cell? ⟨n, 9, none⟩ = some (.slice none 0 0) := (block_cell (i := 9) hrP.r0).trans rfl
  have fz9 := block_free (i := 9) hrP.r0
  have z10 : WP.cell? ⟨n, 10, none⟩ = some (.slice none 0 0) := (block_cell (i := 10) hrP.r0).trans rfl
  have fz10 := block_free (i := 10) hrP.r0
  have y1 : WP.cell? ⟨n + 1, 0, none⟩ = some (.int .i64 0) := (block_cell (i := 0) hrP.r1).trans rfl
  have fy1 := block_free (i := 0) hrP.r1
  have y2 : WP.cell? ⟨n + 1 + 1, 0, none⟩ = some (.int .i64 104) := (block_cell (i := 0) hrP.r2).trans rfl
  have fy2 := block_free (i := 0) hrP.r2
  refine ⟨.tuple #[.agg #[.slice none 0 0, .slice none 0 0, .slice none 0 0, .slice none 0 0, .slice none 0 0, .slice none 0 0, .slice none 0 0, .slice none 0 0, .slice none 0 0, .slice none 0 0, .slice none 0 0], .int .i64 0, .int .i64 104], ?_, .inr ⟨by rw [← HIL.out]; exact hm, rfl⟩, by rw [HN.out]; exact hbP⟩
  simp [results, Tryz.results10, go_sem, y1, y2, z0, z1, z2, z3, z4, z5, z6, z7, z8, z9, z10]
theorem read_any (s : ByteArray) (ls : List Ln) (w : World) (hok : ∀ l ∈ ls, LnOk l) (hs : s.data.toList = ls.flatMap Ln.text) (hz : s.size ≤ 1073741824) (hlen : ls.length ≤ 1048575) (hQ : Quick w) : Calls Tryz.prog 10 #[.string s] w (ReadPost ls w) := callsIn_wide.1 (read_in s ls w hok hs hz hlen hQ)
end Go.Proofs.YtgdambmineeboaaGreatDoor.Read10
