/- The walk of the reference's Of: a whole book, copied. -/
import Derived.Test.YtgdambmineeboaaGreatDoorBLists
set_option linter.unusedSimpArgs false
set_option linter.unusedVariables false
namespace Go.Proofs.YtgdambmineeboaaGreatDoor.Book
open Go.RowKit Go.Lib Go.Proofs.YtgdambmineeboaaGreatDoor.Text Go.Proofs.YtgdambmineeboaaGreatDoor.Runes Go.Proofs.YtgdambmineeboaaGreatDoor.Print Go.Proofs.YtgdambmineeboaaGreatDoor.RefNine Go.Proofs.YtgdambmineeboaaGreatDoor.RefPrint Go.Proofs.YtgdambmineeboaaGreatDoor.Format Go.Proofs.YtgdambmineeboaaGreatDoor.Tell Go.Proofs.YtgdambmineeboaaGreatDoor.Given Go.Proofs.YtgdambmineeboaaGreatDoor.Mem Go.Proofs.YtgdambmineeboaaGreatDoor.Of Go.Proofs.YtgdambmineeboaaGreatDoor.Lists

/-- Where a book's lists lie: addresses and capacities. -/
structure Ads where
  na : Option Addr
  nc : Nat
  sa : Option Addr
  sc : Nat
  ma : Option Addr
  mc : Nat
  ka : Option Addr
  kc : Nat
  da : Option Addr
  dc : Nat
  xa : Option Addr
  xc : Nat
  ba : Option Addr
  bc : Nat
  ja : Option Addr
  jc : Nat
  qa : Option Addr
  qc : Nat
  ra : Option Addr
  rc : Nat
  la : Option Addr
  lc : Nat

/-- A book as a value. -/
def slices (B : Mem.Book) (A : Ads) : List Value := [.slice A.na B.names.length A.nc, .slice A.sa B.status.length A.sc, .slice A.ma B.maps.length A.mc, .slice A.ka B.cls.length A.kc, .slice A.da B.decomp.length A.dc, .slice A.xa B.excl.length A.xc, .slice A.ba B.bidi.length A.bc, .slice A.ja B.join.length A.jc, .slice A.qa B.marks.length A.qc, .slice A.ra B.script.length A.rc, .slice A.la B.like.length A.lc]
def bookV (B : Mem.Book) (A : Ads) : Value := .agg #[.slice A.na B.names.length A.nc, .slice A.sa B.status.length A.sc, .slice A.ma B.maps.length A.mc, .slice A.ka B.cls.length A.kc, .slice A.da B.decomp.length A.dc, .slice A.xa B.excl.length A.xc, .slice A.ba B.bidi.length A.bc, .slice A.ja B.join.length A.jc, .slice A.qa B.marks.length A.qc, .slice A.ra B.script.length A.rc, .slice A.la B.like.length A.lc]
structure Lies (w : World) (B : Mem.Book) (A : Ads) : Prop where
  n : Strs w A.na B.names
  s : Vals w A.sa B.status
  m : Chrs w A.ma B.maps
  k : Vals w A.ka B.cls
  d : Chrs w A.da B.decomp
  x : Spns w A.xa B.excl
  b : Vals w A.ba B.bidi
  j : Vals w A.ja B.join
  q : Spns w A.qa B.marks
  r : Vals w A.ra B.script
  l : Chrs w A.la B.like
theorem Lies.below {w w' : World} {B : Mem.Book} {A : Ads} (h : Lies w B A) (hb : Below w.heap.size w w') : Lies w' B A :=
  ⟨h.n.below hb, h.s.below hb, h.m.below hb, h.k.below hb, h.d.below hb, h.x.below hb, h.b.below hb, h.j.below hb, h.q.below hb, h.r.below hb, h.l.below hb⟩
/-- The book is no greater than what is asked about. -/
structure Small (B : Mem.Book) : Prop where
  n : B.names.length ≤ 1048576
  s : B.status.length ≤ 1048576
  m : B.maps.length ≤ 1048576
  mi : ∀ x ∈ B.maps, x.is.length ≤ 1048576
  k : B.cls.length ≤ 1048576
  d : B.decomp.length ≤ 1048576
  di : ∀ x ∈ B.decomp, x.is.length ≤ 1048576
  x : B.excl.length ≤ 1048576
  b : B.bidi.length ≤ 1048576
  j : B.join.length ≤ 1048576
  q : B.marks.length ≤ 1048576
  r : B.script.length ≤ 1048576
  l : B.like.length ≤ 1048576
  li : ∀ x ∈ B.like, x.is.length ≤ 1048576
  nz : ∀ s ∈ B.names, s.size ≤ 1048576

theorem info_strs : (Tryz.prog.info? 9).map (fun i => (i.zero, i.size, i.bytes)) = some (some (.string ⟨#[]⟩), 1, 16) := by kernel_rfl

def Box (w : World) (B : Mem.Book) (A : Ads) (W : World) : Prop := W.heap[w.heap.size]? = some (.cells #[.slice A.na B.names.length A.nc, .slice A.sa B.status.length A.sc, .slice A.ma B.maps.length A.mc, .slice A.ka B.cls.length A.kc, .slice A.da B.decomp.length A.dc, .slice A.xa B.excl.length A.xc, .slice A.ba B.bidi.length A.bc, .slice A.ja B.join.length A.jc, .slice A.qa B.marks.length A.qc, .slice A.ra B.script.length A.rc, .slice A.la B.like.length A.lc] 27 (0, 0))

theorem strs_of_own {w : World} {base g cap n : Nat} {l : List ByteArray} (_ : n = l.length) (h : w.ownsRow base 9 1 (.slice (some ⟨g, 0, none⟩) n cap) n ([] ++ l.map Value.string)) : Strs w (some ⟨g, 0, none⟩) l := by
  obtain ⟨cur, hc⟩ := own_type h g rfl
  refine .inr ⟨g, 0, rfl, block_lt hc, fun j x hx => ?_⟩
  have := h.cells (g := g) rfl j (.string x) (by rw [List.nil_append, List.getElem?_map, hx]; rfl)
  rw [Lib.add_plain] at this
  exact this

theorem cap_of_own {w : World} {base k n cap : Nat} {e : TypeId} {a : Option Addr} {xs : List Value} (h : w.ownsRow base e k (.slice a n cap) n xs) : n ≤ cap := by
  rcases h.2 with ⟨_, h0⟩ | ⟨g', cap', cur, hv, _, _, hnc, _⟩
  · omega
  · simp only [Value.slice.injEq] at hv
    obtain ⟨_, _, rfl⟩ := hv
    exact hnc
theorem set11 (w : World) (b : Nat) (z0 z1 z2 z3 z4 z5 z6 z7 z8 z9 z10 v0 v1 v2 v3 v4 v5 v6 v7 v8 v9 v10 : Value) (T : TypeId) (h : w.heap[b]? = some (.cells #[z0, z1, z2, z3, z4, z5, z6, z7, z8, z9, z10] T (0, 0))) :
    (((((((((((w.setCell ⟨b, 0, none⟩ v0).setCell ⟨b, 1, none⟩ v1).setCell ⟨b, 2, none⟩ v2).setCell ⟨b, 3, none⟩ v3).setCell ⟨b, 4, none⟩ v4).setCell ⟨b, 5, none⟩ v5).setCell ⟨b, 6, none⟩ v6).setCell ⟨b, 7, none⟩ v7).setCell ⟨b, 8, none⟩ v8).setCell ⟨b, 9, none⟩ v9).setCell ⟨b, 10, none⟩ v10).heap[b]? = some (.cells #[v0, v1, v2, v3, v4, v5, v6, v7, v8, v9, v10] T (0, 0)) ∧ (∀ k, k ≠ b → (((((((((((w.setCell ⟨b, 0, none⟩ v0).setCell ⟨b, 1, none⟩ v1).setCell ⟨b, 2, none⟩ v2).setCell ⟨b, 3, none⟩ v3).setCell ⟨b, 4, none⟩ v4).setCell ⟨b, 5, none⟩ v5).setCell ⟨b, 6, none⟩ v6).setCell ⟨b, 7, none⟩ v7).setCell ⟨b, 8, none⟩ v8).setCell ⟨b, 9, none⟩ v9).setCell ⟨b, 10, none⟩ v10).heap[k]? = w.heap[k]?) ∧ (∀ n a, Below n a w → n ≤ b → Below n a (((((((((((w.setCell ⟨b, 0, none⟩ v0).setCell ⟨b, 1, none⟩ v1).setCell ⟨b, 2, none⟩ v2).setCell ⟨b, 3, none⟩ v3).setCell ⟨b, 4, none⟩ v4).setCell ⟨b, 5, none⟩ v5).setCell ⟨b, 6, none⟩ v6).setCell ⟨b, 7, none⟩ v7).setCell ⟨b, 8, none⟩ v8).setCell ⟨b, 9, none⟩ v9).setCell ⟨b, 10, none⟩ v10)) := by
  have g0 : (w.setCell ⟨b, 0, none⟩ v0).heap[b]? = some (.cells #[v0, z1, z2, z3, z4, z5, z6, z7, z8, z9, z10] T (0, 0)) := block_set (i := 0) (v := v0) h
  have o0 : ∀ k, k ≠ b → (w.setCell ⟨b, 0, none⟩ v0).heap[k]? = w.heap[k]? := fun k hk => Below.heap_setCell _ ⟨b, 0, none⟩ v0 k hk
  have l0 : ∀ n a, Below n a w → n ≤ b → Below n a (w.setCell ⟨b, 0, none⟩ v0) := fun n a h hn => h.setCell (p := ⟨b, 0, none⟩) hn v0
  generalize w.setCell ⟨b, 0, none⟩ v0 = w1 at *
  have g1 : (w1.setCell ⟨b, 1, none⟩ v1).heap[b]? = some (.cells #[v0, v1, z2, z3, z4, z5, z6, z7, z8, z9, z10] T (0, 0)) := block_set (i := 1) (v := v1) g0
  have o1 : ∀ k, k ≠ b → (w1.setCell ⟨b, 1, none⟩ v1).heap[k]? = w1.heap[k]? := fun k hk => Below.heap_setCell _ ⟨b, 1, none⟩ v1 k hk
  have l1 : ∀ n a, Below n a w1 → n ≤ b → Below n a (w1.setCell ⟨b, 1, none⟩ v1) := fun n a h hn => h.setCell (p := ⟨b, 1, none⟩) hn v1
  generalize w1.setCell ⟨b, 1, none⟩ v1 = w2 at *
  have g2 : (w2.setCell ⟨b, 2, none⟩ v2).heap[b]? = some (.cells #[v0, v1, v2, z3, z4, z5, z6, z7, z8, z9, z10] T (0, 0)) := block_set (i := 2) (v := v2) g1
  have o2 : ∀ k, k ≠ b → (w2.setCell ⟨b, 2, none⟩ v2).heap[k]? = w2.heap[k]? := fun k hk => Below.heap_setCell _ ⟨b, 2, none⟩ v2 k hk
  have l2 : ∀ n a, Below n a w2 → n ≤ b → Below n a (w2.setCell ⟨b, 2, none⟩ v2) := fun n a h hn => h.setCell (p := ⟨b, 2, none⟩) hn v2
  generalize w2.setCell ⟨b, 2, none⟩ v2 = w3 at *
  have g3 : (w3.setCell ⟨b, 3, none⟩ v3).heap[b]? = some (.cells #[v0, v1, v2, v3, z4, z5, z6, z7, z8, z9, z10] T (0, 0)) := block_set (i := 3) (v := v3) g2
  have o3 : ∀ k, k ≠ b → (w3.setCell ⟨b, 3, none⟩ v3).heap[k]? = w3.heap[k]? := fun k hk => Below.heap_setCell _ ⟨b, 3, none⟩ v3 k hk
  have l3 : ∀ n a, Below n a w3 → n ≤ b → Below n a (w3.setCell ⟨b, 3, none⟩ v3) := fun n a h hn => h.setCell (p := ⟨b, 3, none⟩) hn v3
  generalize w3.setCell ⟨b, 3, none⟩ v3 = w4 at *
  have g4 : (w4.setCell ⟨b, 4, none⟩ v4).heap[b]? = some (.cells #[v0, v1, v2, v3, v4, z5, z6, z7, z8, z9, z10] T (0, 0)) := block_set (i := 4) (v := v4) g3
  have o4 : ∀ k, k ≠ b → (w4.setCell ⟨b, 4, none⟩ v4).heap[k]? = w4.heap[k]? := fun k hk => Below.heap_setCell _ ⟨b, 4, none⟩ v4 k hk
  have l4 : ∀ n a, Below n a w4 → n ≤ b → Below n a (w4.setCell ⟨b, 4, none⟩ v4) := fun n a h hn => h.setCell (p := ⟨b, 4, none⟩) hn v4
  generalize w4.setCell ⟨b, 4, none⟩ v4 = w5 at *
  have g5 : (w5.setCell ⟨b, 5, none⟩ v5).heap[b]? = some (.cells #[v0, v1, v2, v3, v4, v5, z6, z7, z8, z9, z10] T (0, 0)) := block_set (i := 5) (v := v5) g4
  have o5 : ∀ k, k ≠ b → (w5.setCell ⟨b, 5, none⟩ v5).heap[k]? = w5.heap[k]? := fun k hk => Below.heap_setCell _ ⟨b, 5, none⟩ v5 k hk
  have l5 : ∀ n a, Below n a w5 → n ≤ b → Below n a (w5.setCell ⟨b, 5, none⟩ v5) := fun n a h hn => h.setCell (p := ⟨b, 5, none⟩) hn v5
  generalize w5.setCell ⟨b, 5, none⟩ v5 = w6 at *
  have g6 : (w6.setCell ⟨b, 6, none⟩ v6).heap[b]? = some (.cells #[v0, v1, v2, v3, v4, v5, v6, z7, z8, z9, z10] T (0, 0)) := block_set (i := 6) (v := v6) g5
  have o6 : ∀ k, k ≠ b → (w6.setCell ⟨b, 6, none⟩ v6).heap[k]? = w6.heap[k]? := fun k hk => Below.heap_setCell _ ⟨b, 6, none⟩ v6 k hk
  have l6 : ∀ n a, Below n a w6 → n ≤ b → Below n a (w6.setCell ⟨b, 6, none⟩ v6) := fun n a h hn => h.setCell (p := ⟨b, 6, none⟩) hn v6
  generalize w6.setCell ⟨b, 6, none⟩ v6 = w7 at *
  have g7 : (w7.setCell ⟨b, 7, none⟩ v7).heap[b]? = some (.cells #[v0, v1, v2, v3, v4, v5, v6, v7, z8, z9, z10] T (0, 0)) := block_set (i := 7) (v := v7) g6
  have o7 : ∀ k, k ≠ b → (w7.setCell ⟨b, 7, none⟩ v7).heap[k]? = w7.heap[k]? := fun k hk => Below.heap_setCell _ ⟨b, 7, none⟩ v7 k hk
  have l7 : ∀ n a, Below n a w7 → n ≤ b → Below n a (w7.setCell ⟨b, 7, none⟩ v7) := fun n a h hn => h.setCell (p := ⟨b, 7, none⟩) hn v7
  generalize w7.setCell ⟨b, 7, none⟩ v7 = w8 at *
  have g8 : (w8.setCell ⟨b, 8, none⟩ v8).heap[b]? = some (.cells #[v0, v1, v2, v3, v4, v5, v6, v7, v8, z9, z10] T (0, 0)) := block_set (i := 8) (v := v8) g7
  have o8 : ∀ k, k ≠ b → (w8.setCell ⟨b, 8, none⟩ v8).heap[k]? = w8.heap[k]? := fun k hk => Below.heap_setCell _ ⟨b, 8, none⟩ v8 k hk
  have l8 : ∀ n a, Below n a w8 → n ≤ b → Below n a (w8.setCell ⟨b, 8, none⟩ v8) := fun n a h hn => h.setCell (p := ⟨b, 8, none⟩) hn v8
  generalize w8.setCell ⟨b, 8, none⟩ v8 = w9 at *
  have g9 : (w9.setCell ⟨b, 9, none⟩ v9).heap[b]? = some (.cells #[v0, v1, v2, v3, v4, v5, v6, v7, v8, v9, z10] T (0, 0)) := block_set (i := 9) (v := v9) g8
  have o9 : ∀ k, k ≠ b → (w9.setCell ⟨b, 9, none⟩ v9).heap[k]? = w9.heap[k]? := fun k hk => Below.heap_setCell _ ⟨b, 9, none⟩ v9 k hk
  have l9 : ∀ n a, Below n a w9 → n ≤ b → Below n a (w9.setCell ⟨b, 9, none⟩ v9) := fun n a h hn => h.setCell (p := ⟨b, 9, none⟩) hn v9
  generalize w9.setCell ⟨b, 9, none⟩ v9 = w10 at *
  have g10 : (w10.setCell ⟨b, 10, none⟩ v10).heap[b]? = some (.cells #[v0, v1, v2, v3, v4, v5, v6, v7, v8, v9, v10] T (0, 0)) := block_set (i := 10) (v := v10) g9
  have o10 : ∀ k, k ≠ b → (w10.setCell ⟨b, 10, none⟩ v10).heap[k]? = w10.heap[k]? := fun k hk => Below.heap_setCell _ ⟨b, 10, none⟩ v10 k hk
  have l10 : ∀ n a, Below n a w10 → n ≤ b → Below n a (w10.setCell ⟨b, 10, none⟩ v10) := fun n a h hn => h.setCell (p := ⟨b, 10, none⟩) hn v10
  generalize w10.setCell ⟨b, 10, none⟩ v10 = w11 at *
  exact ⟨g10, fun k hk => (o10 k hk).trans ((o9 k hk).trans ((o8 k hk).trans ((o7 k hk).trans ((o6 k hk).trans ((o5 k hk).trans ((o4 k hk).trans ((o3 k hk).trans ((o2 k hk).trans ((o1 k hk).trans (o0 k hk)))))))))), fun n a h hn => (l10 n a (l9 n a (l8 n a (l7 n a (l6 n a (l5 n a (l4 n a (l3 n a (l2 n a (l1 n a (l0 n a h hn) hn) hn) hn) hn) hn) hn) hn) hn) hn) hn)⟩

/-- Lists stay where a block that holds none of them is written. -/
theorem tab_other {α : Type} {k : Nat} {enc : α → List Value} {w w' : World} {a : Option Addr} {l : List α} {rb : Nat} {Z : Array Value} {T : TypeId} (h : Tab k enc w a l) (hr : w.heap[rb]? = some (.cells Z T (0, 0)))
    (hne : ∀ x : α, ∃ v, (enc x)[0]? = some v ∧ ∀ i : Nat, Z[i]? ≠ some v) (ho : ∀ k, k ≠ rb → w'.heap[k]? = w.heap[k]?) (hs : w.heap.size ≤ w'.heap.size) : Tab k enc w' a l := by
  rcases h with h | ⟨bk, o, h1, h2, h3⟩
  · exact .inl h
  · cases l with
    | nil => exact .inl rfl
    | cons x0 l =>
      obtain ⟨v, hv, hz⟩ := hne x0
      have hb : bk ≠ rb := by
        rintro rfl
        have := h3 0 x0 rfl 0 v hv
        rw [block_cell hr] at this
        exact hz _ this
      exact .inr ⟨bk, o, h1, Nat.lt_of_lt_of_le h2 hs, fun j x hx i u hu => (World.cell?_of_block (a := ⟨bk, o + j * k + i, none⟩) (ho bk hb)).trans (h3 j x hx i u hu)⟩
theorem z11_int (k : IntKind) (x : Int) : ∀ i : Nat, (#[.slice none 0 0, .slice none 0 0, .slice none 0 0, .slice none 0 0, .slice none 0 0, .slice none 0 0, .slice none 0 0, .slice none 0 0, .slice none 0 0, .slice none 0 0, .slice none 0 0] : Array Value)[i]? ≠ some (.int k x) := fun i h => by
  have := Array.mem_of_getElem? h
  simp at this
theorem z11_str (s : ByteArray) : ∀ i : Nat, (#[.slice none 0 0, .slice none 0 0, .slice none 0 0, .slice none 0 0, .slice none 0 0, .slice none 0 0, .slice none 0 0, .slice none 0 0, .slice none 0 0, .slice none 0 0, .slice none 0 0] : Array Value)[i]? ≠ some (.string s) := fun i h => by
  have := Array.mem_of_getElem? h
  simp at this
theorem first_val (x : Val) : ∃ v, (encV x)[0]? = some v ∧ ∀ i : Nat, (#[.slice none 0 0, .slice none 0 0, .slice none 0 0, .slice none 0 0, .slice none 0 0, .slice none 0 0, .slice none 0 0, .slice none 0 0, .slice none 0 0, .slice none 0 0, .slice none 0 0] : Array Value)[i]? ≠ some v := ⟨_, rfl, z11_int _ _⟩
theorem first_spn (x : Spn) : ∃ v, (encS x)[0]? = some v ∧ ∀ i : Nat, (#[.slice none 0 0, .slice none 0 0, .slice none 0 0, .slice none 0 0, .slice none 0 0, .slice none 0 0, .slice none 0 0, .slice none 0 0, .slice none 0 0, .slice none 0 0, .slice none 0 0] : Array Value)[i]? ≠ some v := ⟨_, rfl, z11_int _ _⟩
theorem first_raw (x : Raw) : ∃ v, (Mem.encR x)[0]? = some v ∧ ∀ i : Nat, (#[.slice none 0 0, .slice none 0 0, .slice none 0 0, .slice none 0 0, .slice none 0 0, .slice none 0 0, .slice none 0 0, .slice none 0 0, .slice none 0 0, .slice none 0 0, .slice none 0 0] : Array Value)[i]? ≠ some v := ⟨_, rfl, z11_int _ _⟩
theorem rs_other {w w' : World} {a : Option Addr} {l : List Int} {rb : Nat} {T : TypeId} (h : Rs w a l) (hr : w.heap[rb]? = some (.cells #[.slice none 0 0, .slice none 0 0, .slice none 0 0, .slice none 0 0, .slice none 0 0, .slice none 0 0, .slice none 0 0, .slice none 0 0, .slice none 0 0, .slice none 0 0, .slice none 0 0] T (0, 0))) (ho : ∀ k, k ≠ rb → w'.heap[k]? = w.heap[k]?) (hs : w.heap.size ≤ w'.heap.size) : Rs w' a l := by
  rcases h with h | ⟨bk, o, h1, h2, h3⟩
  · exact .inl h
  · cases l with
    | nil => exact .inl rfl
    | cons x0 l =>
      have hb : bk ≠ rb := by
        rintro rfl
        have := h3 0 x0 rfl
        rw [block_cell hr] at this
        exact z11_int _ _ _ this
      exact .inr ⟨bk, o, h1, Nat.lt_of_lt_of_le h2 hs, fun j x hx => (World.cell?_of_block (a := ⟨bk, o + j, none⟩) (ho bk hb)).trans (h3 j x hx)⟩
theorem strs_other {w w' : World} {a : Option Addr} {l : List ByteArray} {rb : Nat} {T : TypeId} (h : Strs w a l) (hr : w.heap[rb]? = some (.cells #[.slice none 0 0, .slice none 0 0, .slice none 0 0, .slice none 0 0, .slice none 0 0, .slice none 0 0, .slice none 0 0, .slice none 0 0, .slice none 0 0, .slice none 0 0, .slice none 0 0] T (0, 0))) (ho : ∀ k, k ≠ rb → w'.heap[k]? = w.heap[k]?) (hs : w.heap.size ≤ w'.heap.size) : Strs w' a l := by
  rcases h with h | ⟨bk, o, h1, h2, h3⟩
  · exact .inl h
  · cases l with
    | nil => exact .inl rfl
    | cons x0 l =>
      have hb : bk ≠ rb := by
        rintro rfl
        have := h3 0 x0 rfl
        rw [block_cell hr] at this
        exact z11_str _ _ this
      exact .inr ⟨bk, o, h1, Nat.lt_of_lt_of_le h2 hs, fun j x hx => (World.cell?_of_block (a := ⟨bk, o + j, none⟩) (ho bk hb)).trans (h3 j x hx)⟩
theorem chrs_other {w w' : World} {a : Option Addr} {l : List Chr} {rb : Nat} {T : TypeId} (h : Chrs w a l) (hr : w.heap[rb]? = some (.cells #[.slice none 0 0, .slice none 0 0, .slice none 0 0, .slice none 0 0, .slice none 0 0, .slice none 0 0, .slice none 0 0, .slice none 0 0, .slice none 0 0, .slice none 0 0, .slice none 0 0] T (0, 0))) (ho : ∀ k, k ≠ rb → w'.heap[k]? = w.heap[k]?) (hs : w.heap.size ≤ w'.heap.size) : Chrs w' a l := by
  obtain ⟨rs, h1, h2, h3⟩ := h
  exact ⟨rs, tab_other h1 hr first_raw ho hs, h2, fun r hr' => rs_other (h3 r hr') hr ho hs⟩
theorem size_other {w w' : World} {rb : Nat} {o o' : Obj} (_h : w.heap[rb]? = some o) (h' : w'.heap[rb]? = some o') (ho : ∀ k, k ≠ rb → w'.heap[k]? = w.heap[k]?) : w.heap.size ≤ w'.heap.size := by
  rcases Nat.lt_or_ge w'.heap.size w.heap.size with hlt | hge
  · by_cases e : w'.heap.size = rb
    · have := block_lt h'; omega
    · have h1 := ho _ e
      rw [Array.getElem?_eq_none (Nat.le_refl _), Array.getElem?_eq_getElem hlt] at h1
      cases h1
  · exact hge

set_option maxRecDepth 100000 in
set_option maxHeartbeats 8000000 in
theorem of_some (B : Mem.Book) (A : Ads) (bk o : Nat) (w : World) (hs : Small B) (hpos : 0 < B.names.length) (hA : A.na = some ⟨bk, o, none⟩) (hbk : bk < w.heap.size)
    (hc : ∀ (j : Nat) x, B.names[j]? = some x → w.cell? ⟨bk, o + j, none⟩ = some (.string x)) (hL : Lies w B A) :
    Calls Tryz.prog 5 #[bookV B A] w fun e w' => ∃ A', e = .returned (bookV B A') ∧ Lies w' B A' ∧ Below w.heap.size w w' ∧ B.names.length ≤ A'.nc ∧ B.decomp.length ≤ A'.dc := by
  obtain ⟨i0, hi, hz0, hz1, hz2⟩ := info_parts info_strs
  have hnl := hs.n
  have cs : ∀ W, Below w.heap.size w W → Calls Tryz.prog 13 #[.slice A.sa B.status.length A.sc] W fun e w' => ∃ a' c', e = .returned (.slice a' B.status.length c') ∧ Vals w' a' B.status ∧ Below W.heap.size W w' := fun W hW => values_any A.sa B.status A.sc W hs.s (hL.s.below hW)
  have cm : ∀ W, Below w.heap.size w W → Calls Tryz.prog 14 #[.slice A.ma B.maps.length A.mc] W fun e w' => ∃ a' c', e = .returned (.slice a' B.maps.length c') ∧ Chrs w' a' B.maps ∧ Below W.heap.size W w' := fun W hW => (lists_any A.ma B.maps A.mc W hs.m hs.mi (hL.m.below hW)).mono fun _ _ ⟨a', c', h1, h2, h3, _⟩ => ⟨a', c', h1, h2, h3⟩
  have ck : ∀ W, Below w.heap.size w W → Calls Tryz.prog 13 #[.slice A.ka B.cls.length A.kc] W fun e w' => ∃ a' c', e = .returned (.slice a' B.cls.length c') ∧ Vals w' a' B.cls ∧ Below W.heap.size W w' := fun W hW => values_any A.ka B.cls A.kc W hs.k (hL.k.below hW)
  have cd : ∀ W, Below w.heap.size w W → Calls Tryz.prog 14 #[.slice A.da B.decomp.length A.dc] W fun e w' => ∃ a' c', e = .returned (.slice a' B.decomp.length c') ∧ Chrs w' a' B.decomp ∧ Below W.heap.size W w' ∧ B.decomp.length ≤ c' := fun W hW => lists_any A.da B.decomp A.dc W hs.d hs.di (hL.d.below hW)
  have cx : ∀ W, Below w.heap.size w W → Calls Tryz.prog 15 #[.slice A.xa B.excl.length A.xc] W fun e w' => ∃ a' c', e = .returned (.slice a' B.excl.length c') ∧ Spns w' a' B.excl ∧ Below W.heap.size W w' := fun W hW => plain_any A.xa B.excl A.xc W hs.x (hL.x.below hW)
  have cb : ∀ W, Below w.heap.size w W → Calls Tryz.prog 13 #[.slice A.ba B.bidi.length A.bc] W fun e w' => ∃ a' c', e = .returned (.slice a' B.bidi.length c') ∧ Vals w' a' B.bidi ∧ Below W.heap.size W w' := fun W hW => values_any A.ba B.bidi A.bc W hs.b (hL.b.below hW)
  have cj : ∀ W, Below w.heap.size w W → Calls Tryz.prog 13 #[.slice A.ja B.join.length A.jc] W fun e w' => ∃ a' c', e = .returned (.slice a' B.join.length c') ∧ Vals w' a' B.join ∧ Below W.heap.size W w' := fun W hW => values_any A.ja B.join A.jc W hs.j (hL.j.below hW)
  have cq : ∀ W, Below w.heap.size w W → Calls Tryz.prog 15 #[.slice A.qa B.marks.length A.qc] W fun e w' => ∃ a' c', e = .returned (.slice a' B.marks.length c') ∧ Spns w' a' B.marks ∧ Below W.heap.size W w' := fun W hW => plain_any A.qa B.marks A.qc W hs.q (hL.q.below hW)
  have cr : ∀ W, Below w.heap.size w W → Calls Tryz.prog 13 #[.slice A.ra B.script.length A.rc] W fun e w' => ∃ a' c', e = .returned (.slice a' B.script.length c') ∧ Vals w' a' B.script ∧ Below W.heap.size W w' := fun W hW => values_any A.ra B.script A.rc W hs.r (hL.r.below hW)
  have cl : ∀ W, Below w.heap.size w W → Calls Tryz.prog 14 #[.slice A.la B.like.length A.lc] W fun e w' => ∃ a' c', e = .returned (.slice a' B.like.length c') ∧ Chrs w' a' B.like ∧ Below W.heap.size W w' := fun W hW => (lists_any A.la B.like A.lc W hs.l hs.li (hL.l.below hW)).mono fun _ _ ⟨a', c', h1, h2, h3, _⟩ => ⟨a', c', h1, h2, h3⟩
  have Cs := Lib.hid cs
  have Cm := Lib.hid cm
  have Ck := Lib.hid ck
  have Cd := Lib.hid cd
  have Cx := Lib.hid cx
  have Cb := Lib.hid cb
  have Cj := Lib.hid cj
  have Cq := Lib.hid cq
  have Cr := Lib.hid cr
  have Cl := Lib.hid cl
  clear cs cm ck cd cx cb cj cq cr cl hL
  unfold bookV
  rw [hA]
  have hbW : Below w.heap.size w (((w.alloc (.cells #[.slice (some ⟨bk, o, none⟩) B.names.length A.nc, .slice A.sa B.status.length A.sc, .slice A.ma B.maps.length A.mc, .slice A.ka B.cls.length A.kc, .slice A.da B.decomp.length A.dc, .slice A.xa B.excl.length A.xc, .slice A.ba B.bidi.length A.bc, .slice A.ja B.join.length A.jc, .slice A.qa B.marks.length A.qc, .slice A.ra B.script.length A.rc, .slice A.la B.like.length A.lc] 27 (0, 0))).alloc (.cells #[.slice none 0 0, .slice none 0 0, .slice none 0 0, .slice none 0 0, .slice none 0 0, .slice none 0 0, .slice none 0 0, .slice none 0 0, .slice none 0 0, .slice none 0 0, .slice none 0 0] 33 (0, 0))).alloc (.cells #[] 9 (0, 0))).drew := ((((Below.refl _ _).alloc (Nat.le_refl _) _).alloc (by simp) _).alloc (by simp; omega) _).drew
  have hmade : (((w.alloc (.cells #[.slice (some ⟨bk, o, none⟩) B.names.length A.nc, .slice A.sa B.status.length A.sc, .slice A.ma B.maps.length A.mc, .slice A.ka B.cls.length A.kc, .slice A.da B.decomp.length A.dc, .slice A.xa B.excl.length A.xc, .slice A.ba B.bidi.length A.bc, .slice A.ja B.join.length A.jc, .slice A.qa B.marks.length A.qc, .slice A.ra B.script.length A.rc, .slice A.la B.like.length A.lc] 27 (0, 0))).alloc (.cells #[.slice none 0 0, .slice none 0 0, .slice none 0 0, .slice none 0 0, .slice none 0 0, .slice none 0 0, .slice none 0 0, .slice none 0 0, .slice none 0 0, .slice none 0 0, .slice none 0 0] 33 (0, 0))).alloc (.cells #[] 9 (0, 0))).drew.ownsRow (w.heap.size + 2) 9 1 (.slice (some ⟨w.heap.size + 2, 0, none⟩) 0 0) 0 [] := by
    have := (World.ownsRow_made (base := w.heap.size + 2) (e := 9) (size := 1) ((w.alloc (.cells #[.slice (some ⟨bk, o, none⟩) B.names.length A.nc, .slice A.sa B.status.length A.sc, .slice A.ma B.maps.length A.mc, .slice A.ka B.cls.length A.kc, .slice A.da B.decomp.length A.dc, .slice A.xa B.excl.length A.xc, .slice A.ba B.bidi.length A.bc, .slice A.ja B.join.length A.jc, .slice A.qa B.marks.length A.qc, .slice A.ra B.script.length A.rc, .slice A.la B.like.length A.lc] 27 (0, 0))).alloc (.cells #[.slice none 0 0, .slice none 0 0, .slice none 0 0, .slice none 0 0, .slice none 0 0, .slice none 0 0, .slice none 0 0, .slice none 0 0, .slice none 0 0, .slice none 0 0, .slice none 0 0] 33 (0, 0))) #[] 0 (by simp) (by decide) rfl).drew
    simpa using this
  have hres1 : (((w.alloc (.cells #[.slice (some ⟨bk, o, none⟩) B.names.length A.nc, .slice A.sa B.status.length A.sc, .slice A.ma B.maps.length A.mc, .slice A.ka B.cls.length A.kc, .slice A.da B.decomp.length A.dc, .slice A.xa B.excl.length A.xc, .slice A.ba B.bidi.length A.bc, .slice A.ja B.join.length A.jc, .slice A.qa B.marks.length A.qc, .slice A.ra B.script.length A.rc, .slice A.la B.like.length A.lc] 27 (0, 0))).alloc (.cells #[.slice none 0 0, .slice none 0 0, .slice none 0 0, .slice none 0 0, .slice none 0 0, .slice none 0 0, .slice none 0 0, .slice none 0 0, .slice none 0 0, .slice none 0 0, .slice none 0 0] 33 (0, 0))).alloc (.cells #[] 9 (0, 0))).drew.heap[w.heap.size + 1]? = some (.cells #[.slice none 0 0, .slice none 0 0, .slice none 0 0, .slice none 0 0, .slice none 0 0, .slice none 0 0, .slice none 0 0, .slice none 0 0, .slice none 0 0, .slice none 0 0, .slice none 0 0] 33 (0, 0)) := by
    have h1 := heap_alloc_new (w.alloc (.cells #[.slice (some ⟨bk, o, none⟩) B.names.length A.nc, .slice A.sa B.status.length A.sc, .slice A.ma B.maps.length A.mc, .slice A.ka B.cls.length A.kc, .slice A.da B.decomp.length A.dc, .slice A.xa B.excl.length A.xc, .slice A.ba B.bidi.length A.bc, .slice A.ja B.join.length A.jc, .slice A.qa B.marks.length A.qc, .slice A.ra B.script.length A.rc, .slice A.la B.like.length A.lc] 27 (0, 0))) (.cells #[.slice none 0 0, .slice none 0 0, .slice none 0 0, .slice none 0 0, .slice none 0 0, .slice none 0 0, .slice none 0 0, .slice none 0 0, .slice none 0 0, .slice none 0 0, .slice none 0 0] 33 (0, 0))
    rw [World.size_alloc] at h1
    exact (heap_alloc_old ((w.alloc (.cells #[.slice (some ⟨bk, o, none⟩) B.names.length A.nc, .slice A.sa B.status.length A.sc, .slice A.ma B.maps.length A.mc, .slice A.ka B.cls.length A.kc, .slice A.da B.decomp.length A.dc, .slice A.xa B.excl.length A.xc, .slice A.ba B.bidi.length A.bc, .slice A.ja B.join.length A.jc, .slice A.qa B.marks.length A.qc, .slice A.ra B.script.length A.rc, .slice A.la B.like.length A.lc] 27 (0, 0))).alloc (.cells #[.slice none 0 0, .slice none 0 0, .slice none 0 0, .slice none 0 0, .slice none 0 0, .slice none 0 0, .slice none 0 0, .slice none 0 0, .slice none 0 0, .slice none 0 0, .slice none 0 0] 33 (0, 0))) _ (by simp)).trans h1
  have HN := Lib.hid (show ∀ j u, (B.names.map Value.string)[j]? = some u → (((w.alloc (.cells #[.slice (some ⟨bk, o, none⟩) B.names.length A.nc, .slice A.sa B.status.length A.sc, .slice A.ma B.maps.length A.mc, .slice A.ka B.cls.length A.kc, .slice A.da B.decomp.length A.dc, .slice A.xa B.excl.length A.xc, .slice A.ba B.bidi.length A.bc, .slice A.ja B.join.length A.jc, .slice A.qa B.marks.length A.qc, .slice A.ra B.script.length A.rc, .slice A.la B.like.length A.lc] 27 (0, 0))).alloc (.cells #[.slice none 0 0, .slice none 0 0, .slice none 0 0, .slice none 0 0, .slice none 0 0, .slice none 0 0, .slice none 0 0, .slice none 0 0, .slice none 0 0, .slice none 0 0, .slice none 0 0] 33 (0, 0))).alloc (.cells #[] 9 (0, 0))).drew.cell? ((⟨bk, o, none⟩ : Addr).add j) = some u from by
    intro j u hu
    rw [Lib.add_plain]
    rw [List.getElem?_map] at hu
    cases hq : B.names[j]? with
    | none => rw [hq] at hu; cases hu
    | some y => rw [hq] at hu; cases hu; exact (hbW.cell (p := ⟨bk, o + j, none⟩) hbk).trans (hc j y hq))
  have hoc : ∀ u ∈ B.names.map Value.string, u.oneCell' = true := fun u hu => by obtain ⟨x, _, rfl⟩ := List.mem_map.1 hu; rfl
  have hzz : 0 + B.names.length = B.names.length := Nat.zero_add _
  clear hc
  go_enter Tryz.func5, Tryz.ntmps5
  go_wp2_with fail
  go_region_held3 (fun w' => w'.cell? ⟨w.heap.size, 0, none⟩ = some (.slice (some ⟨bk, o, none⟩) B.names.length A.nc) ∧ w'.cell? ⟨w.heap.size, 1, none⟩ = some (.slice A.sa B.status.length A.sc) ∧ w'.cell? ⟨w.heap.size, 2, none⟩ = some (.slice A.ma B.maps.length A.mc) ∧ w'.cell? ⟨w.heap.size, 3, none⟩ = some (.slice A.ka B.cls.length A.kc) ∧ w'.cell? ⟨w.heap.size, 4, none⟩ = some (.slice A.da B.decomp.length A.dc) ∧ w'.cell? ⟨w.heap.size, 5, none⟩ = some (.slice A.xa B.excl.length A.xc) ∧ w'.cell? ⟨w.heap.size, 6, none⟩ = some (.slice A.ba B.bidi.length A.bc) ∧ w'.cell? ⟨w.heap.size, 7, none⟩ = some (.slice A.ja B.join.length A.jc) ∧ w'.cell? ⟨w.heap.size, 8, none⟩ = some (.slice A.qa B.marks.length A.qc) ∧ w'.cell? ⟨w.heap.size, 9, none⟩ = some (.slice A.ra B.script.length A.rc) ∧ w'.cell? ⟨w.heap.size, 10, none⟩ = some (.slice A.la B.like.length A.lc))
    (first
      | go_keep
      | (go_split_ands
         refine ⟨?_, ?_, ?_, ?_, ?_, ?_, ?_, ?_, ?_, ?_, ?_⟩ <;> (rw [hb10.cell (by first | exact hlt10 | skip)]; assumption))
      | (go_split_ands
         refine ⟨?_, ?_, ?_, ?_, ?_, ?_, ?_, ?_, ?_, ?_, ?_⟩ <;> (rw [hb9.cell (by first | exact hlt9 | skip)]; assumption))
      | (go_split_ands
         refine ⟨?_, ?_, ?_, ?_, ?_, ?_, ?_, ?_, ?_, ?_, ?_⟩ <;> (rw [hb8.cell (by first | exact hlt8 | skip)]; assumption))
      | (go_split_ands
         refine ⟨?_, ?_, ?_, ?_, ?_, ?_, ?_, ?_, ?_, ?_, ?_⟩ <;> (rw [hb7.cell (by first | exact hlt7 | skip)]; assumption))
      | (go_split_ands
         refine ⟨?_, ?_, ?_, ?_, ?_, ?_, ?_, ?_, ?_, ?_, ?_⟩ <;> (rw [hb6.cell (by first | exact hlt6 | skip)]; assumption))
      | (go_split_ands
         refine ⟨?_, ?_, ?_, ?_, ?_, ?_, ?_, ?_, ?_, ?_, ?_⟩ <;> (rw [hb5.cell (by first | exact hlt5 | skip)]; assumption))
      | (go_split_ands
         refine ⟨?_, ?_, ?_, ?_, ?_, ?_, ?_, ?_, ?_, ?_, ?_⟩ <;> (rw [hb4.cell (by first | exact hlt4 | skip)]; assumption))
      | (go_split_ands
         refine ⟨?_, ?_, ?_, ?_, ?_, ?_, ?_, ?_, ?_, ?_, ?_⟩ <;> (rw [hb3.cell (by first | exact hlt3 | skip)]; assumption))
      | (go_split_ands
         refine ⟨?_, ?_, ?_, ?_, ?_, ?_, ?_, ?_, ?_, ?_, ?_⟩ <;> (rw [hb2.cell (by first | exact hlt2 | skip)]; assumption))
      | (go_split_ands
         refine ⟨?_, ?_, ?_, ?_, ?_, ?_, ?_, ?_, ?_, ?_, ?_⟩ <;> (rw [hb1.cell (by first | exact hlt1 | skip)]; assumption))
      | (go_split_ands
         refine ⟨?_, ?_, ?_, ?_, ?_, ?_, ?_, ?_, ?_, ?_, ?_⟩ <;> (rw [hgrow.cell_far _ (by simp; omega) (by simp [Value.ownBlock])]; assumption)))
    ((first
      | (refine step_append_lies _ (by rfl) _ _ _ (by rfl) (w.heap.size + 2) 9 i0 _ 1 16 Tryz.underlying22 hi hz0 hz1 hz2 rfl (by omega) (.slice (some ⟨w.heap.size + 2, 0, none⟩) 0 0) 0 [] (by rfl) hmade
          ⟨bk, o, none⟩ B.names.length A.nc (B.names.map Value.string) (by rfl) (by simp) HN.out hoc hpos (by unfold maxLen; omega) (by omega) (by simp) (w.heap.size + 3) (by simp) ?_
         intro g cap w0 hown hgrow _ hlt0
         have hb00 := hbW.grown hgrow (by simp; omega) (fun k hk => by have := (show some (w.heap.size + 2) = some k from hk); cases this; omega)
         have hr0 := grown_block hgrow hres1 (by simp [Value.ownBlock])
         have hs0 := block_lt hr0
         have hst0 : Strs w0 (some ⟨g, 0, none⟩) B.names := strs_of_own hzz hown
         have HCN : Hid (B.names.length ≤ cap) := Lib.hid (by have := cap_of_own hown; omega)
         have hlt1 : w.heap.size < w0.heap.size := by omega)
      | (go_at_call_of 13 B.status
         refine (Cs.out _ hb00).mono ?_
         rintro e w1 ⟨a1, c1, rfl, ks1, hb1⟩
         have hb01 := hb00.trans (hb1.mono hb00.size)
         have hr1 := (hb1.block _ hs0).trans hr0
         have hs1 := block_lt hr1
         have hst1 := hst0.below hb1
         have hlt2 : w.heap.size < w1.heap.size := by omega)
      | (go_at_call_of 14 B.maps
         refine (Cm.out _ hb01).mono ?_
         rintro e w2 ⟨a2, c2, rfl, km2, hb2⟩
         have hb02 := hb01.trans (hb2.mono hb01.size)
         have hr2 := (hb2.block _ hs1).trans hr1
         have hs2 := block_lt hr2
         have hst2 := hst1.below hb2
         have ks2 := ks1.below hb2
         have hlt3 : w.heap.size < w2.heap.size := by omega)
      | (go_at_call_of 13 B.cls
         refine (Ck.out _ hb02).mono ?_
         rintro e w3 ⟨a3, c3, rfl, kk3, hb3⟩
         have hb03 := hb02.trans (hb3.mono hb02.size)
         have hr3 := (hb3.block _ hs2).trans hr2
         have hs3 := block_lt hr3
         have hst3 := hst2.below hb3
         have ks3 := ks2.below hb3
         have km3 := km2.below hb3
         have hlt4 : w.heap.size < w3.heap.size := by omega)
      | (go_at_call_of 14 B.decomp
         refine (Cd.out _ hb03).mono ?_
         rintro e w4 ⟨a4, c4, rfl, kd4, hb4, hcd0⟩
         have HCD := Lib.hid hcd0
         clear hcd0
         have hb04 := hb03.trans (hb4.mono hb03.size)
         have hr4 := (hb4.block _ hs3).trans hr3
         have hs4 := block_lt hr4
         have hst4 := hst3.below hb4
         have ks4 := ks3.below hb4
         have km4 := km3.below hb4
         have kk4 := kk3.below hb4
         have hlt5 : w.heap.size < w4.heap.size := by omega)
      | (go_at_call_of 15 B.excl
         refine (Cx.out _ hb04).mono ?_
         rintro e w5 ⟨a5, c5, rfl, kx5, hb5⟩
         have hb05 := hb04.trans (hb5.mono hb04.size)
         have hr5 := (hb5.block _ hs4).trans hr4
         have hs5 := block_lt hr5
         have hst5 := hst4.below hb5
         have ks5 := ks4.below hb5
         have km5 := km4.below hb5
         have kk5 := kk4.below hb5
         have kd5 := kd4.below hb5
         have hlt6 : w.heap.size < w5.heap.size := by omega)
      | (go_at_call_of 13 B.bidi
         refine (Cb.out _ hb05).mono ?_
         rintro e w6 ⟨a6, c6, rfl, kb6, hb6⟩
         have hb06 := hb05.trans (hb6.mono hb05.size)
         have hr6 := (hb6.block _ hs5).trans hr5
         have hs6 := block_lt hr6
         have hst6 := hst5.below hb6
         have ks6 := ks5.below hb6
         have km6 := km5.below hb6
         have kk6 := kk5.below hb6
         have kd6 := kd5.below hb6
         have kx6 := kx5.below hb6
         have hlt7 : w.heap.size < w6.heap.size := by omega)
      | (go_at_call_of 13 B.join
         refine (Cj.out _ hb06).mono ?_
         rintro e w7 ⟨a7, c7, rfl, kj7, hb7⟩
         have hb07 := hb06.trans (hb7.mono hb06.size)
         have hr7 := (hb7.block _ hs6).trans hr6
         have hs7 := block_lt hr7
         have hst7 := hst6.below hb7
         have ks7 := ks6.below hb7
         have km7 := km6.below hb7
         have kk7 := kk6.below hb7
         have kd7 := kd6.below hb7
         have kx7 := kx6.below hb7
         have kb7 := kb6.below hb7
         have hlt8 : w.heap.size < w7.heap.size := by omega)
      | (go_at_call_of 15 B.marks
         refine (Cq.out _ hb07).mono ?_
         rintro e w8 ⟨a8, c8, rfl, kq8, hb8⟩
         have hb08 := hb07.trans (hb8.mono hb07.size)
         have hr8 := (hb8.block _ hs7).trans hr7
         have hs8 := block_lt hr8
         have hst8 := hst7.below hb8
         have ks8 := ks7.below hb8
         have km8 := km7.below hb8
         have kk8 := kk7.below hb8
         have kd8 := kd7.below hb8
         have kx8 := kx7.below hb8
         have kb8 := kb7.below hb8
         have kj8 := kj7.below hb8
         have hlt9 : w.heap.size < w8.heap.size := by omega)
      | (go_at_call_of 13 B.script
         refine (Cr.out _ hb08).mono ?_
         rintro e w9 ⟨a9, c9, rfl, kr9, hb9⟩
         have hb09 := hb08.trans (hb9.mono hb08.size)
         have hr9 := (hb9.block _ hs8).trans hr8
         have hs9 := block_lt hr9
         have hst9 := hst8.below hb9
         have ks9 := ks8.below hb9
         have km9 := km8.below hb9
         have kk9 := kk8.below hb9
         have kd9 := kd8.below hb9
         have kx9 := kx8.below hb9
         have kb9 := kb8.below hb9
         have kj9 := kj8.below hb9
         have kq9 := kq8.below hb9
         have hlt10 : w.heap.size < w9.heap.size := by omega)
      | (go_at_call_of 14 B.like
         refine (Cl.out _ hb09).mono ?_
         rintro e w10 ⟨a10, c10, rfl, kl10, hb10⟩
         have hb010 := hb09.trans (hb10.mono hb09.size)
         have hr10 := (hb10.block _ hs9).trans hr9
         have hs10 := block_lt hr10
         have hst10 := hst9.below hb10
         have ks10 := ks9.below hb10
         have km10 := km9.below hb10
         have kk10 := kk9.below hb10
         have kd10 := kd9.below hb10
         have kx10 := kx9.below hb10
         have kb10 := kb9.below hb10
         have kj10 := kj9.below hb10
         have kq10 := kq9.below hb10
         have kr10 := kr9.below hb10
         have hlt11 : w.heap.size < w10.heap.size := by omega
         have f0 := block_free (i := 0) hr10
         have r0 : w10.cell? ⟨w.heap.size + 1, 0, none⟩ = some (.slice none 0 0) := (block_cell (i := 0) hr10).trans rfl
         have f1 := block_free (i := 1) hr10
         have r1 : w10.cell? ⟨w.heap.size + 1, 1, none⟩ = some (.slice none 0 0) := (block_cell (i := 1) hr10).trans rfl
         have f2 := block_free (i := 2) hr10
         have r2 : w10.cell? ⟨w.heap.size + 1, 2, none⟩ = some (.slice none 0 0) := (block_cell (i := 2) hr10).trans rfl
         have f3 := block_free (i := 3) hr10
         have r3 : w10.cell? ⟨w.heap.size + 1, 3, none⟩ = some (.slice none 0 0) := (block_cell (i := 3) hr10).trans rfl
         have f4 := block_free (i := 4) hr10
         have r4 : w10.cell? ⟨w.heap.size + 1, 4, none⟩ = some (.slice none 0 0) := (block_cell (i := 4) hr10).trans rfl
         have f5 := block_free (i := 5) hr10
         have r5 : w10.cell? ⟨w.heap.size + 1, 5, none⟩ = some (.slice none 0 0) := (block_cell (i := 5) hr10).trans rfl
         have f6 := block_free (i := 6) hr10
         have r6 : w10.cell? ⟨w.heap.size + 1, 6, none⟩ = some (.slice none 0 0) := (block_cell (i := 6) hr10).trans rfl
         have f7 := block_free (i := 7) hr10
         have r7 : w10.cell? ⟨w.heap.size + 1, 7, none⟩ = some (.slice none 0 0) := (block_cell (i := 7) hr10).trans rfl
         have f8 := block_free (i := 8) hr10
         have r8 : w10.cell? ⟨w.heap.size + 1, 8, none⟩ = some (.slice none 0 0) := (block_cell (i := 8) hr10).trans rfl
         have f9 := block_free (i := 9) hr10
         have r9 : w10.cell? ⟨w.heap.size + 1, 9, none⟩ = some (.slice none 0 0) := (block_cell (i := 9) hr10).trans rfl
         have f10 := block_free (i := 10) hr10
         have r10 : w10.cell? ⟨w.heap.size + 1, 10, none⟩ = some (.slice none 0 0) := (block_cell (i := 10) hr10).trans rfl)))
  have hset := set11 w10 (w.heap.size + 1) (.slice none 0 0) (.slice none 0 0) (.slice none 0 0) (.slice none 0 0) (.slice none 0 0) (.slice none 0 0) (.slice none 0 0) (.slice none 0 0) (.slice none 0 0) (.slice none 0 0) (.slice none 0 0) (.slice (some ⟨g, 0, none⟩) B.names.length cap) (.slice a1 B.status.length c1) (.slice a2 B.maps.length c2) (.slice a3 B.cls.length c3) (.slice a4 B.decomp.length c4) (.slice a5 B.excl.length c5) (.slice a6 B.bidi.length c6) (.slice a7 B.join.length c7) (.slice a8 B.marks.length c8) (.slice a9 B.script.length c9) (.slice a10 B.like.length c10) 33 hr10
  obtain ⟨hfin, hoth, hbel⟩ := hset
  have hbf := hbel _ _ hb010 (Nat.le_succ _)
  clear hbel
  go_wp2_with fail
  generalize (((((((((((w10.setCell ⟨w.heap.size + 1, 0, none⟩ (.slice (some ⟨g, 0, none⟩) B.names.length cap)).setCell ⟨w.heap.size + 1, 1, none⟩ (.slice a1 B.status.length c1)).setCell ⟨w.heap.size + 1, 2, none⟩ (.slice a2 B.maps.length c2)).setCell ⟨w.heap.size + 1, 3, none⟩ (.slice a3 B.cls.length c3)).setCell ⟨w.heap.size + 1, 4, none⟩ (.slice a4 B.decomp.length c4)).setCell ⟨w.heap.size + 1, 5, none⟩ (.slice a5 B.excl.length c5)).setCell ⟨w.heap.size + 1, 6, none⟩ (.slice a6 B.bidi.length c6)).setCell ⟨w.heap.size + 1, 7, none⟩ (.slice a7 B.join.length c7)).setCell ⟨w.heap.size + 1, 8, none⟩ (.slice a8 B.marks.length c8)).setCell ⟨w.heap.size + 1, 9, none⟩ (.slice a9 B.script.length c9)).setCell ⟨w.heap.size + 1, 10, none⟩ (.slice a10 B.like.length c10)) = W2 at *

  have z0 : W2.cell? ⟨w.heap.size + 1, 0, none⟩ = some (.slice (some ⟨g, 0, none⟩) B.names.length cap) := (block_cell (i := 0) hfin).trans rfl
  have z1 : W2.cell? ⟨w.heap.size + 1, 1, none⟩ = some (.slice a1 B.status.length c1) := (block_cell (i := 1) hfin).trans rfl
  have z2 : W2.cell? ⟨w.heap.size + 1, 2, none⟩ = some (.slice a2 B.maps.length c2) := (block_cell (i := 2) hfin).trans rfl
  have z3 : W2.cell? ⟨w.heap.size + 1, 3, none⟩ = some (.slice a3 B.cls.length c3) := (block_cell (i := 3) hfin).trans rfl
  have z4 : W2.cell? ⟨w.heap.size + 1, 4, none⟩ = some (.slice a4 B.decomp.length c4) := (block_cell (i := 4) hfin).trans rfl
  have z5 : W2.cell? ⟨w.heap.size + 1, 5, none⟩ = some (.slice a5 B.excl.length c5) := (block_cell (i := 5) hfin).trans rfl
  have z6 : W2.cell? ⟨w.heap.size + 1, 6, none⟩ = some (.slice a6 B.bidi.length c6) := (block_cell (i := 6) hfin).trans rfl
  have z7 : W2.cell? ⟨w.heap.size + 1, 7, none⟩ = some (.slice a7 B.join.length c7) := (block_cell (i := 7) hfin).trans rfl
  have z8 : W2.cell? ⟨w.heap.size + 1, 8, none⟩ = some (.slice a8 B.marks.length c8) := (block_cell (i := 8) hfin).trans rfl
  have z9 : W2.cell? ⟨w.heap.size + 1, 9, none⟩ = some (.slice a9 B.script.length c9) := (block_cell (i := 9) hfin).trans rfl
  have z10 : W2.cell? ⟨w.heap.size + 1, 10, none⟩ = some (.slice a10 B.like.length c10) := (block_cell (i := 10) hfin).trans rfl
  have hsz2 : w10.heap.size ≤ W2.heap.size := size_other hr10 hfin hoth
  refine bodyPost_ret (v := .agg #[.slice (some ⟨g, 0, none⟩) B.names.length cap, .slice a1 B.status.length c1, .slice a2 B.maps.length c2, .slice a3 B.cls.length c3, .slice a4 B.decomp.length c4, .slice a5 B.excl.length c5, .slice a6 B.bidi.length c6, .slice a7 B.join.length c7, .slice a8 B.marks.length c8, .slice a9 B.script.length c9, .slice a10 B.like.length c10]) ?_ rfl ⟨⟨some ⟨g, 0, none⟩, cap, a1, c1, a2, c2, a3, c3, a4, c4, a5, c5, a6, c6, a7, c7, a8, c8, a9, c9, a10, c10⟩, rfl, ⟨strs_other hst10 hr10 hoth hsz2, tab_other ks10 hr10 first_val hoth hsz2, chrs_other km10 hr10 hoth hsz2, tab_other kk10 hr10 first_val hoth hsz2, chrs_other kd10 hr10 hoth hsz2, tab_other kx10 hr10 first_spn hoth hsz2, tab_other kb10 hr10 first_val hoth hsz2, tab_other kj10 hr10 first_val hoth hsz2, tab_other kq10 hr10 first_spn hoth hsz2, tab_other kr10 hr10 first_val hoth hsz2, chrs_other kl10 hr10 hoth hsz2⟩, hbf, HCN.out, HCD.out⟩
  simp [results, Tryz.results5, go_sem, z0, z1, z2, z3, z4, z5, z6, z7, z8, z9, z10]
end Go.Proofs.YtgdambmineeboaaGreatDoor.Book
