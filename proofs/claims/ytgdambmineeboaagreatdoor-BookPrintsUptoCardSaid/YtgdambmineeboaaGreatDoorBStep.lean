/- One line of a book, taken: what book.take makes of the state. -/
import Derived.Test.YtgdambmineeboaaGreatDoorBTake2
import Derived.Test.YtgdambmineeboaaGreatDoorBTake3
set_option linter.unusedSimpArgs false
set_option linter.unusedVariables false
namespace Go.Proofs.YtgdambmineeboaaGreatDoor.Step
open Go.RowKit Go.Lib Go.Proofs.YtgdambmineeboaaGreatDoor.Text Go.Proofs.YtgdambmineeboaaGreatDoor.Runes Go.Proofs.YtgdambmineeboaaGreatDoor.Print Go.Proofs.YtgdambmineeboaaGreatDoor.RefNine Go.Proofs.YtgdambmineeboaaGreatDoor.Format Go.Proofs.YtgdambmineeboaaGreatDoor.Tell Go.Proofs.YtgdambmineeboaaGreatDoor.Given Go.Proofs.YtgdambmineeboaaGreatDoor.Mem Go.Proofs.YtgdambmineeboaaGreatDoor.Told Go.Proofs.YtgdambmineeboaaGreatDoor.Lines10 Go.Proofs.YtgdambmineeboaaGreatDoor.RSt Go.Proofs.YtgdambmineeboaaGreatDoor.Dirs Go.Proofs.YtgdambmineeboaaGreatDoor.MapK Go.Proofs.YtgdambmineeboaaGreatDoor.Kinds Go.Proofs.YtgdambmineeboaaGreatDoor.Lns Go.Proofs.YtgdambmineeboaaGreatDoor.Cut Go.Proofs.YtgdambmineeboaaGreatDoor.Readers Go.Proofs.YtgdambmineeboaaGreatDoor.Vals10
def lnB (B : Mem.Book) : Nat → Nat
 | 0 => B.names.length
 | 1 => B.status.length
 | 2 => B.maps.length
 | 3 => B.cls.length
 | 4 => B.decomp.length
 | 5 => B.excl.length
 | 6 => B.bidi.length
 | 7 => B.join.length
 | 8 => B.marks.length
 | 9 => B.script.length
 | 10 => B.like.length
 | _ => 0
def csB (B : Mem.Book) (ms ds ls : List Raw) : Nat → List Value
 | 0 => B.names.map Value.string
 | 1 => flat encV B.status
 | 2 => flat Mem.encR ms
 | 3 => flat encV B.cls
 | 4 => flat Mem.encR ds
 | 5 => flat encS B.excl
 | 6 => flat encV B.bidi
 | 7 => flat encV B.join
 | 8 => flat encS B.marks
 | 9 => flat encV B.script
 | 10 => flat Mem.encR ls
 | _ => []
theorem rx_congr {RB base : Nat} {w0 : World} {ln ln' : Nat → Nat} {cs cs' : Nat → List Value} {rs : List Raw} {A : World} (h : RX RB base w0 ln cs rs A) (h1 : ∀ i, i < 11 → ln i = ln' i) (h2 : ∀ i, i < 11 → cs i = cs' i) : RX RB base w0 ln' cs' rs A := by
 obtain ⟨vs, h⟩ := h
 exact ⟨vs, h.bx, fun i hi => by rw [← h1 i hi, ← h2 i hi]; exact h.own i hi, h.dis, h.rn, h.g, h.lt, h.bs⟩
/-- A book that is being read lies in its box. -/
def RSB (RB base : Nat) (w0 : World) (B : Mem.Book) (W : World) : Prop := ∃ ms ds ls rs, ms.map Raw.plain = B.maps ∧ ds.map Raw.plain = B.decomp ∧ ls.map Raw.plain = B.like ∧ (∀ r, r ∈ ms ∨ r ∈ ds ∨ r ∈ ls → r ∈ rs) ∧ RX RB base w0 (lnB B) (csB B ms ds ls) rs W
theorem RSB.below {RB base : Nat} {w0 : World} {B : Mem.Book} {A A' : World} (h : RSB RB base w0 B A) (hb : Below A.heap.size A A') : RSB RB base w0 B A' := by
 obtain ⟨ms, ds, ls, rs, h1, h2, h3, h4, h5⟩ := h
 exact ⟨ms, ds, ls, rs, h1, h2, h3, h4, h5.below hb⟩
theorem RSB.keep {RB base : Nat} {w0 : World} {B : Mem.Book} {A A' : World} (h : RSB RB base w0 B A) {row : Option Nat} (hg : A.grownBy A' row) (hr : ∀ l, row = some l → w0.heap.size ≤ l ∧ l < base) : RSB RB base w0 B A' := by
 obtain ⟨ms, ds, ls, rs, h1, h2, h3, h4, h5⟩ := h
 exact ⟨ms, ds, ls, rs, h1, h2, h3, h4, h5.keep hg hr⟩
theorem flat_one {α : Type} (enc : α → List Value) (l : List α) (x : α) : flat enc (l ++ [x]) = flat enc l ++ enc x := by unfold flat; simp
theorem eleven {i : Nat} (h : i < 11) : i = 0 ∨ i = 1 ∨ i = 2 ∨ i = 3 ∨ i = 4 ∨ i = 5 ∨ i = 6 ∨ i = 7 ∨ i = 8 ∨ i = 9 ∨ i = 10 := by omega
theorem entry_old {W W' : World} {MB : Nat} {k : ByteArray} {v : Value} (h : Entry W MB k v) (hm : W'.heap[MB]? = W.heap[MB]?) : Entry W' MB k v := by
 obtain ⟨es, c, i, h1, h2⟩ := h
 exact ⟨es, c, i, hm.trans h1, h2⟩
/-- What a taken line leaves. -/
def Took (RB base : Nat) (w0 : World) (B : Mem.Book) (W w' : World) : Prop := RSB RB base w0 B w' ∧ Kp RB base W w'

theorem ptr2_any (RB : Nat) (W : World) : Calls Tryz.prog 97 #[.pointer (some ⟨RB, 0, none⟩)] W fun e w' => e = .returned (.pointer (some ⟨RB, 2, none⟩)) ∧ W = w' := by
 go_enter Tryz.func97, Tryz.ntmps97
 go_wp2
 go_ret
 exact ⟨rfl, rfl⟩
theorem ptr3_any (RB : Nat) (W : World) : Calls Tryz.prog 99 #[.pointer (some ⟨RB, 0, none⟩)] W fun e w' => e = .returned (.pointer (some ⟨RB, 3, none⟩)) ∧ W = w' := by
 go_enter Tryz.func99, Tryz.ntmps99
 go_wp2
 go_ret
 exact ⟨rfl, rfl⟩
theorem ptr4_any (RB : Nat) (W : World) : Calls Tryz.prog 102 #[.pointer (some ⟨RB, 0, none⟩)] W fun e w' => e = .returned (.pointer (some ⟨RB, 4, none⟩)) ∧ W = w' := by
 go_enter Tryz.func102, Tryz.ntmps102
 go_wp2
 go_ret
 exact ⟨rfl, rfl⟩
theorem ptr5_any (RB : Nat) (W : World) : Calls Tryz.prog 104 #[.pointer (some ⟨RB, 0, none⟩)] W fun e w' => e = .returned (.pointer (some ⟨RB, 5, none⟩)) ∧ W = w' := by
 go_enter Tryz.func104, Tryz.ntmps104
 go_wp2
 go_ret
 exact ⟨rfl, rfl⟩
theorem ptr6_any (RB : Nat) (W : World) : Calls Tryz.prog 105 #[.pointer (some ⟨RB, 0, none⟩)] W fun e w' => e = .returned (.pointer (some ⟨RB, 6, none⟩)) ∧ W = w' := by
 go_enter Tryz.func105, Tryz.ntmps105
 go_wp2
 go_ret
 exact ⟨rfl, rfl⟩
theorem ptr7_any (RB : Nat) (W : World) : Calls Tryz.prog 107 #[.pointer (some ⟨RB, 0, none⟩)] W fun e w' => e = .returned (.pointer (some ⟨RB, 7, none⟩)) ∧ W = w' := by
 go_enter Tryz.func107, Tryz.ntmps107
 go_wp2
 go_ret
 exact ⟨rfl, rfl⟩
theorem ptr8_any (RB : Nat) (W : World) : Calls Tryz.prog 108 #[.pointer (some ⟨RB, 0, none⟩)] W fun e w' => e = .returned (.pointer (some ⟨RB, 8, none⟩)) ∧ W = w' := by
 go_enter Tryz.func108, Tryz.ntmps108
 go_wp2
 go_ret
 exact ⟨rfl, rfl⟩
theorem ptr9_any (RB : Nat) (W : World) : Calls Tryz.prog 109 #[.pointer (some ⟨RB, 0, none⟩)] W fun e w' => e = .returned (.pointer (some ⟨RB, 9, none⟩)) ∧ W = w' := by
 go_enter Tryz.func109, Tryz.ntmps109
 go_wp2
 go_ret
 exact ⟨rfl, rfl⟩
theorem ptr10_any (RB : Nat) (W : World) : Calls Tryz.prog 111 #[.pointer (some ⟨RB, 0, none⟩)] W fun e w' => e = .returned (.pointer (some ⟨RB, 10, none⟩)) ∧ W = w' := by
 go_enter Tryz.func111, Tryz.ntmps111
 go_wp2
 go_ret
 exact ⟨rfl, rfl⟩
/-- Where the fields of a line lie. -/
theorem fields_at {W : World} {ad : Option Addr} {fs : List ByteArray} (h : Strs W ad fs) {k at1 : ByteArray} {r : List ByteArray} (hf : fs = k :: at1 :: r) : ∃ bk o, ad = some ⟨bk, o, none⟩ ∧ bk < W.heap.size ∧ W.cell? ⟨bk, o, none⟩ = some (.string k) ∧ W.cell? ⟨bk, o + 1, none⟩ = some (.string at1) ∧ ∀ m, r[0]? = some m → W.cell? ⟨bk, o + 2, none⟩ = some (.string m) := by
 rcases h with h0 | ⟨bk, o, h1, h2, h3⟩
 ·rw [hf] at h0; cases h0
 ·subst hf
  exact ⟨bk, o, h1, h2, h3 0 k rfl, h3 1 at1 rfl, fun m hm => h3 2 m hm⟩
/-- What every round of the reading leans on. -/
structure Ground (RB MB base : Nat) (w0 : World) : Prop where
 k : KAt (RB + 1) w0 MB
 m : RB < MB
 ml : MB < w0.heap.size
 q : Quick w0
 qr : 2 ≠ RB
 nb : w0.heap[RB]? = some (.cells (boxA fun _ => .slice none 0 0) 27 (0, 0))
theorem box_str {k o : Nat} {W : World} {s : ByteArray} (h : W.heap[k]? = some (.cells (boxA fun _ => .slice none 0 0) 27 (0, 0))) : W.cell? ⟨k, o, none⟩ ≠ some (.string s) := by
 intro hc
 rw [block_cell (i := o) h] at hc
 by_cases ho : o < 11
 ·rw [boxA_at _ ho] at hc
  cases hc
 ·unfold boxA at hc
  rw [Array.getElem?_eq_none (by simp; omega)] at hc
  cases hc
/-- The names of a kind, in any later world. -/
theorem names_old {RB base : Nat} {w0 : World} {ln : Nat → Nat} {cs : Nat → List Value} {rs : List Raw} {A : World} (h : RX RB base w0 ln cs rs A) (hb : w0.heap[RB]? = some (.cells (boxA fun _ => .slice none 0 0) 27 (0, 0))) {ad : Option Addr} {l : List ByteArray} (hs : ∃ bk of, ad = some ⟨bk, of, none⟩ ∧ ∀ (j : Nat) x, l[j]? = some x → w0.cell? ⟨bk, of + j, none⟩ = some (.string x)) (hne : l ≠ []) : Strs A ad l := by
 obtain ⟨bk, of, h1, h2⟩ := hs
 have h0 : ∃ x, l[0]? = some x := by cases l with | nil => exact absurd rfl hne | cons x r => exact ⟨x, rfl⟩
 obtain ⟨x, hx⟩ := h0
 have hbk : bk ≠ RB := fun e => by subst e; exact box_str hb (h2 0 x hx)
 have hlt := World.block_lt_of_cell? _ _ (h2 0 x hx)
 obtain ⟨_, hh⟩ := h
 exact .inr ⟨bk, of, h1, Nat.lt_of_lt_of_le hlt hh.g.size, fun j x hx => RX.oldCell ⟨_, hh⟩ (h2 j x hx) hbk⟩

theorem step_st {RB MB base : Nat} {w0 : World} (G : Ground RB MB base w0) (B : Mem.Book) (hlen : ∀ i, lnB B i ≤ 1048575) (W : World) (h : RSB RB base w0 B W) (hz : base ≤ W.heap.size) (num : Int) (note : ByteArray) (ad : Option Addr) (c : Nat) (x : Val) (hn : x.n = 1 ∨ x.n = 2 ∨ x.n = 3) (hsp : Sp x.a x.b) (at1 : ByteArray) (hat : at1.data.toList = atL x.a x.b) (hc : 2 ≤ c) (hst : Strs W ad [PrintP.stB x.n, at1]) : Calls Tryz.prog 39 #[.map (some MB), .pointer (some ⟨RB, 0, none⟩), .agg #[.int .i64 num, .slice ad 2 c, .string note]] W fun e w' => e = .returned (.int .i64 0) ∧ Took RB base w0 (addLn B (.st x)) W w' := by
 obtain ⟨ms, ds, ls, rs, hm, hd, hl, hr, hx⟩ := h
 have hmb : W.heap[MB]? = w0.heap[MB]? := hx.old G.ml (by have := G.m; omega)
 have hQ : Quick W := ⟨G.q.1.elim fun m hm => ⟨m, hx.oldCell hm G.qr⟩, by obtain ⟨_, hh⟩ := hx; have := hh.g.size; have := G.q.2; omega⟩
 obtain ⟨bx, he, hbx⟩ : StK (RB + 1) w0 MB (PrintP.stB x.n) x.n := by
  rcases hn with h | h | h <;> rw [h]
  ·exact G.k.k_valid
  ·exact G.k.k_ignored
  ·exact G.k.k_deviation
 obtain ⟨bk, o, f1, f2, f3, f4, _⟩ := fields_at hst rfl
 refine Take2.take_any RB MB W num note ad c (PrintP.stB x.n) at1 x.a x.b 149 _ _ hc ⟨bk, o, f1, f2, f3, f4⟩ (entry_old he hmb) hat hsp hQ (enters_of Tryz.func149 (by kernel_rfl) rfl) fun W2 hW2 => ?_
 refine (TakeT.status1_any RB base w0 (lnB B) (csB B ms ds ls) rs W2 (hx.below hW2) (by have := hlen 1; omega) x.a x.b x.n at1 bx hbx.2 (by have := hbx.1; omega) (Nat.le_trans hz hW2.size)).mono ?_
 rintro e w' ⟨he, hx', hk⟩
 exact ⟨he, ⟨ms, ds, ls, rs, hm, hd, hl, hr, rx_congr hx' (fun i hi => by rcases eleven hi with rfl | rfl | rfl | rfl | rfl | rfl | rfl | rfl | rfl | rfl | rfl <;> simp [updV, lnB, csB, addLn, flat_one]) (fun i hi => by rcases eleven hi with rfl | rfl | rfl | rfl | rfl | rfl | rfl | rfl | rfl | rfl | rfl <;> simp [updV, lnB, csB, addLn, flat_one])⟩, (Kp.of_below hW2).trans hk⟩
theorem step_ex {RB MB base : Nat} {w0 : World} (G : Ground RB MB base w0) (B : Mem.Book) (hlen : ∀ i, lnB B i ≤ 1048575) (W : World) (h : RSB RB base w0 B W) (hz : base ≤ W.heap.size) (num : Int) (note : ByteArray) (ad : Option Addr) (c : Nat) (x : Spn) (hsp : Sp x.a x.b) (at1 : ByteArray) (hat : at1.data.toList = atL x.a x.b) (hc : 2 ≤ c) (hst : Strs W ad [⟨#[101, 120, 99, 108, 117, 100, 101, 100]⟩, at1]) : Calls Tryz.prog 39 #[.map (some MB), .pointer (some ⟨RB, 0, none⟩), .agg #[.int .i64 num, .slice ad 2 c, .string note]] W fun e w' => e = .returned (.int .i64 0) ∧ Took RB base w0 (addLn B (.ex x)) W w' := by
 obtain ⟨ms, ds, ls, rs, hm, hd, hl, hr, hx⟩ := h
 have hmb : W.heap[MB]? = w0.heap[MB]? := hx.old G.ml (by have := G.m; omega)
 have hQ : Quick W := ⟨G.q.1.elim fun m hm => ⟨m, hx.oldCell hm G.qr⟩, by obtain ⟨_, hh⟩ := hx; have := hh.g.size; have := G.q.2; omega⟩
 obtain ⟨bx, he, hbx⟩ := G.k.k_excluded
 obtain ⟨bk, o, f1, f2, f3, f4, _⟩ := fields_at hst rfl
 refine Take2.take_any RB MB W num note ad c ⟨#[101, 120, 99, 108, 117, 100, 101, 100]⟩ at1 x.a x.b 155 _ _ hc ⟨bk, o, f1, f2, f3, f4⟩ (entry_old he hmb) hat hsp hQ (enters_of Tryz.func155 (by kernel_rfl) rfl) fun W2 hW2 => ?_
 refine (TakeS.spans1_any 5 104 (by decide) rfl rfl RB base w0 (lnB B) (csB B ms ds ls) rs W2 (hx.below hW2) (by have := hlen 5; omega) x.a x.b at1 bx hbx.2 (by have := hbx.1; omega) (Nat.le_trans hz hW2.size) (enters_of Tryz.func104 (by kernel_rfl) rfl) (fun W' => ptr5_any RB W')).mono ?_
 rintro e w' ⟨he, hx', hk⟩
 exact ⟨he, ⟨ms, ds, ls, rs, hm, hd, hl, hr, rx_congr hx' (fun i hi => by rcases eleven hi with rfl | rfl | rfl | rfl | rfl | rfl | rfl | rfl | rfl | rfl | rfl <;> simp [updV, lnB, csB, addLn, flat_one]) (fun i hi => by rcases eleven hi with rfl | rfl | rfl | rfl | rfl | rfl | rfl | rfl | rfl | rfl | rfl <;> simp [updV, lnB, csB, addLn, flat_one])⟩, (Kp.of_below hW2).trans hk⟩
theorem step_ma {RB MB base : Nat} {w0 : World} (G : Ground RB MB base w0) (B : Mem.Book) (hlen : ∀ i, lnB B i ≤ 1048575) (W : World) (h : RSB RB base w0 B W) (hz : base ≤ W.heap.size) (num : Int) (note : ByteArray) (ad : Option Addr) (c : Nat) (x : Spn) (hsp : Sp x.a x.b) (at1 : ByteArray) (hat : at1.data.toList = atL x.a x.b) (hc : 2 ≤ c) (hst : Strs W ad [⟨#[109, 97, 114, 107]⟩, at1]) : Calls Tryz.prog 39 #[.map (some MB), .pointer (some ⟨RB, 0, none⟩), .agg #[.int .i64 num, .slice ad 2 c, .string note]] W fun e w' => e = .returned (.int .i64 0) ∧ Took RB base w0 (addLn B (.ma x)) W w' := by
 obtain ⟨ms, ds, ls, rs, hm, hd, hl, hr, hx⟩ := h
 have hmb : W.heap[MB]? = w0.heap[MB]? := hx.old G.ml (by have := G.m; omega)
 have hQ : Quick W := ⟨G.q.1.elim fun m hm => ⟨m, hx.oldCell hm G.qr⟩, by obtain ⟨_, hh⟩ := hx; have := hh.g.size; have := G.q.2; omega⟩
 obtain ⟨bx, he, hbx⟩ := G.k.k_mark
 obtain ⟨bk, o, f1, f2, f3, f4, _⟩ := fields_at hst rfl
 refine Take2.take_any RB MB W num note ad c ⟨#[109, 97, 114, 107]⟩ at1 x.a x.b 155 _ _ hc ⟨bk, o, f1, f2, f3, f4⟩ (entry_old he hmb) hat hsp hQ (enters_of Tryz.func155 (by kernel_rfl) rfl) fun W2 hW2 => ?_
 refine (TakeS.spans1_any 8 108 (by decide) rfl rfl RB base w0 (lnB B) (csB B ms ds ls) rs W2 (hx.below hW2) (by have := hlen 8; omega) x.a x.b at1 bx hbx.2 (by have := hbx.1; omega) (Nat.le_trans hz hW2.size) (enters_of Tryz.func108 (by kernel_rfl) rfl) (fun W' => ptr8_any RB W')).mono ?_
 rintro e w' ⟨he, hx', hk⟩
 exact ⟨he, ⟨ms, ds, ls, rs, hm, hd, hl, hr, rx_congr hx' (fun i hi => by rcases eleven hi with rfl | rfl | rfl | rfl | rfl | rfl | rfl | rfl | rfl | rfl | rfl <;> simp [updV, lnB, csB, addLn, flat_one]) (fun i hi => by rcases eleven hi with rfl | rfl | rfl | rfl | rfl | rfl | rfl | rfl | rfl | rfl | rfl <;> simp [updV, lnB, csB, addLn, flat_one])⟩, (Kp.of_below hW2).trans hk⟩
theorem step_mp {RB MB base : Nat} {w0 : World} (G : Ground RB MB base w0) (B : Mem.Book) (hlen : ∀ i, lnB B i ≤ 1048575) (W : World) (h : RSB RB base w0 B W) (hz : base ≤ W.heap.size) (num : Int) (note : ByteArray) (ad : Option Addr) (c : Nat) (x : Chr) (hsp : Sp x.a x.b) (htk : TellOk x.is) (at1 : ByteArray) (hat : at1.data.toList = atL x.a x.b) (hc : 3 ≤ c) (hst : Strs W ad [⟨#[109, 97, 112, 112, 101, 100]⟩, at1, ⟨(tellText x.is).toArray⟩]) : Calls Tryz.prog 39 #[.map (some MB), .pointer (some ⟨RB, 0, none⟩), .agg #[.int .i64 num, .slice ad 3 c, .string note]] W fun e w' => e = .returned (.int .i64 0) ∧ Took RB base w0 (addLn B (.mp x)) W w' := by
 obtain ⟨ms, ds, ls, rs, hm, hd, hl, hr, hx⟩ := h
 have hmb : W.heap[MB]? = w0.heap[MB]? := hx.old G.ml (by have := G.m; omega)
 have hQ : Quick W := ⟨G.q.1.elim fun m hm => ⟨m, hx.oldCell hm G.qr⟩, by obtain ⟨_, hh⟩ := hx; have := hh.g.size; have := G.q.2; omega⟩
 obtain ⟨bx, he, hbx⟩ := G.k.k_mapped
 obtain ⟨bk, o, f1, f2, f3, f4, f5⟩ := fields_at hst rfl
 refine Take3.take_any RB MB W num note ad c ⟨#[109, 97, 112, 112, 101, 100]⟩ at1 ⟨(tellText x.is).toArray⟩ x.a x.b 150 _ _ hc ⟨bk, o, f1, f2, f3, f4, f5 _ rfl⟩ (entry_old he hmb) hat hsp hQ (enters_of Tryz.func150 (by kernel_rfl) rfl) fun W2 hW2 => ?_
 refine (TakeC.chars1_any 2 97 (by decide) rfl rfl RB base w0 (lnB B) (csB B ms ds ls) rs W2 (hx.below hW2) (by have := hlen 2; omega) x.a x.b x.is htk.1 htk.2 bx hbx.2 (by have := hbx.1; omega) (Nat.le_trans hz hW2.size) G.q G.qr (enters_of Tryz.func97 (by kernel_rfl) rfl) (fun W' => ptr2_any RB W')).mono ?_
 rintro e w' ⟨he, ⟨ra, rcap, hx'⟩, hk⟩
 refine ⟨he, ⟨ms ++ [Raw.mk x.a x.b ra rcap x.is], ds, ls, rs ++ [Raw.mk x.a x.b ra rcap x.is], by rw [List.map_append, hm]; rfl, hd, hl, fun r hmem => ?_, rx_congr hx' (fun i hi => by rcases eleven hi with rfl | rfl | rfl | rfl | rfl | rfl | rfl | rfl | rfl | rfl | rfl <;> simp [updV, lnB, csB, addLn, flat_one]) (fun i hi => by rcases eleven hi with rfl | rfl | rfl | rfl | rfl | rfl | rfl | rfl | rfl | rfl | rfl <;> simp [updV, lnB, csB, addLn, flat_one])⟩, (Kp.of_below hW2).trans hk⟩
 simp only [List.mem_append, List.mem_singleton] at hmem ⊢
 have h0 := hr r
 rcases hmem with h1 | h1 | h1
 all_goals first
  | exact .inl (h0 (.inl h1))
  | exact .inl (h0 (.inr (.inl h1)))
  | exact .inl (h0 (.inr (.inr h1)))
  | (rcases h1 with h1 | h1 <;> first | exact .inr h1 | exact .inl (h0 (.inl h1)) | exact .inl (h0 (.inr (.inl h1))) | exact .inl (h0 (.inr (.inr h1))))
theorem step_de {RB MB base : Nat} {w0 : World} (G : Ground RB MB base w0) (B : Mem.Book) (hlen : ∀ i, lnB B i ≤ 1048575) (W : World) (h : RSB RB base w0 B W) (hz : base ≤ W.heap.size) (num : Int) (note : ByteArray) (ad : Option Addr) (c : Nat) (x : Chr) (hsp : Sp x.a x.b) (htk : TellOk x.is) (at1 : ByteArray) (hat : at1.data.toList = atL x.a x.b) (hc : 3 ≤ c) (hst : Strs W ad [⟨#[100, 101, 99, 111, 109, 112, 111, 115, 101, 100]⟩, at1, ⟨(tellText x.is).toArray⟩]) : Calls Tryz.prog 39 #[.map (some MB), .pointer (some ⟨RB, 0, none⟩), .agg #[.int .i64 num, .slice ad 3 c, .string note]] W fun e w' => e = .returned (.int .i64 0) ∧ Took RB base w0 (addLn B (.de x)) W w' := by
 obtain ⟨ms, ds, ls, rs, hm, hd, hl, hr, hx⟩ := h
 have hmb : W.heap[MB]? = w0.heap[MB]? := hx.old G.ml (by have := G.m; omega)
 have hQ : Quick W := ⟨G.q.1.elim fun m hm => ⟨m, hx.oldCell hm G.qr⟩, by obtain ⟨_, hh⟩ := hx; have := hh.g.size; have := G.q.2; omega⟩
 obtain ⟨bx, he, hbx⟩ := G.k.k_decomposed
 obtain ⟨bk, o, f1, f2, f3, f4, f5⟩ := fields_at hst rfl
 refine Take3.take_any RB MB W num note ad c ⟨#[100, 101, 99, 111, 109, 112, 111, 115, 101, 100]⟩ at1 ⟨(tellText x.is).toArray⟩ x.a x.b 150 _ _ hc ⟨bk, o, f1, f2, f3, f4, f5 _ rfl⟩ (entry_old he hmb) hat hsp hQ (enters_of Tryz.func150 (by kernel_rfl) rfl) fun W2 hW2 => ?_
 refine (TakeC.chars1_any 4 102 (by decide) rfl rfl RB base w0 (lnB B) (csB B ms ds ls) rs W2 (hx.below hW2) (by have := hlen 4; omega) x.a x.b x.is htk.1 htk.2 bx hbx.2 (by have := hbx.1; omega) (Nat.le_trans hz hW2.size) G.q G.qr (enters_of Tryz.func102 (by kernel_rfl) rfl) (fun W' => ptr4_any RB W')).mono ?_
 rintro e w' ⟨he, ⟨ra, rcap, hx'⟩, hk⟩
 refine ⟨he, ⟨ms, ds ++ [Raw.mk x.a x.b ra rcap x.is], ls, rs ++ [Raw.mk x.a x.b ra rcap x.is], hm, by rw [List.map_append, hd]; rfl, hl, fun r hmem => ?_, rx_congr hx' (fun i hi => by rcases eleven hi with rfl | rfl | rfl | rfl | rfl | rfl | rfl | rfl | rfl | rfl | rfl <;> simp [updV, lnB, csB, addLn, flat_one]) (fun i hi => by rcases eleven hi with rfl | rfl | rfl | rfl | rfl | rfl | rfl | rfl | rfl | rfl | rfl <;> simp [updV, lnB, csB, addLn, flat_one])⟩, (Kp.of_below hW2).trans hk⟩
 simp only [List.mem_append, List.mem_singleton] at hmem ⊢
 have h0 := hr r
 rcases hmem with h1 | h1 | h1
 all_goals first
  | exact .inl (h0 (.inl h1))
  | exact .inl (h0 (.inr (.inl h1)))
  | exact .inl (h0 (.inr (.inr h1)))
  | (rcases h1 with h1 | h1 <;> first | exact .inr h1 | exact .inl (h0 (.inl h1)) | exact .inl (h0 (.inr (.inl h1))) | exact .inl (h0 (.inr (.inr h1))))
theorem step_li {RB MB base : Nat} {w0 : World} (G : Ground RB MB base w0) (B : Mem.Book) (hlen : ∀ i, lnB B i ≤ 1048575) (W : World) (h : RSB RB base w0 B W) (hz : base ≤ W.heap.size) (num : Int) (note : ByteArray) (ad : Option Addr) (c : Nat) (x : Chr) (hsp : Sp x.a x.b) (htk : TellOk x.is) (at1 : ByteArray) (hat : at1.data.toList = atL x.a x.b) (hc : 3 ≤ c) (hst : Strs W ad [⟨#[108, 105, 107, 101]⟩, at1, ⟨(tellText x.is).toArray⟩]) : Calls Tryz.prog 39 #[.map (some MB), .pointer (some ⟨RB, 0, none⟩), .agg #[.int .i64 num, .slice ad 3 c, .string note]] W fun e w' => e = .returned (.int .i64 0) ∧ Took RB base w0 (addLn B (.li x)) W w' := by
 obtain ⟨ms, ds, ls, rs, hm, hd, hl, hr, hx⟩ := h
 have hmb : W.heap[MB]? = w0.heap[MB]? := hx.old G.ml (by have := G.m; omega)
 have hQ : Quick W := ⟨G.q.1.elim fun m hm => ⟨m, hx.oldCell hm G.qr⟩, by obtain ⟨_, hh⟩ := hx; have := hh.g.size; have := G.q.2; omega⟩
 obtain ⟨bx, he, hbx⟩ := G.k.k_like
 obtain ⟨bk, o, f1, f2, f3, f4, f5⟩ := fields_at hst rfl
 refine Take3.take_any RB MB W num note ad c ⟨#[108, 105, 107, 101]⟩ at1 ⟨(tellText x.is).toArray⟩ x.a x.b 150 _ _ hc ⟨bk, o, f1, f2, f3, f4, f5 _ rfl⟩ (entry_old he hmb) hat hsp hQ (enters_of Tryz.func150 (by kernel_rfl) rfl) fun W2 hW2 => ?_
 refine (TakeC.chars1_any 10 111 (by decide) rfl rfl RB base w0 (lnB B) (csB B ms ds ls) rs W2 (hx.below hW2) (by have := hlen 10; omega) x.a x.b x.is htk.1 htk.2 bx hbx.2 (by have := hbx.1; omega) (Nat.le_trans hz hW2.size) G.q G.qr (enters_of Tryz.func111 (by kernel_rfl) rfl) (fun W' => ptr10_any RB W')).mono ?_
 rintro e w' ⟨he, ⟨ra, rcap, hx'⟩, hk⟩
 refine ⟨he, ⟨ms, ds, ls ++ [Raw.mk x.a x.b ra rcap x.is], rs ++ [Raw.mk x.a x.b ra rcap x.is], hm, hd, by rw [List.map_append, hl]; rfl, fun r hmem => ?_, rx_congr hx' (fun i hi => by rcases eleven hi with rfl | rfl | rfl | rfl | rfl | rfl | rfl | rfl | rfl | rfl | rfl <;> simp [updV, lnB, csB, addLn, flat_one]) (fun i hi => by rcases eleven hi with rfl | rfl | rfl | rfl | rfl | rfl | rfl | rfl | rfl | rfl | rfl <;> simp [updV, lnB, csB, addLn, flat_one])⟩, (Kp.of_below hW2).trans hk⟩
 simp only [List.mem_append, List.mem_singleton] at hmem ⊢
 have h0 := hr r
 rcases hmem with h1 | h1 | h1
 all_goals first
  | exact .inl (h0 (.inl h1))
  | exact .inl (h0 (.inr (.inl h1)))
  | exact .inl (h0 (.inr (.inr h1)))
  | (rcases h1 with h1 | h1 <;> first | exact .inr h1 | exact .inl (h0 (.inl h1)) | exact .inl (h0 (.inr (.inl h1))) | exact .inl (h0 (.inr (.inr h1))))
theorem step_cl {RB MB base : Nat} {w0 : World} (G : Ground RB MB base w0) (B : Mem.Book) (hlen : ∀ i, lnB B i ≤ 1048575) (W : World) (h : RSB RB base w0 B W) (hz : base ≤ W.heap.size) (num : Int) (note : ByteArray) (ad : Option Addr) (c : Nat) (x : Val) (hsp : Sp x.a x.b) (hn : 1 ≤ x.n ∧ x.n ≤ 254) (at1 : ByteArray) (hat : at1.data.toList = atL x.a x.b) (hc : 3 ≤ c) (hst : Strs W ad [⟨#[99, 108, 97, 115, 115]⟩, at1, ⟨(Lib.decDigits x.n.toNat).toArray⟩]) : Calls Tryz.prog 39 #[.map (some MB), .pointer (some ⟨RB, 0, none⟩), .agg #[.int .i64 num, .slice ad 3 c, .string note]] W fun e w' => e = .returned (.int .i64 0) ∧ Took RB base w0 (addLn B (.cl x)) W w' := by
 obtain ⟨ms, ds, ls, rs, hm, hd, hl, hr, hx⟩ := h
 have hmb : W.heap[MB]? = w0.heap[MB]? := hx.old G.ml (by have := G.m; omega)
 have hQ : Quick W := ⟨G.q.1.elim fun m hm => ⟨m, hx.oldCell hm G.qr⟩, by obtain ⟨_, hh⟩ := hx; have := hh.g.size; have := G.q.2; omega⟩
 obtain ⟨bx, br, he, hbx, hbr⟩ := G.k.k_class
 obtain ⟨bk, o, f1, f2, f3, f4, f5⟩ := fields_at hst rfl
 refine Take3.take_any RB MB W num note ad c ⟨#[99, 108, 97, 115, 115]⟩ at1 (⟨(Lib.decDigits x.n.toNat).toArray⟩) x.a x.b 152 _ _ hc ⟨bk, o, f1, f2, f3, f4, f5 _ rfl⟩ (entry_old he hmb) hat hsp hQ (enters_of Tryz.func152 (by kernel_rfl) rfl) fun W2 hW2 => ?_
 refine (TakeV.value1_any 3 99 100 #[] (by decide) rfl rfl RB base w0 (lnB B) (lnB B) (csB B ms ds ls) (csB B ms ds ls) rs W2 (hx.below hW2) (by have := hlen 3; omega) x.a x.b x.n (⟨(Lib.decDigits x.n.toNat).toArray⟩) bx br hbx.2 (by have := hbx.1; omega) hbr.2 (by have := hbr.1; omega) (Nat.le_trans hz hW2.size) (enters_of Tryz.func99 (by kernel_rfl) rfl) (enters_of Tryz.func100 (by kernel_rfl) rfl) (fun W' => ptr3_any RB W') fun W1 kk bs hx1 hz1 hkk hkR => ?_).mono ?_
 ·refine (number1_any _ ⟨(Lib.decDigits x.n.toNat).toArray⟩ x.n.toNat W1 rfl (by omega)).mono ?_
  rintro e w' ⟨he, rfl⟩
  rw [Int.toNat_of_nonneg (by omega)] at he
  exact ⟨he, hx1, Kp.of_below (Below.refl _ _), rfl⟩
 rintro e w' ⟨he, hx', hk⟩
 exact ⟨he, ⟨ms, ds, ls, rs, hm, hd, hl, hr, rx_congr hx' (fun i hi => by rcases eleven hi with rfl | rfl | rfl | rfl | rfl | rfl | rfl | rfl | rfl | rfl | rfl <;> simp [updV, lnB, csB, addLn, flat_one]) (fun i hi => by rcases eleven hi with rfl | rfl | rfl | rfl | rfl | rfl | rfl | rfl | rfl | rfl | rfl <;> simp [updV, lnB, csB, addLn, flat_one])⟩, (Kp.of_below hW2).trans hk⟩
theorem step_bi {RB MB base : Nat} {w0 : World} (G : Ground RB MB base w0) (B : Mem.Book) (hlen : ∀ i, lnB B i ≤ 1048575) (W : World) (h : RSB RB base w0 B W) (hz : base ≤ W.heap.size) (num : Int) (note : ByteArray) (ad : Option Addr) (c : Nat) (x : Val) (hsp : Sp x.a x.b) (hn : 0 ≤ x.n ∧ x.n < 23) (at1 : ByteArray) (hat : at1.data.toList = atL x.a x.b) (hc : 3 ≤ c) (hst : Strs W ad [⟨#[98, 105, 100, 105]⟩, at1, dirs.getD x.n.toNat ⟨#[]⟩]) : Calls Tryz.prog 39 #[.map (some MB), .pointer (some ⟨RB, 0, none⟩), .agg #[.int .i64 num, .slice ad 3 c, .string note]] W fun e w' => e = .returned (.int .i64 0) ∧ Took RB base w0 (addLn B (.bi x)) W w' := by
 obtain ⟨ms, ds, ls, rs, hm, hd, hl, hr, hx⟩ := h
 have hmb : W.heap[MB]? = w0.heap[MB]? := hx.old G.ml (by have := G.m; omega)
 have hQ : Quick W := ⟨G.q.1.elim fun m hm => ⟨m, hx.oldCell hm G.qr⟩, by obtain ⟨_, hh⟩ := hx; have := hh.g.size; have := G.q.2; omega⟩
 obtain ⟨bx, br, bn, da, dc, he, hbx, hbr, hbn, hds⟩ := G.k.k_bidi
 obtain ⟨bk, o, f1, f2, f3, f4, f5⟩ := fields_at hst rfl
 refine Take3.take_any RB MB W num note ad c ⟨#[98, 105, 100, 105]⟩ at1 (dirs.getD x.n.toNat ⟨#[]⟩) x.a x.b 152 _ _ hc ⟨bk, o, f1, f2, f3, f4, f5 _ rfl⟩ (entry_old he hmb) hat hsp hQ (enters_of Tryz.func152 (by kernel_rfl) rfl) fun W2 hW2 => ?_
 refine (TakeV.value1_any 6 105 156 #[ptr bn] (by decide) rfl rfl RB base w0 (lnB B) (lnB B) (csB B ms ds ls) (csB B ms ds ls) rs W2 (hx.below hW2) (by have := hlen 6; omega) x.a x.b x.n (dirs.getD x.n.toNat ⟨#[]⟩) bx br hbx.2 (by have := hbx.1; omega) hbr.2 (by have := hbr.1; omega) (Nat.le_trans hz hW2.size) (enters_of Tryz.func105 (by kernel_rfl) rfl) (enters_of Tryz.func156 (by kernel_rfl) rfl) (fun W' => ptr6_any RB W') fun W1 kk bs hx1 hz1 hkk hkR => ?_).mono ?_
 ·refine (named1_any _ _ bn dirs x.n.toNat W1 (dirs_idx ⟨x.n.toNat, by omega⟩) da dc (hx1.oldCell hbn.2 (by have := hbn.1; omega)) (names_old hx1 G.nb hds (by decide)) (by decide) (by decide)).mono ?_
  rintro e w' ⟨he, rfl⟩
  rw [Int.toNat_of_nonneg (by omega)] at he
  exact ⟨he, hx1, Kp.of_below (Below.refl _ _), rfl⟩
 rintro e w' ⟨he, hx', hk⟩
 exact ⟨he, ⟨ms, ds, ls, rs, hm, hd, hl, hr, rx_congr hx' (fun i hi => by rcases eleven hi with rfl | rfl | rfl | rfl | rfl | rfl | rfl | rfl | rfl | rfl | rfl <;> simp [updV, lnB, csB, addLn, flat_one]) (fun i hi => by rcases eleven hi with rfl | rfl | rfl | rfl | rfl | rfl | rfl | rfl | rfl | rfl | rfl <;> simp [updV, lnB, csB, addLn, flat_one])⟩, (Kp.of_below hW2).trans hk⟩
theorem step_jo {RB MB base : Nat} {w0 : World} (G : Ground RB MB base w0) (B : Mem.Book) (hlen : ∀ i, lnB B i ≤ 1048575) (W : World) (h : RSB RB base w0 B W) (hz : base ≤ W.heap.size) (num : Int) (note : ByteArray) (ad : Option Addr) (c : Nat) (x : Val) (hsp : Sp x.a x.b) (hn : 0 ≤ x.n ∧ x.n < 6) (at1 : ByteArray) (hat : at1.data.toList = atL x.a x.b) (hc : 3 ≤ c) (hst : Strs W ad [⟨#[106, 111, 105, 110, 105, 110, 103]⟩, at1, joins.getD x.n.toNat ⟨#[]⟩]) : Calls Tryz.prog 39 #[.map (some MB), .pointer (some ⟨RB, 0, none⟩), .agg #[.int .i64 num, .slice ad 3 c, .string note]] W fun e w' => e = .returned (.int .i64 0) ∧ Took RB base w0 (addLn B (.jo x)) W w' := by
 obtain ⟨ms, ds, ls, rs, hm, hd, hl, hr, hx⟩ := h
 have hmb : W.heap[MB]? = w0.heap[MB]? := hx.old G.ml (by have := G.m; omega)
 have hQ : Quick W := ⟨G.q.1.elim fun m hm => ⟨m, hx.oldCell hm G.qr⟩, by obtain ⟨_, hh⟩ := hx; have := hh.g.size; have := G.q.2; omega⟩
 obtain ⟨bx, br, bn, da, dc, he, hbx, hbr, hbn, hds⟩ := G.k.k_joining
 obtain ⟨bk, o, f1, f2, f3, f4, f5⟩ := fields_at hst rfl
 refine Take3.take_any RB MB W num note ad c ⟨#[106, 111, 105, 110, 105, 110, 103]⟩ at1 (joins.getD x.n.toNat ⟨#[]⟩) x.a x.b 152 _ _ hc ⟨bk, o, f1, f2, f3, f4, f5 _ rfl⟩ (entry_old he hmb) hat hsp hQ (enters_of Tryz.func152 (by kernel_rfl) rfl) fun W2 hW2 => ?_
 refine (TakeV.value1_any 7 107 156 #[ptr bn] (by decide) rfl rfl RB base w0 (lnB B) (lnB B) (csB B ms ds ls) (csB B ms ds ls) rs W2 (hx.below hW2) (by have := hlen 7; omega) x.a x.b x.n (joins.getD x.n.toNat ⟨#[]⟩) bx br hbx.2 (by have := hbx.1; omega) hbr.2 (by have := hbr.1; omega) (Nat.le_trans hz hW2.size) (enters_of Tryz.func107 (by kernel_rfl) rfl) (enters_of Tryz.func156 (by kernel_rfl) rfl) (fun W' => ptr7_any RB W') fun W1 kk bs hx1 hz1 hkk hkR => ?_).mono ?_
 ·refine (named1_any _ _ bn joins x.n.toNat W1 (joins_idx ⟨x.n.toNat, by omega⟩) da dc (hx1.oldCell hbn.2 (by have := hbn.1; omega)) (names_old hx1 G.nb hds (by decide)) (by decide) (by decide)).mono ?_
  rintro e w' ⟨he, rfl⟩
  rw [Int.toNat_of_nonneg (by omega)] at he
  exact ⟨he, hx1, Kp.of_below (Below.refl _ _), rfl⟩
 rintro e w' ⟨he, hx', hk⟩
 exact ⟨he, ⟨ms, ds, ls, rs, hm, hd, hl, hr, rx_congr hx' (fun i hi => by rcases eleven hi with rfl | rfl | rfl | rfl | rfl | rfl | rfl | rfl | rfl | rfl | rfl <;> simp [updV, lnB, csB, addLn, flat_one]) (fun i hi => by rcases eleven hi with rfl | rfl | rfl | rfl | rfl | rfl | rfl | rfl | rfl | rfl | rfl <;> simp [updV, lnB, csB, addLn, flat_one])⟩, (Kp.of_below hW2).trans hk⟩
theorem step_sc {RB MB base : Nat} {w0 : World} (G : Ground RB MB base w0) (B : Mem.Book) (hlen : ∀ i, lnB B i ≤ 1048575) (W : World) (h : RSB RB base w0 B W) (hz : base ≤ W.heap.size) (num : Int) (note : ByteArray) (ad : Option Addr) (c : Nat) (a b : Int) (s : ByteArray) (hsp : Sp a b) (hn : Names.nameB s = true) (at1 : ByteArray) (hat : at1.data.toList = atL a b) (hc : 3 ≤ c) (hst : Strs W ad [⟨#[115, 99, 114, 105, 112, 116]⟩, at1, s]) : Calls Tryz.prog 39 #[.map (some MB), .pointer (some ⟨RB, 0, none⟩), .agg #[.int .i64 num, .slice ad 3 c, .string note]] W fun e w' => e = .returned (.int .i64 0) ∧ Took RB base w0 (addLn B (.sc a b s)) W w' := by
 obtain ⟨ms, ds, ls, rs, hm, hd, hl, hr, hx⟩ := h
 have hmb : W.heap[MB]? = w0.heap[MB]? := hx.old G.ml (by have := G.m; omega)
 have hQ : Quick W := ⟨G.q.1.elim fun m hm => ⟨m, hx.oldCell hm G.qr⟩, by obtain ⟨_, hh⟩ := hx; have := hh.g.size; have := G.q.2; omega⟩
 obtain ⟨bx, br, he, hbx, hbr⟩ := G.k.k_script
 obtain ⟨bk, o, f1, f2, f3, f4, f5⟩ := fields_at hst rfl
 refine Take3.take_any RB MB W num note ad c ⟨#[115, 99, 114, 105, 112, 116]⟩ at1 (s) a b 152 _ _ hc ⟨bk, o, f1, f2, f3, f4, f5 _ rfl⟩ (entry_old he hmb) hat hsp hQ (enters_of Tryz.func152 (by kernel_rfl) rfl) fun W2 hW2 => ?_
 refine (TakeV.value1_any 9 109 110 #[] (by decide) rfl rfl RB base w0 (lnS (lnB B) B.names s) (lnB B) (csS (csB B ms ds ls) B.names s) (csB B ms ds ls) rs W2 (hx.below hW2) (by have := hlen 9; unfold lnS; split <;> simp [updV] <;> omega) a b ((placeB B.names s : Int) + 1) (s) bx br hbx.2 (by have := hbx.1; omega) hbr.2 (by have := hbr.1; omega) (Nat.le_trans hz hW2.size) (enters_of Tryz.func109 (by kernel_rfl) rfl) (enters_of Tryz.func110 (by kernel_rfl) rfl) (fun W' => ptr9_any RB W') fun W1 kk bs hx1 hz1 hkk hkR => ?_).mono ?_
 ·exact script_any RB base w0 (lnB B) (csB B ms ds ls) rs B.names rfl rfl (hlen 0) s (by unfold Names.nameB at hn; simp only [Bool.and_eq_true, decide_eq_true_eq] at hn; omega) hn W1 hx1 hz1 kk bs hkk hkR
 rintro e w' ⟨he, hx', hk⟩
 exact ⟨he, ⟨ms, ds, ls, rs, hm, hd, hl, hr, rx_congr hx' (fun i hi => by by_cases hp : placeB B.names s < B.names.length <;> rcases eleven hi with rfl | rfl | rfl | rfl | rfl | rfl | rfl | rfl | rfl | rfl | rfl <;> simp [updV, lnB, csB, addLn, flat_one, lnS, csS, hp]) (fun i hi => by by_cases hp : placeB B.names s < B.names.length <;> rcases eleven hi with rfl | rfl | rfl | rfl | rfl | rfl | rfl | rfl | rfl | rfl | rfl <;> simp [updV, lnB, csB, addLn, flat_one, lnS, csS, hp])⟩, (Kp.of_below hW2).trans hk⟩
end Go.Proofs.YtgdambmineeboaaGreatDoor.Step
