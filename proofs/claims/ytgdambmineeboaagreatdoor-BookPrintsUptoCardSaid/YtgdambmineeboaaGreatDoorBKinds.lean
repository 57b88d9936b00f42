/- The walk of book.kinds: its map, and the boxes of its closures. -/
import Derived.Test.YtgdambmineeboaaGreatDoorBMapK
import Derived.Carry
set_option linter.unusedSimpArgs false
set_option linter.unusedVariables false
namespace Go.Proofs.YtgdambmineeboaaGreatDoor.Kinds
open Go Go.RowKit Go.Lib Go.Proofs.YtgdambmineeboaaGreatDoor.Text Go.Proofs.YtgdambmineeboaaGreatDoor.Print Go.Proofs.YtgdambmineeboaaGreatDoor.RefNine Go.Proofs.YtgdambmineeboaaGreatDoor.Format Go.Proofs.YtgdambmineeboaaGreatDoor.Tell Go.Proofs.YtgdambmineeboaaGreatDoor.Mem Go.Proofs.YtgdambmineeboaaGreatDoor.Dirs Go.Proofs.YtgdambmineeboaaGreatDoor.MapK
/-- A kind of a map of kinds. -/
def Entry (W : World) (MB : Nat) (k : ByteArray) (v : Value) : Prop := ∃ es clock i, W.heap[MB]? = some (.map es clock) ∧ Instr.findNow .string (.string k) es.toList 0 = some (some (i, v))
/-- A box that lies behind a place. -/
def Box (lo : Nat) (W : World) (bx : Nat) (v : Value) : Prop := lo ≤ bx ∧ W.cell? ⟨bx, 0, none⟩ = some v
def fn0 (g : Nat) : Value := .func (.func g) #[] #[]
def kindV (n : Int) (g : Nat) (caps : Array Value) : Value := .agg #[.int .i64 n, .func (.func g) #[] caps]
def ptr (b : Nat) : Value := .pointer (some ⟨b, 0, none⟩)
def StK (lo : Nat) (W : World) (MB : Nat) (k : ByteArray) (n : Int) : Prop := ∃ bx, Entry W MB k (kindV 2 149 #[ptr bx]) ∧ Box lo W bx (.int .i64 n)
def ChK (lo : Nat) (W : World) (MB : Nat) (k : ByteArray) (g : Nat) : Prop := ∃ bx, Entry W MB k (kindV 3 150 #[ptr bx]) ∧ Box lo W bx (fn0 g)
def SpK (lo : Nat) (W : World) (MB : Nat) (k : ByteArray) (g : Nat) : Prop := ∃ bx, Entry W MB k (kindV 2 155 #[ptr bx]) ∧ Box lo W bx (fn0 g)
def VaK (lo : Nat) (W : World) (MB : Nat) (k : ByteArray) (g r : Nat) : Prop := ∃ bx br, Entry W MB k (kindV 3 152 #[ptr br, ptr bx]) ∧ Box lo W bx (fn0 g) ∧ Box lo W br (fn0 r)
def NmK (lo : Nat) (W : World) (MB : Nat) (k : ByteArray) (g : Nat) (names : List ByteArray) : Prop := ∃ bx br bn ad c, Entry W MB k (kindV 3 152 #[ptr br, ptr bx]) ∧ Box lo W bx (fn0 g) ∧ Box lo W br (.func (.func 156) #[] #[ptr bn]) ∧ Box lo W bn (.slice ad names.length c) ∧ (∃ bk of, ad = some ⟨bk, of, none⟩ ∧ ∀ (j : Nat) x, names[j]? = some x → W.cell? ⟨bk, of + j, none⟩ = some (.string x))
theorem box_end {lo b : Nat} {v v' : World} {MB : Nat} {x : Value} {t : TypeId} (hg : v.grownBy v' (some MB)) (hx : v.heap[b]? = some (.cells #[x] t (0, 0))) (hne : MB ≠ b) (hlo : lo ≤ b) : Box lo v' b x :=
  ⟨hlo, (block_cell (i := 0) ((hg.block b (block_lt hx) (fun e => hne (by cases e; rfl))).trans hx)).trans rfl⟩
theorem cell_grown {v v' : World} {MB : Nat} {es : Array MapEntry} {c : Nat} (hg : v.grownBy v' (some MB)) (hm : v.heap[MB]? = some (.map es c)) {bk o : Nat} {x : Value} (h : v.cell? ⟨bk, o, none⟩ = some x) : v'.cell? ⟨bk, o, none⟩ = some x := by
  have hne : some bk ≠ some MB := fun e => by
    cases e
    unfold World.cell? at h
    rw [show v.heap[(⟨MB, o, none⟩ : Addr).block]? = _ from hm] at h
    cases h
  exact hg.cell h hne
theorem map_keep {v v' : World} {MB : Nat} {o : Obj} (hb : Below v.heap.size v v') (h : v.heap[MB]? = some o) : v'.heap[MB]? = some o := (hb.block MB (Array.getElem?_eq_some_iff.1 h).1).trans h
theorem grown_bel {w w' : World} {row : Option Nat} (h : Below w.heap.size w w') : w.grownBy w' row := ⟨h.os, h.tape, h.output, h.size, fun k hk _ => h.block k hk⟩

/-- What a map of kinds gives. -/
structure KAt (lo : Nat) (W : World) (MB : Nat) : Prop where
  k_valid : StK lo W MB ⟨#[118, 97, 108, 105, 100]⟩ 1
  k_ignored : StK lo W MB ⟨#[105, 103, 110, 111, 114, 101, 100]⟩ 2
  k_deviation : StK lo W MB ⟨#[100, 101, 118, 105, 97, 116, 105, 111, 110]⟩ 3
  k_mapped : ChK lo W MB ⟨#[109, 97, 112, 112, 101, 100]⟩ 97
  k_class : VaK lo W MB ⟨#[99, 108, 97, 115, 115]⟩ 99 100
  k_decomposed : ChK lo W MB ⟨#[100, 101, 99, 111, 109, 112, 111, 115, 101, 100]⟩ 102
  k_excluded : SpK lo W MB ⟨#[101, 120, 99, 108, 117, 100, 101, 100]⟩ 104
  k_bidi : NmK lo W MB ⟨#[98, 105, 100, 105]⟩ 105 dirs
  k_joining : NmK lo W MB ⟨#[106, 111, 105, 110, 105, 110, 103]⟩ 107 joins
  k_mark : SpK lo W MB ⟨#[109, 97, 114, 107]⟩ 108
  k_script : VaK lo W MB ⟨#[115, 99, 114, 105, 112, 116]⟩ 109 110
  k_like : ChK lo W MB ⟨#[108, 105, 107, 101]⟩ 111
set_option maxRecDepth 100000 in
set_option maxHeartbeats 8000000 in
theorem kinds_any (w : World) : Calls Tryz.prog 38 #[] w fun e w' => ∃ MB, e = .returned (.map (some MB)) ∧ w.heap.size ≤ MB ∧ MB < w'.heap.size ∧ Below w.heap.size w w' ∧ KAt w.heap.size w' MB := by
  have hmm := @run_makeMap Tryz.prog
  obtain ⟨v0, hv0⟩ : ∃ v0, w.alloc (.map #[] 0) = v0 := ⟨_, rfl⟩
  have hM0 : v0.heap[w.heap.size]? = some (.map #[] 0) := by rw [← hv0]; exact (MapKept.heap_alloc w _).1
  have HM := Lib.hid hM0
  have HB0 : Hid (Below w.heap.size w v0) := Lib.hid (by rw [← hv0]; exact (Below.refl w.heap.size w).alloc (Nat.le_refl _) (.map #[] 0))
  have hz0 : w.heap.size < v0.heap.size := by rw [← hv0]; simp
  clear hM0
  go_enter Tryz.func38, Tryz.ntmps38
  go_wp2_with fail
  refine (status_any 1 _).mono ?_
  rintro e a0 ⟨rfl, hb, hx⟩
  have X_a0 := Lib.hid hx
  have O_a0 : w.heap.size < v0.heap.size := hz0
  have S_a0 := Lib.hid (grown_bel (row := some w.heap.size) hb)
  have HMn := Lib.hid (map_keep hb HM.out)
  have hz_a0 : w.heap.size < a0.heap.size := Nat.lt_of_lt_of_le hz0 hb.size
  clear HM
  have HM := HMn
  clear HMn
  clear hb hx
  go_wp2_with (refine wpList_insert _ rfl _ _ _ rfl w.heap.size _ _ rfl HM.out ⟨#[118, 97, 108, 105, 100]⟩ rfl _ rfl (by rfl) ?_)
  intro b0 hmn hgn
  have S_b0 := Lib.hid hgn
  have hz_b0 : w.heap.size < b0.heap.size := Nat.lt_of_lt_of_le hz_a0 hgn.size
  clear HM
  have HM := Lib.hid hmn
  clear hmn hgn
  go_wp2_with fail
  refine (status_any 2 _).mono ?_
  rintro e a1 ⟨rfl, hb, hx⟩
  have X_a1 := Lib.hid hx
  have O_a1 : w.heap.size < b0.heap.size := hz_b0
  have S_a1 := Lib.hid (grown_bel (row := some w.heap.size) hb)
  have HMn := Lib.hid (map_keep hb HM.out)
  have hz_a1 : w.heap.size < a1.heap.size := Nat.lt_of_lt_of_le hz_b0 hb.size
  clear HM
  have HM := HMn
  clear HMn
  clear hb hx
  go_wp2_with (refine wpList_insert _ rfl _ _ _ rfl w.heap.size _ _ rfl HM.out ⟨#[105, 103, 110, 111, 114, 101, 100]⟩ rfl _ rfl (by rfl) ?_)
  intro b1 hmn hgn
  have S_b1 := Lib.hid hgn
  have hz_b1 : w.heap.size < b1.heap.size := Nat.lt_of_lt_of_le hz_a1 hgn.size
  clear HM
  have HM := Lib.hid hmn
  clear hmn hgn
  go_wp2_with fail
  refine (status_any 3 _).mono ?_
  rintro e a2 ⟨rfl, hb, hx⟩
  have X_a2 := Lib.hid hx
  have O_a2 : w.heap.size < b1.heap.size := hz_b1
  have S_a2 := Lib.hid (grown_bel (row := some w.heap.size) hb)
  have HMn := Lib.hid (map_keep hb HM.out)
  have hz_a2 : w.heap.size < a2.heap.size := Nat.lt_of_lt_of_le hz_b1 hb.size
  clear HM
  have HM := HMn
  clear HMn
  clear hb hx
  go_wp2_with (refine wpList_insert _ rfl _ _ _ rfl w.heap.size _ _ rfl HM.out ⟨#[100, 101, 118, 105, 97, 116, 105, 111, 110]⟩ rfl _ rfl (by rfl) ?_)
  intro b2 hmn hgn
  have S_b2 := Lib.hid hgn
  have hz_b2 : w.heap.size < b2.heap.size := Nat.lt_of_lt_of_le hz_a2 hgn.size
  clear HM
  have HM := Lib.hid hmn
  clear hmn hgn
  go_wp2_with fail
  refine (chars_any 97 _).mono ?_
  rintro e a3 ⟨rfl, hb, hx⟩
  have X_a3 := Lib.hid hx
  have O_a3 : w.heap.size < b2.heap.size := hz_b2
  have S_a3 := Lib.hid (grown_bel (row := some w.heap.size) hb)
  have HMn := Lib.hid (map_keep hb HM.out)
  have hz_a3 : w.heap.size < a3.heap.size := Nat.lt_of_lt_of_le hz_b2 hb.size
  clear HM
  have HM := HMn
  clear HMn
  clear hb hx
  go_wp2_with (refine wpList_insert _ rfl _ _ _ rfl w.heap.size _ _ rfl HM.out ⟨#[109, 97, 112, 112, 101, 100]⟩ rfl _ rfl (by rfl) ?_)
  intro b3 hmn hgn
  have S_b3 := Lib.hid hgn
  have hz_b3 : w.heap.size < b3.heap.size := Nat.lt_of_lt_of_le hz_a3 hgn.size
  clear HM
  have HM := Lib.hid hmn
  clear hmn hgn
  go_wp2_with fail
  refine (value_any 99 100 #[] _).mono ?_
  rintro e a4 ⟨rfl, hb, hx, hx2⟩
  have X_a4 := Lib.hid hx
  have Y_a4 := Lib.hid hx2
  have O_a4 : w.heap.size < b3.heap.size := hz_b3
  have S_a4 := Lib.hid (grown_bel (row := some w.heap.size) hb)
  have HMn := Lib.hid (map_keep hb HM.out)
  have hz_a4 : w.heap.size < a4.heap.size := Nat.lt_of_lt_of_le hz_b3 hb.size
  clear HM
  have HM := HMn
  clear HMn
  clear hb hx hx2
  go_wp2_with (refine wpList_insert _ rfl _ _ _ rfl w.heap.size _ _ rfl HM.out ⟨#[99, 108, 97, 115, 115]⟩ rfl _ rfl (by rfl) ?_)
  intro b4 hmn hgn
  have S_b4 := Lib.hid hgn
  have hz_b4 : w.heap.size < b4.heap.size := Nat.lt_of_lt_of_le hz_a4 hgn.size
  clear HM
  have HM := Lib.hid hmn
  clear hmn hgn
  go_wp2_with fail
  refine (chars_any 102 _).mono ?_
  rintro e a5 ⟨rfl, hb, hx⟩
  have X_a5 := Lib.hid hx
  have O_a5 : w.heap.size < b4.heap.size := hz_b4
  have S_a5 := Lib.hid (grown_bel (row := some w.heap.size) hb)
  have HMn := Lib.hid (map_keep hb HM.out)
  have hz_a5 : w.heap.size < a5.heap.size := Nat.lt_of_lt_of_le hz_b4 hb.size
  clear HM
  have HM := HMn
  clear HMn
  clear hb hx
  go_wp2_with (refine wpList_insert _ rfl _ _ _ rfl w.heap.size _ _ rfl HM.out ⟨#[100, 101, 99, 111, 109, 112, 111, 115, 101, 100]⟩ rfl _ rfl (by rfl) ?_)
  intro b5 hmn hgn
  have S_b5 := Lib.hid hgn
  have hz_b5 : w.heap.size < b5.heap.size := Nat.lt_of_lt_of_le hz_a5 hgn.size
  clear HM
  have HM := Lib.hid hmn
  clear hmn hgn
  go_wp2_with fail
  refine (spans_any 104 _).mono ?_
  rintro e a6 ⟨rfl, hb, hx⟩
  have X_a6 := Lib.hid hx
  have O_a6 : w.heap.size < b5.heap.size := hz_b5
  have S_a6 := Lib.hid (grown_bel (row := some w.heap.size) hb)
  have HMn := Lib.hid (map_keep hb HM.out)
  have hz_a6 : w.heap.size < a6.heap.size := Nat.lt_of_lt_of_le hz_b5 hb.size
  clear HM
  have HM := HMn
  clear HMn
  clear hb hx
  go_wp2_with (refine wpList_insert _ rfl _ _ _ rfl w.heap.size _ _ rfl HM.out ⟨#[101, 120, 99, 108, 117, 100, 101, 100]⟩ rfl _ rfl (by rfl) ?_)
  intro b6 hmn hgn
  have S_b6 := Lib.hid hgn
  have hz_b6 : w.heap.size < b6.heap.size := Nat.lt_of_lt_of_le hz_a6 hgn.size
  clear HM
  have HM := Lib.hid hmn
  clear hmn hgn
  go_wp2_with fail
  refine (dirs_any _).mono ?_
  rintro e d7 ⟨da7, dc7, rfl, hds, hb, hcap⟩
  have D_d7 := Lib.hid hds
  have M_d7 := Lib.hid (map_keep hb HM.out)
  have O_d7 : w.heap.size < b6.heap.size := hz_b6
  have S_d7 := Lib.hid (grown_bel (row := some w.heap.size) hb)
  have HMn := Lib.hid (map_keep hb HM.out)
  have hz_d7 : w.heap.size < d7.heap.size := Nat.lt_of_lt_of_le hz_b6 hb.size
  clear HM
  have HM := HMn
  clear HMn
  clear hb hds hcap
  go_wp2_with fail
  refine (named_any da7 23 dc7 _).mono ?_
  rintro e m7 ⟨rfl, hb, hx⟩
  have X_m7 := Lib.hid hx
  have O_m7 : w.heap.size < d7.heap.size := hz_d7
  have S_m7 := Lib.hid (grown_bel (row := some w.heap.size) hb)
  have HMn := Lib.hid (map_keep hb HM.out)
  have hz_m7 : w.heap.size < m7.heap.size := Nat.lt_of_lt_of_le hz_d7 hb.size
  clear HM
  have HM := HMn
  clear HMn
  clear hb hx
  go_wp2_with fail
  refine (value_any 105 156 #[ptr d7.heap.size] _).mono ?_
  rintro e a7 ⟨rfl, hb, hx, hx2⟩
  have X_a7 := Lib.hid hx
  have Y_a7 := Lib.hid hx2
  have O_a7 : w.heap.size < m7.heap.size := hz_m7
  have S_a7 := Lib.hid (grown_bel (row := some w.heap.size) hb)
  have HMn := Lib.hid (map_keep hb HM.out)
  have hz_a7 : w.heap.size < a7.heap.size := Nat.lt_of_lt_of_le hz_m7 hb.size
  clear HM
  have HM := HMn
  clear HMn
  clear hb hx hx2
  go_wp2_with (refine wpList_insert _ rfl _ _ _ rfl w.heap.size _ _ rfl HM.out ⟨#[98, 105, 100, 105]⟩ rfl _ rfl (by rfl) ?_)
  intro b7 hmn hgn
  have S_b7 := Lib.hid hgn
  have hz_b7 : w.heap.size < b7.heap.size := Nat.lt_of_lt_of_le hz_a7 hgn.size
  clear HM
  have HM := Lib.hid hmn
  clear hmn hgn
  go_wp2_with fail
  refine (joins_any _).mono ?_
  rintro e d8 ⟨da8, dc8, rfl, hds, hb, hcap⟩
  have D_d8 := Lib.hid hds
  have M_d8 := Lib.hid (map_keep hb HM.out)
  have O_d8 : w.heap.size < b7.heap.size := hz_b7
  have S_d8 := Lib.hid (grown_bel (row := some w.heap.size) hb)
  have HMn := Lib.hid (map_keep hb HM.out)
  have hz_d8 : w.heap.size < d8.heap.size := Nat.lt_of_lt_of_le hz_b7 hb.size
  clear HM
  have HM := HMn
  clear HMn
  clear hb hds hcap
  go_wp2_with fail
  refine (named_any da8 6 dc8 _).mono ?_
  rintro e m8 ⟨rfl, hb, hx⟩
  have X_m8 := Lib.hid hx
  have O_m8 : w.heap.size < d8.heap.size := hz_d8
  have S_m8 := Lib.hid (grown_bel (row := some w.heap.size) hb)
  have HMn := Lib.hid (map_keep hb HM.out)
  have hz_m8 : w.heap.size < m8.heap.size := Nat.lt_of_lt_of_le hz_d8 hb.size
  clear HM
  have HM := HMn
  clear HMn
  clear hb hx
  go_wp2_with fail
  refine (value_any 107 156 #[ptr d8.heap.size] _).mono ?_
  rintro e a8 ⟨rfl, hb, hx, hx2⟩
  have X_a8 := Lib.hid hx
  have Y_a8 := Lib.hid hx2
  have O_a8 : w.heap.size < m8.heap.size := hz_m8
  have S_a8 := Lib.hid (grown_bel (row := some w.heap.size) hb)
  have HMn := Lib.hid (map_keep hb HM.out)
  have hz_a8 : w.heap.size < a8.heap.size := Nat.lt_of_lt_of_le hz_m8 hb.size
  clear HM
  have HM := HMn
  clear HMn
  clear hb hx hx2
  go_wp2_with (refine wpList_insert _ rfl _ _ _ rfl w.heap.size _ _ rfl HM.out ⟨#[106, 111, 105, 110, 105, 110, 103]⟩ rfl _ rfl (by rfl) ?_)
  intro b8 hmn hgn
  have S_b8 := Lib.hid hgn
  have hz_b8 : w.heap.size < b8.heap.size := Nat.lt_of_lt_of_le hz_a8 hgn.size
  clear HM
  have HM := Lib.hid hmn
  clear hmn hgn
  go_wp2_with fail
  refine (spans_any 108 _).mono ?_
  rintro e a9 ⟨rfl, hb, hx⟩
  have X_a9 := Lib.hid hx
  have O_a9 : w.heap.size < b8.heap.size := hz_b8
  have S_a9 := Lib.hid (grown_bel (row := some w.heap.size) hb)
  have HMn := Lib.hid (map_keep hb HM.out)
  have hz_a9 : w.heap.size < a9.heap.size := Nat.lt_of_lt_of_le hz_b8 hb.size
  clear HM
  have HM := HMn
  clear HMn
  clear hb hx
  go_wp2_with (refine wpList_insert _ rfl _ _ _ rfl w.heap.size _ _ rfl HM.out ⟨#[109, 97, 114, 107]⟩ rfl _ rfl (by rfl) ?_)
  intro b9 hmn hgn
  have S_b9 := Lib.hid hgn
  have hz_b9 : w.heap.size < b9.heap.size := Nat.lt_of_lt_of_le hz_a9 hgn.size
  clear HM
  have HM := Lib.hid hmn
  clear hmn hgn
  go_wp2_with fail
  refine (value_any 109 110 #[] _).mono ?_
  rintro e a10 ⟨rfl, hb, hx, hx2⟩
  have X_a10 := Lib.hid hx
  have Y_a10 := Lib.hid hx2
  have O_a10 : w.heap.size < b9.heap.size := hz_b9
  have S_a10 := Lib.hid (grown_bel (row := some w.heap.size) hb)
  have HMn := Lib.hid (map_keep hb HM.out)
  have hz_a10 : w.heap.size < a10.heap.size := Nat.lt_of_lt_of_le hz_b9 hb.size
  clear HM
  have HM := HMn
  clear HMn
  clear hb hx hx2
  go_wp2_with (refine wpList_insert _ rfl _ _ _ rfl w.heap.size _ _ rfl HM.out ⟨#[115, 99, 114, 105, 112, 116]⟩ rfl _ rfl (by rfl) ?_)
  intro b10 hmn hgn
  have S_b10 := Lib.hid hgn
  have hz_b10 : w.heap.size < b10.heap.size := Nat.lt_of_lt_of_le hz_a10 hgn.size
  clear HM
  have HM := Lib.hid hmn
  clear hmn hgn
  go_wp2_with fail
  refine (chars_any 111 _).mono ?_
  rintro e a11 ⟨rfl, hb, hx⟩
  have X_a11 := Lib.hid hx
  have O_a11 : w.heap.size < b10.heap.size := hz_b10
  have S_a11 := Lib.hid (grown_bel (row := some w.heap.size) hb)
  have HMn := Lib.hid (map_keep hb HM.out)
  have hz_a11 : w.heap.size < a11.heap.size := Nat.lt_of_lt_of_le hz_b10 hb.size
  clear HM
  have HM := HMn
  clear HMn
  clear hb hx
  go_wp2_with (refine wpList_insert _ rfl _ _ _ rfl w.heap.size _ _ rfl HM.out ⟨#[108, 105, 107, 101]⟩ rfl _ rfl (by rfl) ?_)
  intro b11 hmn hgn
  have S_b11 := Lib.hid hgn
  have hz_b11 : w.heap.size < b11.heap.size := Nat.lt_of_lt_of_le hz_a11 hgn.size
  clear HM
  have HM := Lib.hid hmn
  clear hmn hgn
  go_wp2_with fail
  go_ret
  have G_b11 : b11.grownBy b11 (some w.heap.size) := ⟨rfl, rfl, rfl, Nat.le_refl _, fun _ _ _ => rfl⟩
  have G_a11 := S_b11.out.trans G_b11
  have G_b10 := S_a11.out.trans G_a11
  have G_a10 := S_b10.out.trans G_b10
  have G_b9 := S_a10.out.trans G_a10
  have G_a9 := S_b9.out.trans G_b9
  have G_b8 := S_a9.out.trans G_a9
  have G_a8 := S_b8.out.trans G_b8
  have G_m8 := S_a8.out.trans G_a8
  have G_d8 := S_m8.out.trans G_m8
  have G_b7 := S_d8.out.trans G_d8
  have G_a7 := S_b7.out.trans G_b7
  have G_m7 := S_a7.out.trans G_a7
  have G_d7 := S_m7.out.trans G_m7
  have G_b6 := S_d7.out.trans G_d7
  have G_a6 := S_b6.out.trans G_b6
  have G_b5 := S_a6.out.trans G_a6
  have G_a5 := S_b5.out.trans G_b5
  have G_b4 := S_a5.out.trans G_a5
  have G_a4 := S_b4.out.trans G_b4
  have G_b3 := S_a4.out.trans G_a4
  have G_a3 := S_b3.out.trans G_b3
  have G_b2 := S_a3.out.trans G_a3
  have G_a2 := S_b2.out.trans G_b2
  have G_b1 := S_a2.out.trans G_a2
  have G_a1 := S_b1.out.trans G_b1
  have G_b0 := S_a1.out.trans G_a1
  have G_a0 := S_b0.out.trans G_b0
  have G0 := S_a0.out.trans G_a0
  refine ⟨w.heap.size, rfl, Nat.le_refl _, hz_b11, ?_, ?_⟩
  · exact HB0.out.grown G0 HB0.out.size (fun k hk => by cases hk; exact Nat.le_refl _)
  · constructor
    · exact ⟨_, ⟨_, _, _, HM.out, by rfl⟩, box_end G_a0 X_a0.out (by omega) (by omega)⟩
    · exact ⟨_, ⟨_, _, _, HM.out, by rfl⟩, box_end G_a1 X_a1.out (by omega) (by omega)⟩
    · exact ⟨_, ⟨_, _, _, HM.out, by rfl⟩, box_end G_a2 X_a2.out (by omega) (by omega)⟩
    · exact ⟨_, ⟨_, _, _, HM.out, by rfl⟩, box_end G_a3 X_a3.out (by omega) (by omega)⟩
    · exact ⟨_, _, ⟨_, _, _, HM.out, by rfl⟩, box_end G_a4 X_a4.out (by omega) (by omega), box_end G_a4 Y_a4.out (by omega) (by omega)⟩
    · exact ⟨_, ⟨_, _, _, HM.out, by rfl⟩, box_end G_a5 X_a5.out (by omega) (by omega)⟩
    · exact ⟨_, ⟨_, _, _, HM.out, by rfl⟩, box_end G_a6 X_a6.out (by omega) (by omega)⟩
    · refine ⟨_, _, _, da7, dc7, ⟨_, _, _, HM.out, by rfl⟩, box_end G_a7 X_a7.out (by omega) (by omega), box_end G_a7 Y_a7.out (by omega) (by omega), box_end G_m7 X_m7.out (by omega) (by omega), ?_⟩
      rcases D_d7.out with h0 | ⟨bk, of, had, _, hc⟩
      · exact absurd h0 (by decide)
      · exact ⟨bk, of, had, fun j x hx => cell_grown G_d7 M_d7.out (hc j x hx)⟩
    · refine ⟨_, _, _, da8, dc8, ⟨_, _, _, HM.out, by rfl⟩, box_end G_a8 X_a8.out (by omega) (by omega), box_end G_a8 Y_a8.out (by omega) (by omega), box_end G_m8 X_m8.out (by omega) (by omega), ?_⟩
      rcases D_d8.out with h0 | ⟨bk, of, had, _, hc⟩
      · exact absurd h0 (by decide)
      · exact ⟨bk, of, had, fun j x hx => cell_grown G_d8 M_d8.out (hc j x hx)⟩
    · exact ⟨_, ⟨_, _, _, HM.out, by rfl⟩, box_end G_a9 X_a9.out (by omega) (by omega)⟩
    · exact ⟨_, _, ⟨_, _, _, HM.out, by rfl⟩, box_end G_a10 X_a10.out (by omega) (by omega), box_end G_a10 Y_a10.out (by omega) (by omega)⟩
    · exact ⟨_, ⟨_, _, _, HM.out, by rfl⟩, box_end G_a11 X_a11.out (by omega) (by omega)⟩
end Go.Proofs.YtgdambmineeboaaGreatDoor.Kinds
