/- The walk of the statement LinePrints itself. -/
import Derived.Test.YtleadeaahlmmiaaDoorPoint
namespace Go.Proofs.YtleadeaahlmmiaaDoor.Law
open Go.RowKit Go.Lib Go.Proofs.YtleadeaahlmmiaaDoor.Text Go.Proofs.YtleadeaahlmmiaaDoor.Runes Go.Proofs.YtleadeaahlmmiaaDoor.Print Go.Proofs.YtleadeaahlmmiaaDoor.RefNine Go.Proofs.YtleadeaahlmmiaaDoor.RefPrint Go.Proofs.YtleadeaahlmmiaaDoor.Format Go.Proofs.YtleadeaahlmmiaaDoor.Tell Go.Proofs.YtleadeaahlmmiaaDoor.Given Go.Proofs.YtleadeaahlmmiaaDoor.Point

theorem ite_tuple {c : Bool} {a b : ByteArray} {x y : Int} : (if c = true then Value.tuple #[.string a, .int .i64 x] else .tuple #[.string b, .int .i64 y]) = .tuple #[.string (if c = true then a else b), .int .i64 (if c = true then x else y)] := by
  cases c <;> rfl

def Two (s : ByteArray) (n : Int) (w : World) (e : Ending) (w' : World) : Prop := e = .returned (.tuple #[.string s, .int .i64 n]) ∧ Below w.heap.size w w'
theorem print_two (l : List ByteArray) (note : ByteArray) : ∃ s n, ∀ w e w', PrintPost l note w e w' → Two s n w e w' :=
  ⟨_, _, fun w e w' h => ⟨by rw [h.1, ite_tuple], h.2⟩⟩
theorem tell_two (l : List Int) : ∃ s n, ∀ w e w', TellPost l (fun w w' => Below w.heap.size w w') w e w' → Two s n w e w' :=
  ⟨_, _, fun w e w' h => ⟨by rw [h.1, ite_tuple], h.2⟩⟩

/-- What line.Fields tells. -/
def many (n : Nat) (least most : Int) : Int := if (n : Int) < least ∨ (n : Int) > most then 94 else 0
theorem many_low {n : Nat} {least most : Int} (h : (n : Int) < least) : many n least most = 94 := by unfold many; rw [if_pos (.inl h)]
theorem many_high {n : Nat} {least most : Int} (h : most < (n : Int)) : many n least most = 94 := by unfold many; rw [if_pos (.inr h)]
theorem many_fine {n : Nat} {least most : Int} (h : ¬ (n : Int) < least) (h2 : ¬ most < (n : Int)) : many n least most = 0 := by unfold many; rw [if_neg (by omega)]

theorem fields_any (num : Int) (note : ByteArray) (a : Option Addr) (n c : Nat) (least most : Int) (w : World) :
    Calls Tryd.prog 10 #[.agg #[.int .i64 num, .slice a n c, .string note], .int .i64 least, .int .i64 most] w fun e w' => e = .returned (.int .i64 (many n least most)) ∧ Below w.heap.size w w' := by
  by_cases h1 : (n : Int) < least
  · have HM := Lib.hid (many_low (most := most) h1)
    go_enter Tryd.func10, Tryd.ntmps10
    go_wp2
    go_ret
    exact ⟨by rw [HM.out]; rfl, (Below.refl _ _).alloc (Nat.le_refl _) _⟩
  · by_cases h2 : most < (n : Int)
    · have HM := Lib.hid (many_high (least := least) h2)
      go_enter Tryd.func10, Tryd.ntmps10
      go_wp2
      go_ret
      exact ⟨by rw [HM.out]; rfl, (Below.refl _ _).alloc (Nat.le_refl _) _⟩
    · have HM := Lib.hid (many_fine h1 h2)
      go_enter Tryd.func10, Tryd.ntmps10
      go_wp2
      go_ret
      exact ⟨by rw [HM.out]; rfl, (Below.refl _ _).alloc (Nat.le_refl _) _⟩

/-- What the statement's two boxes hold. -/
structure Held (w : World) (v0 v1 v2 v3 v4 : Value) (W : World) : Prop where
  b : Below w.heap.size w W
  c0 : W.cell? ⟨w.heap.size, 0, none⟩ = some v0
  c1 : W.cell? ⟨w.heap.size, 1, none⟩ = some v1
  c2 : W.cell? ⟨w.heap.size, 2, none⟩ = some v2
  d0 : W.cell? ⟨w.heap.size + 1, 0, none⟩ = some v3
  d1 : W.cell? ⟨w.heap.size + 1, 1, none⟩ = some v4
  z : w.heap.size + 1 < W.heap.size
theorem Held.next {w W W' : World} {v0 v1 v2 v3 v4 : Value} (h : Held w v0 v1 v2 v3 v4 W) (hb : Below W.heap.size W W') : Held w v0 v1 v2 v3 v4 W' :=
  have hz := h.z
  ⟨h.b.trans (hb.mono h.b.size), (hb.cell (p := ⟨w.heap.size, 0, none⟩) (Nat.lt_of_succ_lt hz)).trans h.c0, (hb.cell (p := ⟨w.heap.size, 1, none⟩) (Nat.lt_of_succ_lt hz)).trans h.c1, (hb.cell (p := ⟨w.heap.size, 2, none⟩) (Nat.lt_of_succ_lt hz)).trans h.c2,
    (hb.cell (p := ⟨w.heap.size + 1, 0, none⟩) hz).trans h.d0, (hb.cell (p := ⟨w.heap.size + 1, 1, none⟩) hz).trans h.d1, Nat.lt_of_lt_of_le hz hb.size⟩
theorem held_start (w : World) (v0 v1 v2 v3 v4 : Value) (T T' : TypeId) : Held w v0 v1 v2 v3 v4 ((w.alloc (.cells #[v0, v1, v2] T (0, 0))).alloc (.cells #[v3, v4] T' (0, 0))) := by
  have e1 : (w.alloc (.cells #[v0, v1, v2] T (0, 0))).heap.size = w.heap.size + 1 := by simp
  have h1 := fun i => World.cell?_alloc_new (w.alloc (.cells #[v0, v1, v2] T (0, 0))) #[v3, v4] T' i
  have h2 := fun i => World.cell?_alloc_new w #[v0, v1, v2] T i
  have h3 := fun i => World.cell?_alloc_lt (w := w.alloc (.cells #[v0, v1, v2] T (0, 0))) (o := .cells #[v3, v4] T' (0, 0)) (a := ⟨w.heap.size, i, none⟩) (by rw [e1]; exact Nat.lt_succ_self _)
  rw [e1] at h1
  exact ⟨((Below.refl _ _).alloc (Nat.le_refl _) _).alloc (by simp) _, (h3 0).trans (h2 0), (h3 1).trans (h2 1), (h3 2).trans (h2 2), h1 0, h1 1, by simp⟩

set_option maxRecDepth 100000 in
set_option maxHeartbeats 2000000 in
theorem law_any (num : Int) (a : Option Addr) (l : List ByteArray) (c : Nat) (note : ByteArray) (ra : Option Addr) (rl : List Int) (rc : Nat) (least most : Int) (w : World)
    (hl : l.length ≤ 1048576) (hsz : ∀ s ∈ l, s.size ≤ 1048576) (hn : note.size ≤ 1048576) (hcap : l.length ≤ c) (hj : (Lib.join (l.map (·.data.toList)) [59, 32]).length ≤ 140737488355328)
    (hrl : rl.length ≤ 1048576) (hS : Strs w a l) (hR : Rs w ra rl) (hT : Tabs w) :
    Calls Tryd.prog 3 #[.agg #[.int .i64 num, .slice a l.length c, .string note], .slice ra rl.length rc, .agg #[.int .i64 least, .int .i64 most]] w fun e w' => e = .returned (.bool true) ∧ Below w.heap.size w w' := by
  obtain ⟨ps, pn, hp⟩ := print_two l note
  obtain ⟨ts, tn, ht⟩ := tell_two rl
  have hsz' : ∀ s ∈ l, s.size ≤ 140737488351232 := fun s hs => Nat.le_trans (hsz s hs) (by decide)
  have c4 : ∀ W, Below w.heap.size w W → Calls Tryd.prog 4 #[.agg #[.int .i64 num, .slice a l.length c, .string note]] W (Two ps pn W) := fun W hW =>
    (print_any num a l c note W (by omega) hsz' (by omega) hcap hj (hS.below hW) (hT.below hW).1).mono fun e w' h => hp W e w' h
  have c6 : ∀ W, Below w.heap.size w W → Calls Tryd.prog 6 #[.agg #[.int .i64 num, .slice a l.length c, .string note]] W (GivenPost num l note W) := fun W hW =>
    given_any num a l c note W hl (hS.below hW)
  have c5 : ∀ W a' c', Strs W a' l → Calls Tryd.prog 5 #[.agg #[.int .i64 num, .slice a' l.length c', .string note]] W (Two ps pn W) := fun W a' c' hW =>
    (refPrint_any num a' l c' note W (by omega) hsz' (by omega) hj hW).mono fun e w' h => hp W e w' h
  have c7 : ∀ W, Below w.heap.size w W → Calls Tryd.prog 7 #[.slice ra rl.length rc] W (Two ts tn W) := fun W hW =>
    (tell_any ra rl rc W hrl (hR.below hW) (hT.below hW)).mono fun e w' h => ht W e w' h
  have c8 : ∀ W, Below w.heap.size w W → Calls Tryd.prog 8 #[.slice ra rl.length rc] W (Two ts tn W) := fun W hW =>
    (refTell_any ra rl rc W (by omega) (hR.below hW)).mono fun e w' h => ht W e w' ⟨h.1, h.2.below⟩
  have H4 := Lib.hid c4
  have H5 := Lib.hid c5
  have H6 := Lib.hid c6
  have H7 := Lib.hid c7
  have H8 := Lib.hid c8
  clear c4 c5 c6 c7 c8 hp ht hsz' hsz hS hR hT hj
  have hcase : ((l.length : Int) < least ∧ many l.length least most = 94) ∨ ((¬ (l.length : Int) < least ∧ most < (l.length : Int)) ∧ many l.length least most = 94) ∨ ((¬ (l.length : Int) < least ∧ ¬ most < (l.length : Int)) ∧ many l.length least most = 0) := by
    by_cases h1 : (l.length : Int) < least
    · exact .inl ⟨h1, many_low h1⟩
    · by_cases h2 : most < (l.length : Int)
      · exact .inr (.inl ⟨⟨h1, h2⟩, many_high h2⟩)
      · exact .inr (.inr ⟨⟨h1, h2⟩, many_fine h1 h2⟩)
  have hF := fun W => fields_any num note a l.length c least most W
  generalize many l.length least most = mm at *
  have HF := Lib.hid hF
  clear hF
  rcases hcase with ⟨q, rfl⟩ | ⟨q, rfl⟩ | ⟨q, rfl⟩
  all_goals
    have HQ := Lib.hid q
    clear q
    go_enter Tryd.func3, Tryd.ntmps3
    go_wp2_with fail
    have hh0 := held_start w (.int .i64 num) (.slice a l.length c) (.string note) (.int .i64 least) (.int .i64 most) 24 27
    refine (H4.out _ hh0.b).mono ?_
    rintro e w1 ⟨rfl, hb⟩
    have hh1 := hh0.next hb
    have HH1 := Lib.hid hh1
    obtain ⟨_, k0, k1, k2, k3, k4, _⟩ := hh1
    clear hb
    go_wp2_with fail
    clear k0 k1 k2 k3 k4
    have hh1 := HH1.out
    refine (H6.out _ hh1.b).mono ?_
    rintro e w2 ⟨a', c', rfl, hS', hb, hc'⟩
    have hh2 := hh1.next hb
    have HH2 := Lib.hid hh2
    obtain ⟨_, k0, k1, k2, k3, k4, _⟩ := hh2
    clear hb
    go_wp2_with fail
    clear k0 k1 k2 k3 k4
    have hh2 := HH2.out
    refine (H5.out _ a' c' hS').mono ?_
    rintro e w3 ⟨rfl, hb⟩
    have hh3 := hh2.next hb
    have HH3 := Lib.hid hh3
    obtain ⟨_, k0, k1, k2, k3, k4, _⟩ := hh3
    clear hb
    go_wp2_with fail
    clear k0 k1 k2 k3 k4
    have hh3 := HH3.out
    refine (H7.out _ hh3.b).mono ?_
    rintro e w4 ⟨rfl, hb⟩
    have hh4 := hh3.next hb
    have HH4 := Lib.hid hh4
    obtain ⟨_, k0, k1, k2, k3, k4, _⟩ := hh4
    clear hb
    go_wp2_with fail
    clear k0 k1 k2 k3 k4
    have hh4 := HH4.out
    refine (H8.out _ hh4.b).mono ?_
    rintro e w5 ⟨rfl, hb⟩
    have hh5 := hh4.next hb
    have HH5 := Lib.hid hh5
    obtain ⟨_, k0, k1, k2, k3, k4, _⟩ := hh5
    have q := HQ.out
    clear hb hh1 hh2 hh3 hh4
    go_wp2_with (first | (go_at_call 9; refine (awake_any _).mono ?_; rintro e w6 ⟨rfl, rfl⟩) | (go_at_call 10; refine (HF.out _).mono ?_; rintro e w7 ⟨rfl, hb7⟩))
    go_ret
    exact ⟨rfl, HH5.out.b.trans (hb7.mono HH5.out.b.size)⟩
end Go.Proofs.YtleadeaahlmmiaaDoor.Law
