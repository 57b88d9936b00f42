/- The walk of the reference's decomposed: of which rows of decompositions something is wrong by themselves. -/
import Derived.Test.YtgdambmineeboaaGreatDoorBWritten
import Derived.Laws.OwnMore
import Derived.Test.YtgdambmineeboaaGreatDoorBMany
import Derived.Test.YtgdambmineeboaaGreatDoorBWholeRef
import Derived.Test.YtgdambmineeboaaGreatDoorBNamesP
import Derived.Test.YtgdambmineeboaaGreatDoorBLong
import Derived.Maps.OwnSet
set_option linter.unusedSimpArgs false
set_option linter.unusedVariables false
namespace Go.Proofs.YtgdambmineeboaaGreatDoor.Decomposed
open Go.RowKit Go.Lib Go.Proofs.YtgdambmineeboaaGreatDoor.Text Go.Proofs.YtgdambmineeboaaGreatDoor.Runes Go.Proofs.YtgdambmineeboaaGreatDoor.Print Go.Proofs.YtgdambmineeboaaGreatDoor.RefNine Go.Proofs.YtgdambmineeboaaGreatDoor.RefPrint Go.Proofs.YtgdambmineeboaaGreatDoor.Format Go.Proofs.YtgdambmineeboaaGreatDoor.Tell Go.Proofs.YtgdambmineeboaaGreatDoor.Given Go.Proofs.YtgdambmineeboaaGreatDoor.Mem Go.Proofs.YtgdambmineeboaaGreatDoor.Pred Go.Proofs.YtgdambmineeboaaGreatDoor.Many Go.Proofs.YtgdambmineeboaaGreatDoor.Wrong Go.Proofs.YtgdambmineeboaaGreatDoor.Numbered Go.Proofs.YtgdambmineeboaaGreatDoor.Written

/-- A list that is written over from its beginning: so far. -/
def mix {α : Type} (f g : α → Value) (l : List α) (i : Nat) : List Value := (l.take i).map f ++ (l.drop i).map g
theorem mix_at {α : Type} (f g : α → Value) : ∀ (l : List α) (i : Nat) (x : α), l[i]? = some x → (mix f g l i)[i]? = some (g x)
  | [], i, x, h => by simp at h
  | y :: l, 0, x, h => by cases h; rfl
  | y :: l, i + 1, x, h => by
    have := mix_at f g l i x (by simpa using h)
    unfold mix at this ⊢
    simpa using this
theorem mix_set {α : Type} (f g : α → Value) : ∀ (l : List α) (i : Nat) (x : α), l[i]? = some x → (mix f g l i).set i (f x) = mix f g l (i + 1)
  | [], i, x, h => by simp at h
  | y :: l, 0, x, h => by cases h; rfl
  | y :: l, i + 1, x, h => by
    have := mix_set f g l i x (by simpa using h)
    unfold mix at this ⊢
    simpa using this
theorem mix_zero {α : Type} (f g : α → Value) (l : List α) : mix f g l 0 = l.map g := rfl
theorem mix_all {α : Type} (f g : α → Value) (l : List α) : mix f g l l.length = l.map f := by
  unfold mix
  rw [List.take_length, List.drop_length]
  simp
theorem flat_one {α : Type} (f : α → Value) (l : List α) : flat (fun x => [f x]) l = l.map f := by
  unfold flat
  induction l with
  | nil => rfl
  | cons x l ih => rw [List.flatMap_cons, ih]; rfl

def wrongD (r : Raw) : Bool := wrongC 2 r.is || !(r.a == r.b) || hangulB r.a || !scalarB r.a
def vC (r : Raw) : Value := .bool (wrongC 2 r.is)
def vD (r : Raw) : Value := .bool (wrongD r)

set_option maxRecDepth 100000 in
set_option maxHeartbeats 400000 in
theorem decomposed_raw (a : Option Addr) (rs : List Raw) (c : Nat) (w : World) (hl : rs.length ≤ 1048576) (hli : ∀ r ∈ rs, r.is.length ≤ 1048576) (hV : Tab 3 Mem.encR w a rs) (hR : ∀ r ∈ rs, Rs w r.ad r.is) :
    Calls Tryz.prog 88 #[.slice a rs.length c] w fun e w' => ∃ v, e = .returned v ∧ w'.ownsRow w.heap.size 4 1 v rs.length (rs.map vD) ∧ Below w.heap.size w w' := by
  have HV := Lib.hid hV
  have HC := Lib.hid (written_raw 2 a rs c w hl hli hV hR)
  clear hV hR hli
  go_enter Tryz.func88, Tryz.ntmps88
  go_wp2_with (go_at_call 80; refine HC.out.mono ?_; rintro e w1 ⟨v, rfl, hown, hb1⟩)
  have hown' : w1.ownsRow w.heap.size 4 1 v rs.length (rs.map vC) := by
    rw [← flat_one]; exact hown
  clear hown
  obtain ⟨av, cv, rfl⟩ : ∃ av cv, v = .slice av rs.length cv := by
    rcases Go.Joins.ownsRow_forms hown' with ⟨rfl, h0⟩ | ⟨g, cap, rfl⟩
    · exact ⟨none, 0, by rw [h0]⟩
    · exact ⟨_, _, rfl⟩
  have HC1 := Lib.hid (fun (p : Int) (W : World) => hangul_any p W)
  have HC2 := Lib.hid (fun (p : Int) (W : World) => scalar_any p W)
  rw [← mix_zero vD vC] at hown'
  have hbw1 := hb1.size
  go_wp2_with fail
  go_loopw [10] (fun v' w' => ∃ (i : Nat), v' = .int .i64 i ∧ i ≤ rs.length ∧ w'.ownsRow w.heap.size 4 1 (.slice av rs.length cv) rs.length (mix vD vC rs i) ∧ Below w.heap.size w w') (fun v _ => rs.length - (intOf v).toNat)
  case atStart => exact ⟨0, rfl, Nat.zero_le _, hown', hb1⟩
  case round =>
    obtain ⟨i, rfl, hi', hown, hb⟩ := hrel
    by_cases hlt : i < rs.length
    · obtain ⟨x, hx⟩ : ∃ x, rs[i]? = some x := ⟨_, List.getElem?_eq_getElem hlt⟩
      rcases HV.out.below hb with h0 | ⟨bk, o, rfl, hbk, hc⟩
      · subst h0; simp at hlt
      obtain ⟨g, cap, hva, hgb, hgl⟩ := hown.form (by omega)
      simp only [Value.slice.injEq] at hva
      obtain ⟨rfl, _, rfl⟩ := hva
      obtain ⟨q0, q1, q2⟩ := raws_at (hc i x hx)
      have hown2 := hown.alloc (.cells #[.int .i32 x.a, .int .i32 x.b, .slice x.ad x.is.length x.cap] 95 (0, 0))
      have g0 := (hown2.cellAt i (by omega)).trans (mix_at vD vC rs i x hx)
      have g1 := hown2.frozenAt i
      have hst := hown.stored i (vD x)
      rw [mix_set vD vC rs i x hx] at hst
      have hfo := hst.1.alloc (.cells #[.int .i32 x.a, .int .i32 x.b, .slice x.ad x.is.length x.cap] 95 (0, 0))
      have hfb : Below w.heap.size w ((wr.setCell ⟨g, i, none⟩ (vD x)).alloc (.cells #[.int .i32 x.a, .int .i32 x.b, .slice x.ad x.is.length x.cap] 95 (0, 0))) :=
        (hb.grown hst.2 hb.size (fun k hk => by obtain rfl := Option.some.inj hk; exact hgb)).alloc (by rw [World.size_setCell]; exact hb.size) _
      have HF := Lib.hid (And.intro hfo hfb)
      clear hst hc hx hfo hfb hown hown2
      unfold vC at g0
      have hcs : (wrongC 2 x.is = true ∧ Hid (vD x = .bool true)) ∨ ((wrongC 2 x.is = false ∧ (x.a != x.b) = true) ∧ Hid (vD x = .bool true)) ∨ ((wrongC 2 x.is = false ∧ (x.a != x.b) = false ∧ hangulB x.a = true) ∧ Hid (vD x = .bool true)) ∨ ((wrongC 2 x.is = false ∧ (x.a != x.b) = false ∧ hangulB x.a = false) ∧ Hid (vD x = .bool (!scalarB x.a))) := by
        unfold vD wrongD
        cases h1 : wrongC 2 x.is
        · cases h2 : (x.a == x.b)
          · exact .inr (.inl ⟨⟨rfl, by rw [bne, h2]; rfl⟩, Lib.hid (by simp)⟩)
          · cases h3 : hangulB x.a
            · exact .inr (.inr (.inr ⟨⟨rfl, by rw [bne, h2]; rfl, rfl⟩, Lib.hid (by simp)⟩))
            · exact .inr (.inr (.inl ⟨⟨rfl, by rw [bne, h2]; rfl, rfl⟩, Lib.hid (by simp)⟩))
        · exact .inl ⟨rfl, Lib.hid (by simp)⟩
      have C1 := Lib.hid (HC1.out x.a)
      have C2 := Lib.hid (HC2.out x.a)
      generalize wrongC 2 x.is = b1 at *
      generalize hangulB x.a = b2 at *
      generalize scalarB x.a = b3 at *
      rcases hcs with ⟨rfl, hWD⟩ | ⟨⟨rfl, e2⟩, hWD⟩ | ⟨⟨rfl, e2, rfl⟩, hWD⟩ | ⟨⟨rfl, e2, rfl⟩, hWD⟩
      · go_wp2_with (first | (go_at_call 143; refine (C1.out _).mono ?_; rintro e w1 ⟨rfl, rfl⟩) | (go_at_call 140; refine (C2.out _).mono ?_; rintro e w1 ⟨rfl, rfl⟩))
        have FF := HF.out
        rw [hWD.out] at FF
        go_roundw
        case rel => exact ⟨i + 1, by go_num, by omega, FF.1, FF.2⟩
        case measure => simp [intOf]; omega
      · go_wp2_with (first | (go_at_call 143; refine (C1.out _).mono ?_; rintro e w1 ⟨rfl, rfl⟩) | (go_at_call 140; refine (C2.out _).mono ?_; rintro e w1 ⟨rfl, rfl⟩))
        have FF := HF.out
        rw [hWD.out] at FF
        go_roundw
        case rel => exact ⟨i + 1, by go_num, by omega, FF.1, FF.2⟩
        case measure => simp [intOf]; omega
      · go_wp2_with (first | (go_at_call 143; refine (C1.out _).mono ?_; rintro e w1 ⟨rfl, rfl⟩) | (go_at_call 140; refine (C2.out _).mono ?_; rintro e w1 ⟨rfl, rfl⟩))
        have FF := HF.out
        rw [hWD.out] at FF
        go_roundw
        case rel => exact ⟨i + 1, by go_num, by omega, FF.1, FF.2⟩
        case measure => simp [intOf]; omega
      · go_wp2_with (first | (go_at_call 143; refine (C1.out _).mono ?_; rintro e w1 ⟨rfl, rfl⟩) | (go_at_call 140; refine (C2.out _).mono ?_; rintro e w1 ⟨rfl, rfl⟩))
        have FF := HF.out
        rw [hWD.out] at FF
        go_roundw
        case rel => exact ⟨i + 1, by go_num, by omega, FF.1, FF.2⟩
        case measure => simp [intOf]; omega
    · obtain rfl : i = rs.length := by omega
      rw [mix_all] at hown
      go_wp2_with fail
      go_ret
      exact ⟨_, rfl, hown, hb⟩
end Go.Proofs.YtgdambmineeboaaGreatDoor.Decomposed

/- The walk of the reference's meets. -/
namespace Go.Proofs.YtgdambmineeboaaGreatDoor.Meets
open Go.RowKit Go.Lib Go.Proofs.YtgdambmineeboaaGreatDoor.Text Go.Proofs.YtgdambmineeboaaGreatDoor.Runes Go.Proofs.YtgdambmineeboaaGreatDoor.Print Go.Proofs.YtgdambmineeboaaGreatDoor.RefNine Go.Proofs.YtgdambmineeboaaGreatDoor.RefPrint Go.Proofs.YtgdambmineeboaaGreatDoor.Format Go.Proofs.YtgdambmineeboaaGreatDoor.Tell Go.Proofs.YtgdambmineeboaaGreatDoor.Given Go.Proofs.YtgdambmineeboaaGreatDoor.Mem Go.Proofs.YtgdambmineeboaaGreatDoor.Pred

def meet1 (a b : Int) (y : Val) : Bool := decide (y.a ≤ b) && decide (a ≤ y.b)
def meetB (a b : Int) (l : List Val) : Bool := l.any (meet1 a b)

set_option maxRecDepth 100000 in
set_option maxHeartbeats 1000000 in
theorem meets_any (xa xb : Int) (sl : Value) (hsl : ∃ ad n c, sl = .slice ad n c) (aw : Option Addr) (l : List Val) (c : Nat) (w : World) (hl : l.length ≤ 1048576) (hV : Vals w aw l) :
    Calls Tryz.prog 81 #[.agg #[.int .i32 xa, .int .i32 xb, sl], .slice aw l.length c] w fun e w' => e = .returned (.bool (meetB xa xb l)) ∧ Below w.heap.size w w' := by
  obtain ⟨sa, sn, sc, rfl⟩ := hsl
  have HV := Lib.hid hV
  clear hV
  go_enter Tryz.func81, Tryz.ntmps81
  go_wp2
  go_loopw [9] (fun v w' => ∃ (i : Nat), v = .int .i64 i ∧ i ≤ l.length ∧ Hid (∀ j y, l[j]? = some y → j < i → meet1 xa xb y = false) ∧ Below w.heap.size w w' ∧ w'.cell? ⟨w.heap.size, 0, none⟩ = some (.int .i32 xa) ∧ w'.cell? ⟨w.heap.size, 1, none⟩ = some (.int .i32 xb) ∧ w.heap.size < w'.heap.size) (fun v _ => l.length - (intOf v).toNat)
  case atStart => exact ⟨0, rfl, Nat.zero_le _, Lib.hid (fun j y _ h => by omega), (Below.refl _ _).alloc (Nat.le_refl _) _, (World.cell?_alloc_new w _ _ 0).trans rfl, (World.cell?_alloc_new w _ _ 1).trans rfl, by simp⟩
  case round =>
    obtain ⟨i, rfl, hi, hok, hb, b0, b1, hlt0⟩ := hrel
    by_cases hlt : i < l.length
    · obtain ⟨y, hy⟩ : ∃ y, l[i]? = some y := ⟨_, List.getElem?_eq_getElem hlt⟩
      rcases HV.out.below hb with h0 | ⟨bk, o, rfl, hbk, hc⟩
      · subst h0; simp at hlt
      obtain ⟨q0, q1, q2⟩ := vals_at (hc i y hy)
      have HY := Lib.hid hy
      have hcs : (¬ y.a ≤ xb ∧ meet1 xa xb y = false) ∨ ((y.a ≤ xb ∧ ¬ xa ≤ y.b) ∧ meet1 xa xb y = false) ∨ ((y.a ≤ xb ∧ xa ≤ y.b) ∧ meet1 xa xb y = true) := by
        unfold meet1
        by_cases h1 : y.a ≤ xb
        · by_cases h2 : xa ≤ y.b
          · exact .inr (.inr ⟨⟨h1, h2⟩, by simp [h1, h2]⟩)
          · exact .inr (.inl ⟨⟨h1, h2⟩, by simp [h2]⟩)
        · exact .inl ⟨h1, by simp [h1]⟩
      have hb2 := hb.alloc hb.size (.cells #[.int .i32 y.a, .int .i32 y.b, .int .i64 y.n] 75 (0, 0))
      have k0 := (World.cell?_alloc_lt (w := wr) (o := .cells #[.int .i32 y.a, .int .i32 y.b, .int .i64 y.n] 75 (0, 0)) (a := ⟨w.heap.size, 0, none⟩) hlt0).trans b0
      have k1 := (World.cell?_alloc_lt (w := wr) (o := .cells #[.int .i32 y.a, .int .i32 y.b, .int .i64 y.n] 75 (0, 0)) (a := ⟨w.heap.size, 1, none⟩) hlt0).trans b1
      clear hc hy
      have hnext : meet1 xa xb y = false → ∀ j z, l[j]? = some z → j < i + 1 → meet1 xa xb z = false := fun h j z hz hj => by
        by_cases e : j = i
        · subst e
          rw [HY.out] at hz
          cases hz
          exact h
        · exact hok.out j z hz (by omega)
      have HNX := Lib.hid hnext
      clear hnext
      rcases hcs with ⟨e1, hm⟩ | ⟨⟨e1, e2⟩, hm⟩ | ⟨⟨e1, e2⟩, hm⟩
      · have HM := Lib.hid (HNX.out hm)
        clear hm
        go_wp2
        go_roundw
        case rel => exact ⟨i + 1, by go_num, by omega, HM, hb2, k0, k1, by simp; omega⟩
        case measure => simp [intOf]; omega
      · have HM := Lib.hid (HNX.out hm)
        clear hm
        go_wp2
        go_roundw
        case rel => exact ⟨i + 1, by go_num, by omega, HM, hb2, k0, k1, by simp; omega⟩
        case measure => simp [intOf]; omega
      · have HT : Hid (meetB xa xb l = true) := Lib.hid (List.any_eq_true.2 ⟨y, List.mem_of_getElem? HY.out, hm⟩)
        clear hm
        go_wp2
        go_ret
        exact ⟨by rw [HT.out]; rfl, hb2⟩
    · obtain rfl : i = l.length := by omega
      have HF : Hid (meetB xa xb l = false) := Lib.hid (by
        unfold meetB
        rw [List.any_eq_false]
        intro y hy
        obtain ⟨j, hj⟩ := List.getElem?_of_mem hy
        rw [hok.out j y hj (List.getElem?_eq_some_iff.1 hj).1]
        decide)
      go_wp2
      go_ret
      exact ⟨by rw [HF.out]; rfl, hb⟩
end Go.Proofs.YtgdambmineeboaaGreatDoor.Meets

/- When a book may be, plainly; and the contracts of the reference's helpers, in its words. -/
namespace Go.Proofs.YtgdambmineeboaaGreatDoor.Fine
open Go.RowKit Go.Lib Go.Proofs.YtgdambmineeboaaGreatDoor.Text Go.Proofs.YtgdambmineeboaaGreatDoor.Runes Go.Proofs.YtgdambmineeboaaGreatDoor.Print Go.Proofs.YtgdambmineeboaaGreatDoor.RefNine Go.Proofs.YtgdambmineeboaaGreatDoor.RefPrint Go.Proofs.YtgdambmineeboaaGreatDoor.Format Go.Proofs.YtgdambmineeboaaGreatDoor.Tell Go.Proofs.YtgdambmineeboaaGreatDoor.Given Go.Proofs.YtgdambmineeboaaGreatDoor.Mem Go.Proofs.YtgdambmineeboaaGreatDoor.Book Go.Proofs.YtgdambmineeboaaGreatDoor.Pred Go.Proofs.YtgdambmineeboaaGreatDoor.Many Go.Proofs.YtgdambmineeboaaGreatDoor.Meets Go.Proofs.YtgdambmineeboaaGreatDoor.NamesAll Go.Proofs.YtgdambmineeboaaGreatDoor.Wrong Go.Proofs.YtgdambmineeboaaGreatDoor.Numbered Go.Proofs.YtgdambmineeboaaGreatDoor.Written Go.Proofs.YtgdambmineeboaaGreatDoor.Decomposed Go.Proofs.YtgdambmineeboaaGreatDoor.Long Go.Proofs.YtgdambmineeboaaGreatDoor.WholeRef

def spV (l : List Val) : List Spn := l.map fun x => ⟨x.a, x.b⟩
def spC (l : List Chr) : List Spn := l.map fun x => ⟨x.a, x.b⟩
def wrongCh (most : Int) (x : Chr) : Bool := wrongC most x.is
def wrongM (st : List Val) (x : Chr) : Bool := wrongC 18 x.is || meetB x.a x.b st
def wrongDc (x : Chr) : Bool := wrongC 2 x.is || !(x.a == x.b) || hangulB x.a || !scalarB x.a
/-- What is asked of the lists, one by one. -/
def conds (B : Mem.Book) : List Prop := [
  OkNames B.names,
  okRows (spV B.status) (B.status.map (wrongV 1 3 false)) = true,
  okRows (spC B.maps) (B.maps.map (wrongM B.status)) = true,
  okRows (spV B.cls) (B.cls.map (wrongV 1 254 true)) = true,
  okRows (spC B.decomp) (B.decomp.map wrongDc) = true,
  okRows B.excl (B.excl.map fun x => touchB x.a x.b) = true,
  okRows (spV B.bidi) (B.bidi.map (wrongV 0 22 false)) = true,
  okRows (spV B.join) (B.join.map (wrongV 0 5 false)) = true,
  okRows B.marks (B.marks.map fun _ => false) = true,
  okRows (spV B.script) (B.script.map (wrongV 1 B.names.length false)) = true,
  okRows (spC B.like) (B.like.map (wrongCh 18)) = true]
/-- May a book be? -/
def Fine (B : Mem.Book) : Prop := (∀ p ∈ conds B, p) ∧ WholeOk B.decomp

theorem bools_of_own {α : Type} {f : α → Bool} {w : World} {base : Nat} {v : Value} {l : List α} (h : w.ownsRow base 4 1 v l.length (l.map fun x => .bool (f x))) : ∃ a c, v = .slice a l.length c ∧ Bools w a (l.map f) ∧ l.length ≤ c := by
  rw [← flat_one (fun x => Value.bool (f x))] at h
  obtain ⟨a, c, hv, ht, hc⟩ := tab_of_own (k := 1) (enc := fun x => [Value.bool (f x)]) (fun _ => rfl) h
  exact ⟨a, c, hv, tab_map (e2 := fun b : Bool => [Value.bool b]) f (fun _ => rfl) ht, hc⟩

theorem written_list (most : Int) (a : Option Addr) (l : List Chr) (c : Nat) (w : World) (hl : l.length ≤ 1048576) (hli : ∀ r ∈ l, r.is.length ≤ 1048576) (hV : Chrs w a l) :
    Calls Tryz.prog 80 #[.slice a l.length c, .int .i64 most] w fun e w' => ∃ a' c', e = .returned (.slice a' l.length c') ∧ Bools w' a' (l.map (wrongCh most)) ∧ Below w.heap.size w w' := by
  obtain ⟨rs, h1, h2, h3⟩ := hV
  have e1 : l.length = rs.length := by rw [← h2, List.length_map]
  rw [e1] at hl ⊢
  refine (written_raw most a rs c w hl (fun r hr => hli r.plain (by rw [← h2]; exact List.mem_map_of_mem hr)) h1 h3).mono ?_
  rintro e w' ⟨v, rfl, hown, hb⟩
  rw [show encC most = fun r : Raw => [Value.bool (wrongC most r.is)] from rfl, flat_one] at hown
  obtain ⟨a', c', rfl, ht, _⟩ := bools_of_own hown
  refine ⟨a', c', rfl, ?_, hb⟩
  rw [← h2, List.map_map]
  exact ht
theorem decomposed_list (a : Option Addr) (l : List Chr) (c : Nat) (w : World) (hl : l.length ≤ 1048576) (hli : ∀ r ∈ l, r.is.length ≤ 1048576) (hV : Chrs w a l) :
    Calls Tryz.prog 88 #[.slice a l.length c] w fun e w' => ∃ a' c', e = .returned (.slice a' l.length c') ∧ Bools w' a' (l.map wrongDc) ∧ Below w.heap.size w w' := by
  obtain ⟨rs, h1, h2, h3⟩ := hV
  have e1 : l.length = rs.length := by rw [← h2, List.length_map]
  rw [e1] at hl ⊢
  refine (decomposed_raw a rs c w hl (fun r hr => hli r.plain (by rw [← h2]; exact List.mem_map_of_mem hr)) h1 h3).mono ?_
  rintro e w' ⟨v, rfl, hown, hb⟩
  obtain ⟨a', c', rfl, ht, _⟩ := bools_of_own (f := wrongD) hown
  refine ⟨a', c', rfl, ?_, hb⟩
  rw [← h2, List.map_map]
  exact ht
theorem numbered_list (low high : Int) (apart : Bool) (a : Option Addr) (l : List Val) (c : Nat) (w : World) (hl : l.length ≤ 1048576) (hV : Vals w a l) :
    Calls Tryz.prog 86 #[.slice a l.length c, .int .i64 low, .int .i64 high, .bool apart] w fun e w' => ∃ a' c', e = .returned (.slice a' l.length c') ∧ Bools w' a' (l.map (wrongV low high apart)) ∧ Below w.heap.size w w' := by
  refine (numbered_raw low high apart a l c w hl hV).mono ?_
  rintro e w' ⟨a', c', rfl, ht, hb⟩
  exact ⟨a', c', rfl, tab_map (e2 := fun b : Bool => [Value.bool b]) _ (fun _ => rfl) ht, hb⟩
theorem spans_list (a : Option Addr) (l : List Val) (c : Nat) (w : World) (hl : l.length ≤ 1048576) (hV : Vals w a l) :
    Calls Tryz.prog 85 #[.slice a l.length c] w fun e w' => ∃ a' c', e = .returned (.slice a' l.length c') ∧ Spns w' a' (spV l) ∧ Below w.heap.size w w' := by
  refine (spans_any a l c w hl hV).mono ?_
  rintro e w' ⟨a', c', rfl, ht, hb⟩
  exact ⟨a', c', by rw [List.length_map], ht, hb⟩
theorem spansOf_list (a : Option Addr) (l : List Chr) (c : Nat) (w : World) (hl : l.length ≤ 1048576) (hV : Chrs w a l) :
    Calls Tryz.prog 87 #[.slice a l.length c] w fun e w' => ∃ a' c', e = .returned (.slice a' l.length c') ∧ Spns w' a' (spC l) ∧ Below w.heap.size w w' := by
  refine (spansOf_any a l c w hl hV).mono ?_
  rintro e w' ⟨a', c', rfl, ht, hb⟩
  exact ⟨a', c', by rw [List.length_map], ht, hb⟩
theorem many_list (a aw : Option Addr) (n : Nat) (l : List Spn) (ws : List Bool) (c cw : Nat) (w : World) (hl : n ≤ 1048576) (hn : l.length = n) (hlw : ws.length = n) (hV : Spns w a l) (hW : Bools w aw ws) :
    Calls Tryz.prog 84 #[.slice a n c, .slice aw n cw] w fun e w' => ∃ r, e = .returned (.int .i64 r) ∧ (0 ≤ r ↔ ¬ okRows l ws = true) ∧ Below w.heap.size w w' := by
  subst hn
  have := many_any a aw l ws c cw w hl hlw hV hW
  rw [hlw] at this
  refine this.mono ?_
  rintro e w' ⟨r, rfl, hr, hb⟩
  exact ⟨r, rfl, by rw [hr, Bool.not_eq_true], hb⟩
end Go.Proofs.YtgdambmineeboaaGreatDoor.Fine

/- The memo of a search through decompositions, plainly. -/
namespace Go.Proofs.YtgdambmineeboaaGreatDoor.Memo
open Go Go.Maps Go.Proofs.YtgdambmineeboaaGreatDoor.Mem Go.Proofs.YtgdambmineeboaaGreatDoor.Chars Go.Proofs.YtgdambmineeboaaGreatDoor.Full Go.Proofs.YtgdambmineeboaaGreatDoor.Many Go.Proofs.YtgdambmineeboaaGreatDoor.Pred Go.Proofs.YtgdambmineeboaaGreatDoor.Fine Go.Proofs.YtgdambmineeboaaGreatDoor.Written

/-- Rows that may be by themselves: what the search leans on. -/
structure Rows (D : List Chr) : Prop where
  one : ∀ x ∈ D, x.a = x.b
  apart : ∀ (j k : Nat) x y, D[j]? = some x → D[k]? = some y → x.a = y.a → j = k
  size : ∀ x ∈ D, 1 ≤ x.is.length ∧ x.is.length ≤ 2
  low : ∀ x ∈ D, 0 ≤ x.a ∧ x.a ≤ 1114111
  parts : ∀ x ∈ D, ∀ p ∈ x.is, 0 ≤ p ∧ p ≤ 1114111

theorem said_of {D : List Chr} (h : Rows D) {k : Nat} {x : Chr} (hx : D[k]? = some x) : said x.a D = x.is := by
  have h1 := h.one x (List.mem_of_getElem? hx)
  refine said_at x.a D k x hx (by unfold hits; simp; omega) fun j y hy hj => ?_
  have h2 := h.one y (List.mem_of_getElem? hy)
  unfold hits
  rw [Bool.and_eq_false_iff]
  by_cases e : y.a = x.a
  · have := h.apart j k y x hy hx e; omega
  · rcases Int.lt_or_gt_of_ne e with h3 | h3
    · exact .inr (decide_eq_false (by omega))
    · exact .inl (decide_eq_false (by omega))
theorem said_not {D : List Chr} (h : Rows D) {p : Int} (hp : ∀ (k : Nat) x, D[k]? = some x → x.a ≠ p) : said p D = [] := by
  refine said_none p D fun j y hy => ?_
  have h2 := h.one y (List.mem_of_getElem? hy)
  have h3 := hp j y hy
  unfold hits
  rw [Bool.and_eq_false_iff]
  rcases Int.lt_or_gt_of_ne h3 with h4 | h4
  · exact .inr (decide_eq_false (by omega))
  · exact .inl (decide_eq_false (by omega))

/-- What is said of a code point: so many, or 0: it leads to itself, or is too long. -/
def Ans (D : List Chr) (p : Int) (v : Nat) : Prop := (v ≠ 0 → Sett D p v) ∧ (v = 0 → ∀ n, ¬ Sett D p n)
structure MemoOk (D : List Chr) (S : List Nat) (m : Nat → Option Nat) : Prop where
  full : ∀ k x v, D[k]? = some x → m k = some v → v ≠ 0 → Sett D x.a v
  zero : ∀ k x, D[k]? = some x → m k = some 0 → k ∈ S ∨ ∀ n, ¬ Sett D x.a n
def put (m : Nat → Option Nat) (i v : Nat) : Nat → Option Nat := fun k => if k = i then some v else m k
theorem put_same (m : Nat → Option Nat) (i v : Nat) : put m i v i = some v := by unfold put; rw [if_pos rfl]
theorem put_other (m : Nat → Option Nat) {i k : Nat} (v : Nat) (h : k ≠ i) : put m i v k = m k := by unfold put; rw [if_neg h]
def unseen (n : Nat) (m : Nat → Option Nat) : Nat := ((List.range n).filter fun k => (m k).isNone).length

theorem filter_le {α : Type} (p q : α → Bool) (hpq : ∀ x, p x = true → q x = true) : ∀ l : List α, (l.filter p).length ≤ (l.filter q).length
  | [] => Nat.le_refl _
  | y :: l => by
    have ih := filter_le p q hpq l
    cases hp : p y with
    | true => rw [List.filter_cons_of_pos hp, List.filter_cons_of_pos (hpq y hp)]; simpa using ih
    | false =>
      rw [List.filter_cons_of_neg (by rw [hp]; decide)]
      cases hq : q y with
      | true => rw [List.filter_cons_of_pos hq]; simp only [List.length_cons]; omega
      | false => rw [List.filter_cons_of_neg (by rw [hq]; decide)]; exact ih
theorem filter_lt {α : Type} (p q : α → Bool) (hpq : ∀ x, p x = true → q x = true) {i : α} : ∀ {l : List α}, i ∈ l → q i = true → p i = false → (l.filter p).length < (l.filter q).length
  | [], h, _, _ => by cases h
  | y :: l, h, hq, hp => by
    have hle := filter_le p q hpq l
    rcases List.mem_cons.1 h with rfl | hi
    · rw [List.filter_cons_of_neg (by rw [hp]; decide), List.filter_cons_of_pos hq]
      simp only [List.length_cons]
      omega
    · have ih := filter_lt p q hpq hi hq hp
      cases hz : p y with
      | true => rw [List.filter_cons_of_pos hz, List.filter_cons_of_pos (hpq y hz)]; simpa using ih
      | false =>
        rw [List.filter_cons_of_neg (by rw [hz]; decide)]
        cases hz2 : q y with
        | true => rw [List.filter_cons_of_pos hz2]; simp only [List.length_cons]; omega
        | false => rw [List.filter_cons_of_neg (by rw [hz2]; decide)]; exact ih
def Grows (m m' : Nat → Option Nat) : Prop := ∀ k, (m k).isSome = true → (m' k).isSome = true
theorem unseen_grows {m m' : Nat → Option Nat} (n : Nat) (h : Grows m m') : unseen n m' ≤ unseen n m := by
  refine filter_le _ _ (fun k hk => ?_) _
  cases hm : m k with
  | none => rfl
  | some v =>
    have := h k (by rw [hm]; rfl)
    cases hm' : m' k with
    | none => rw [hm'] at this; cases this
    | some v' => rw [hm'] at hk; cases hk
theorem put_grows (m : Nat → Option Nat) (i v : Nat) : Grows m (put m i v) := fun k hk => by
  by_cases h : k = i
  · subst h; rw [put_same]; rfl
  · rw [put_other m v h]; exact hk
theorem Grows.trans {a b c : Nat → Option Nat} (h : Grows a b) (h' : Grows b c) : Grows a c := fun k hk => h' k (h k hk)
theorem unseen_put {n i : Nat} {m : Nat → Option Nat} (v : Nat) (hi : i < n) (hm : m i = none) : unseen n (put m i v) + 1 ≤ unseen n m := by
  refine filter_lt _ _ (fun k hk => ?_) (List.mem_range.2 hi) (by rw [hm]; rfl) (by rw [put_same]; rfl)
  by_cases h : k = i
  · subst h; rw [hm]; rfl
  · rw [put_other m v h] at hk; exact hk

/-- What a search leaves where it stands. -/
theorem MemoOk.enter {D : List Chr} {S : List Nat} {m : Nat → Option Nat} (h : MemoOk D S m) (i : Nat) : MemoOk D (i :: S) (put m i 0) := by
  refine ⟨fun k x v hx hk hv => ?_, fun k x hx hk => ?_⟩
  · by_cases e : k = i
    · subst e; rw [put_same] at hk; cases hk; exact absurd rfl hv
    · rw [put_other m 0 e] at hk; exact h.full k x v hx hk hv
  · by_cases e : k = i
    · subst e; exact .inl (List.mem_cons_self ..)
    · rw [put_other m 0 e] at hk
      exact (h.zero k x hx hk).imp (List.mem_cons_of_mem _) id
theorem MemoOk.failed {D : List Chr} {S : List Nat} {m : Nat → Option Nat} {i : Nat} {x : Chr} (h : MemoOk D (i :: S) m) (hx : D[i]? = some x) (hn : ∀ n, ¬ Sett D x.a n) : MemoOk D S m := by
  refine ⟨h.full, fun k y hy hk => ?_⟩
  rcases h.zero k y hy hk with h1 | h1
  · rcases List.mem_cons.1 h1 with rfl | h1
    · rw [hx] at hy; cases hy; exact .inr hn
    · exact .inl h1
  · exact .inr h1
theorem MemoOk.leave {D : List Chr} {S : List Nat} {m : Nat → Option Nat} {i v : Nat} {x : Chr} (h : MemoOk D (i :: S) m) (hx : D[i]? = some x) (hv : v ≠ 0) (hs : Sett D x.a v) : MemoOk D S (put m i v) := by
  refine ⟨fun k y u hy hk hu => ?_, fun k y hy hk => ?_⟩
  · by_cases e : k = i
    · subst e; rw [put_same] at hk; cases hk; rw [hx] at hy; cases hy; exact hs
    · rw [put_other m v e] at hk; exact h.full k y u hy hk hu
  · by_cases e : k = i
    · subst e; rw [put_same] at hk; cases hk; exact absurd rfl hv
    · rw [put_other m v e] at hk
      rcases h.zero k y hy hk with h1 | h1
      · rcases List.mem_cons.1 h1 with rfl | h1
        · exact absurd rfl e
        · exact .inl h1
      · exact .inr h1
/-- What is known of a row that was seen. -/
theorem MemoOk.seen {D : List Chr} {S : List Nat} {m : Nat → Option Nat} {i v : Nat} {x : Chr} (h : MemoOk D S m) (hx : D[i]? = some x) (hm : m i = some v) (hS : ∀ s ∈ S, ∃ y, D[s]? = some y ∧ Leads D y.a x.a) : Ans D x.a v := by
  refine ⟨fun hv => h.full i x v hx hm hv, fun hv => ?_⟩
  subst hv
  rcases h.zero i x hx hm with h1 | h1
  · obtain ⟨y, hy, hl⟩ := hS i h1
    rw [hx] at hy
    cases hy
    exact leads_self hl
  · exact h1
/-- The parts so far. -/
def SoFar (D : List Chr) (is : List Int) (k n : Nat) : Prop := ∃ ns : List Nat, ns.length = k ∧ (∀ (j : Nat) q m, is[j]? = some q → ns[j]? = some m → Sett D q m) ∧ n = ns.sum
theorem SoFar.zero (D : List Chr) (is : List Int) : SoFar D is 0 0 := ⟨[], rfl, by simp, rfl⟩
theorem SoFar.succ {D : List Chr} {is : List Int} {k n v : Nat} {q : Int} (h : SoFar D is k n) (hq : is[k]? = some q) (hv : Sett D q v) : SoFar D is (k + 1) (n + v) := by
  obtain ⟨ns, h1, h2, h3⟩ := h
  refine ⟨ns ++ [v], by simp [h1], ?_, by simp [h3]⟩
  intro j q' m hj hm
  by_cases e : j < k
  · rw [List.getElem?_append_left (by omega)] at hm
    exact h2 j q' m hj hm
  · have hj2 : j = k := by
      have := (List.getElem?_eq_some_iff.1 hm).1
      simp [h1] at this
      omega
    subst hj2
    rw [List.getElem?_append_right (by omega), h1, Nat.sub_self] at hm
    cases hm
    rw [hq] at hj
    cases hj
    exact hv
theorem SoFar.le {D : List Chr} {is : List Int} {k n : Nat} (h : SoFar D is k n) (hk : k ≤ is.length) : n ≤ 18 * k := by
  obtain ⟨ns, h1, h2, rfl⟩ := h
  have : ∀ (ns : List Nat), (∀ v ∈ ns, v ≤ 18) → ns.sum ≤ 18 * ns.length := by
    intro ns
    induction ns with
    | nil => intro _; simp
    | cons v ns ih =>
      intro h
      have h1 := h v (List.mem_cons_self ..)
      have h2 := ih fun u hu => h u (List.mem_cons_of_mem _ hu)
      rw [List.sum_cons, List.length_cons]
      omega
  rw [← h1]
  refine this ns fun v hv => ?_
  obtain ⟨j, hj⟩ := List.getElem?_of_mem hv
  have hlt := (List.getElem?_eq_some_iff.1 hj).1
  obtain ⟨q, hq⟩ : ∃ q, is[j]? = some q := ⟨_, List.getElem?_eq_getElem (by omega)⟩
  exact (h2 j q v hq hj).1
theorem SoFar.done {D : List Chr} {p : Int} {n : Nat} (hne : said p D ≠ []) (h : SoFar D (said p D) (said p D).length n) : Ans D p (if n ≤ 18 then n else 0) ∧ n ≠ 0 := by
  obtain ⟨ns, h1, h2, rfl⟩ := h
  have hnz : ns.sum ≠ 0 := by
    cases hs : said p D with
    | nil => exact absurd hs hne
    | cons q l =>
      cases ns with
      | nil => rw [hs] at h1; simp at h1
      | cons v ns =>
        have hv := h2 0 q v (by rw [hs]; rfl) rfl
        obtain ⟨_, f, hf⟩ := hv
        have := longF_pos D f q
        rw [List.sum_cons]
        omega
  refine ⟨?_, hnz⟩
  by_cases h18 : ns.sum ≤ 18
  · rw [if_pos h18]
    exact ⟨fun _ => Sett.node ns hne h1.symm h2 h18, fun h => absurd h hnz⟩
  · rw [if_neg h18]
    refine ⟨fun h => absurd rfl h, fun _ n hn => ?_⟩
    obtain ⟨ns', h3, h4, rfl⟩ := hn.split hne
    have : ns' = ns := by
      apply List.ext_getElem (by omega)
      intro j hj1 hj2
      obtain ⟨q, hq⟩ : ∃ q, (said p D)[j]? = some q := ⟨_, List.getElem?_eq_getElem (by omega)⟩
      exact (h4 j q ns'[j] hq (List.getElem?_eq_getElem hj1)).uniq (h2 j q ns[j] hq (List.getElem?_eq_getElem hj2))
    rw [this] at hn
    exact h18 hn.1
theorem part_none {D : List Chr} {p q : Int} (hq : q ∈ said p D) (h : ∀ n, ¬ Sett D q n) : ∀ n, ¬ Sett D p n := by
  intro n hn
  have hne : said p D ≠ [] := fun e => by rw [e] at hq; cases hq
  obtain ⟨ns, h1, h2, _⟩ := hn.split hne
  obtain ⟨j, hj⟩ := List.getElem?_of_mem hq
  have hlt := (List.getElem?_eq_some_iff.1 hj).1
  obtain ⟨m, hm⟩ : ∃ m, ns[j]? = some m := ⟨_, List.getElem?_eq_getElem (by omega)⟩
  exact h m (h2 j q m hj hm)

/-- What the two maps read as. -/
abbrev Dat := DataW Unit
def z0 : Dat := .lit (.int .i64 0)
def Rep (n : Nat) (M : Dat) (m : Nat → Option Nat) : Prop := ∀ k : Nat, k < n → Maps.has M (.int .i64 (k : Int)) = (m k).isSome ∧ ∀ v, m k = some v → M.atKey (.int .i64 (k : Int)) z0 = .lit (.int .i64 (v : Int))
theorem key_int (q : IntKind) (a : Int) : WideAt.IsKeyLit (.int q a) := trivial
theorem key_ne {q : IntKind} {a b : Int} (h : a ≠ b) : (Lit.int q a) ≠ .int q b := fun e => by cases e; exact h rfl
theorem Rep.put {n : Nat} {M : Dat} {m : Nat → Option Nat} (h : Rep n M m) (hM : IsMap M) (i v : Nat) : Rep n (M.put (.int .i64 (i : Int)) (.lit (.int .i64 (v : Int)))) (put m i v) := by
  intro k hk
  by_cases e : k = i
  · subst e
    rw [has_put_same hM (key_int _ _), put_same]
    refine ⟨rfl, fun u hu => ?_⟩
    cases hu
    exact atKey_put_same hM (key_int _ _) _ _
  · have hne : (Lit.int .i64 (k : Int)) ≠ .int .i64 (i : Int) := key_ne (by omega)
    rw [has_put_other hne, put_other m v e]
    refine ⟨(h k hk).1, fun u hu => ?_⟩
    rw [atKey_put_other hne]
    exact (h k hk).2 u hu
theorem Rep.none (n : Nat) : Rep n (.map []) (fun _ => none) := fun k _ => ⟨rfl, fun v hv => by cases hv⟩
/-- Which row has a code point: the first i rows being laid. -/
def RepR (D : List Chr) (i : Nat) (R : Dat) : Prop :=
  (∀ k x, D[k]? = some x → k < i → Maps.has R (.int .i32 x.a) = true ∧ R.atKey (.int .i32 x.a) z0 = .lit (.int .i64 (k : Int))) ∧ (∀ p, Maps.has R (.int .i32 p) = true → ∃ k x, D[k]? = some x ∧ x.a = p ∧ k < i)
theorem RepR.zero (D : List Chr) : RepR D 0 (.map []) := ⟨fun k x _ h => by omega, fun p h => by cases h⟩
theorem RepR.succ {D : List Chr} (hD : Rows D) {i : Nat} {R : Dat} {x : Chr} (h : RepR D i R) (hR : IsMap R) (hx : D[i]? = some x) : RepR D (i + 1) (R.put (.int .i32 x.a) (.lit (.int .i64 (i : Int)))) := by
  refine ⟨fun k y hy hk => ?_, fun p hp => ?_⟩
  · by_cases e : k = i
    · subst e
      rw [hx] at hy
      cases hy
      exact ⟨has_put_same hR (key_int _ _) _, atKey_put_same hR (key_int _ _) _ _⟩
    · have hne : (Lit.int .i32 y.a) ≠ .int .i32 x.a := key_ne fun ha => e (hD.apart k i y x hy hx ha)
      rw [has_put_other hne, atKey_put_other hne]
      exact h.1 k y hy (by omega)
  · by_cases e : p = x.a
    · subst e; exact ⟨i, x, hx, rfl, Nat.lt_succ_self i⟩
    · rw [has_put_other (key_ne e)] at hp
      obtain ⟨k, y, h1, h2, h3⟩ := h.2 p hp
      exact ⟨k, y, h1, h2, by omega⟩

/-- Rows of which nothing is wrong by themselves are such. -/
theorem rows_of {D : List Chr} (h : okRows (spC D) (D.map wrongDc) = true) : Rows D := by
  unfold okRows at h
  rw [Bool.and_eq_true] at h
  have hall := List.all_eq_true.1 h.2
  have hat : ∀ (i : Nat) x, D[i]? = some x → rowB (prevOf (spC D) i) ⟨x.a, x.b⟩ = true ∧ wrongDc x = false := by
    intro i x hx
    have hlt := (List.getElem?_eq_some_iff.1 hx).1
    have h1 := hall i (List.mem_range.2 (by unfold spC; rw [List.length_map]; exact hlt))
    unfold okAt at h1
    have e1 : (spC D)[i]? = some ⟨x.a, x.b⟩ := by unfold spC; rw [List.getElem?_map, hx]; rfl
    have e2 : (D.map wrongDc).getD i false = wrongDc x := by rw [List.getD_eq_getElem?_getD, List.getElem?_map, hx]; rfl
    rw [e1, e2] at h1
    simp only [Bool.and_eq_true] at h1
    exact ⟨h1.1, by simpa using h1.2⟩
  have hw : ∀ x ∈ D, x.a = x.b ∧ (1 ≤ x.is.length ∧ x.is.length ≤ 2) ∧ (0 ≤ x.a ∧ x.a ≤ 1114111) ∧ ∀ p ∈ x.is, 0 ≤ p ∧ p ≤ 1114111 := by
    intro x hx
    obtain ⟨i, hi⟩ := List.getElem?_of_mem hx
    obtain ⟨_, h2⟩ := hat i x hi
    unfold wrongDc wrongC at h2
    simp only [Bool.or_eq_false_iff, decide_eq_false_iff_not, Bool.not_eq_false'] at h2
    obtain ⟨⟨⟨⟨⟨h3, h4⟩, h5⟩, h6⟩, _⟩, h8⟩ := h2
    have hsc : ∀ p, scalarB p = true → 0 ≤ p ∧ p ≤ 1114111 := by
      intro p hp
      unfold scalarB at hp
      simp only [Bool.or_eq_true, Bool.and_eq_true, decide_eq_true_eq] at hp
      omega
    refine ⟨by simpa using h6, ⟨by omega, by omega⟩, hsc _ h8, fun p hp => hsc p ?_⟩
    have := List.any_eq_false.1 h5 p hp
    simpa using this
  have hrise : ∀ (i : Nat) x y, D[i]? = some x → D[i + 1]? = some y → x.b < y.a := by
    intro i x y hx hy
    obtain ⟨h1, _⟩ := hat (i + 1) y hy
    unfold rowB at h1
    have e1 : prevOf (spC D) (i + 1) = some ⟨x.a, x.b⟩ := by
      show (spC D)[i]? = _
      unfold spC; rw [List.getElem?_map, hx]; rfl
    rw [e1] at h1
    simp only [Bool.and_eq_true, decide_eq_true_eq] at h1
    exact h1.2
  have hlt : ∀ (d j : Nat) x y, D[j]? = some x → D[j + d + 1]? = some y → x.a < y.a := by
    intro d
    induction d with
    | zero =>
      intro j x y hx hy
      have h1 := hrise j x y hx (by simpa using hy)
      have h2 := (hw x (List.mem_of_getElem? hx)).1
      omega
    | succ d ih =>
      intro j x y hx hy
      obtain ⟨z, hz⟩ : ∃ z, D[j + d + 1]? = some z := ⟨_, List.getElem?_eq_getElem (by have := (List.getElem?_eq_some_iff.1 hy).1; omega)⟩
      have h1 := ih j x z hx hz
      have h2 := hrise (j + d + 1) z y hz (by rw [show j + d + 1 + 1 = j + (d + 1) + 1 from by omega]; exact hy)
      have h3 := (hw z (List.mem_of_getElem? hz)).1
      omega
  refine ⟨fun x hx => (hw x hx).1, fun j k x y hx hy ha => ?_, fun x hx => (hw x hx).2.1, fun x hx => (hw x hx).2.2.1, fun x hx => (hw x hx).2.2.2⟩
  rcases Nat.lt_trichotomy j k with h1 | h1 | h1
  · obtain ⟨d, rfl⟩ := Nat.exists_eq_add_of_lt h1
    have := hlt d j x y hx hy
    omega
  · exact h1
  · obtain ⟨d, rfl⟩ := Nat.exists_eq_add_of_lt h1
    have := hlt d k y x hy hx
    omega
end Go.Proofs.YtgdambmineeboaaGreatDoor.Memo
