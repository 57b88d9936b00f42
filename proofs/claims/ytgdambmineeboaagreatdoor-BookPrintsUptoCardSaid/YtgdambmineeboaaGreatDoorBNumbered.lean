/- The walks of the reference's small helpers: the spans of rows. -/
import Derived.Test.YtgdambmineeboaaGreatDoorBBook
import Derived.Test.YtgdambmineeboaaGreatDoorBMany
set_option linter.unusedSimpArgs false
set_option linter.unusedVariables false
namespace Go.Proofs.YtgdambmineeboaaGreatDoor.Wrong
open Go.RowKit Go.Lib Go.Proofs.YtgdambmineeboaaGreatDoor.Text Go.Proofs.YtgdambmineeboaaGreatDoor.Runes Go.Proofs.YtgdambmineeboaaGreatDoor.Print Go.Proofs.YtgdambmineeboaaGreatDoor.RefNine Go.Proofs.YtgdambmineeboaaGreatDoor.RefPrint Go.Proofs.YtgdambmineeboaaGreatDoor.Format Go.Proofs.YtgdambmineeboaaGreatDoor.Tell Go.Proofs.YtgdambmineeboaaGreatDoor.Given Go.Proofs.YtgdambmineeboaaGreatDoor.Mem Go.Proofs.YtgdambmineeboaaGreatDoor.Of Go.Proofs.YtgdambmineeboaaGreatDoor.Lists Go.Proofs.YtgdambmineeboaaGreatDoor.Book

def Val.span (x : Val) : Spn := ⟨x.a, x.b⟩
def Chr.span (x : Chr) : Spn := ⟨x.a, x.b⟩
def spanV (x : Val) : List Value := encS ⟨x.a, x.b⟩
theorem spanV_len (x : Val) : (spanV x).length = 2 := rfl
def spanR (x : Raw) : List Value := encS ⟨x.a, x.b⟩
theorem spanR_len (x : Raw) : (spanR x).length = 2 := rfl
theorem tab_map {α β : Type} {k : Nat} {e1 : α → List Value} {e2 : β → List Value} (f : α → β) (he : ∀ x, e1 x = e2 (f x)) {w : World} {a : Option Addr} {l : List α} (h : Tab k e1 w a l) : Tab k e2 w a (l.map f) := by
  rcases h with h | ⟨bk, o, h1, h2, h3⟩
  · exact .inl (by rw [h]; rfl)
  · refine .inr ⟨bk, o, h1, h2, fun j y hy i v hv => ?_⟩
    rw [List.getElem?_map] at hy
    cases hx : l[j]? with
    | none => rw [hx] at hy; cases hy
    | some x => rw [hx] at hy; cases hy; exact h3 j x hx i v (by rw [he]; exact hv)

set_option maxRecDepth 100000 in
set_option maxHeartbeats 2000000 in
theorem spansRaw_any (a : Option Addr) (l : List Val) (c : Nat) (w : World) (hl : l.length ≤ 1048576) (hV : Vals w a l) :
    Calls Tryz.prog 85 #[.slice a l.length c] w fun e w' => ∃ a' c', e = .returned (.slice a' l.length c') ∧ Tab 2 spanV w' a' l ∧ Below w.heap.size w w' := by
  have HV := Lib.hid hV
  obtain ⟨i0, hi, hz0, hz1, hz2⟩ := info_parts info_spn
  clear hV
  go_enter Tryz.func85, Tryz.ntmps85
  go_wp2
  go_loopw [3, 9] (fun u v w' => ∃ (i : Nat), v = .int .i64 i ∧ i ≤ l.length ∧ w'.ownsRow w.heap.size 78 2 u i (flat spanV (l.take i)) ∧ Below w.heap.size w w') (fun _ v _ => l.length - (intOf v).toNat)
  case atStart => exact ⟨0, rfl, Nat.zero_le _, by
    have := World.ownsRow_made (base := w.heap.size) (e := 78) (size := 2) w #[] 0 (Nat.le_refl _) (by decide) rfl
    exact this, (Below.refl _ _).alloc (Nat.le_refl _) _⟩
  case round =>
    obtain ⟨i, rfl, hi', hown, hb⟩ := hrel
    by_cases hlt : i < l.length
    · obtain ⟨x, hx⟩ : ∃ x, l[i]? = some x := ⟨_, List.getElem?_eq_getElem hlt⟩
      rcases HV.out.below hb with h0 | ⟨bk, o, rfl, hbk, hc⟩
      · subst h0; simp at hlt
      obtain ⟨q0, q1, q2⟩ := vals_at (hc i x hx)
      have hsn := Lib.hid (flat_snoc spanV l i x hx)
      clear hc hx
      go_wp2_with (at_builtin; refine wpList_append_own _ rfl _ _ 31 rfl w.heap.size 78 i0 _ 2 8 Tryz.underlying31 hi hz0 hz1 hz2 rfl (by decide) _ i _ rfl ((hown.alloc _).alloc _) ⟨wr.heap.size + 1, 0, none⟩ 1 1 (spanV x) rfl rfl ?c1 ?c2 ?c3 ?c4 ?c5 ?_)
      case c1 => exact news2 wr _ #[.int .i32 x.a, .int .i32 x.b] 78
      case c2 => intro u hu; simp only [spanV, encS, List.mem_cons, List.not_mem_nil, or_false] at hu; rcases hu with rfl | rfl <;> rfl
      case c3 => unfold maxLen; omega
      case c4 => omega
      case c5 => have := hb.size; simp; omega
      intro v' w4 hown4 hgrow hv'
      have hbw4 : Below w.heap.size w w4 := ((hb.alloc hb.size _).alloc (by have := hb.size; simp; omega) _).grown hgrow (by have := hb.size; simp; omega) (fun k hk => (hown.lt k hk).1)
      have hown5 : w4.ownsRow w.heap.size 78 2 v' (i + 1) (flat spanV (l.take (i + 1))) := by
        rw [hsn.out]
        exact hown4
      clear hown4 hgrow hown hb hv'
      go_wp2
      go_roundw
      case rel => exact ⟨i + 1, by go_num, by omega, hown5, hbw4⟩
      case measure => simp [intOf]; omega
    · obtain rfl : i = l.length := by omega
      rw [List.take_length] at hown
      obtain ⟨a', c', rfl, ht, _⟩ := tab_of_own spanV_len hown
      clear hown
      go_wp2
      go_ret
      exact ⟨a', c', rfl, ht, hb⟩

set_option maxRecDepth 100000 in
set_option maxHeartbeats 2000000 in
theorem spansOfRaw_any (a : Option Addr) (l : List Raw) (c : Nat) (w : World) (hl : l.length ≤ 1048576) (hV : Tab 3 Mem.encR w a l) :
    Calls Tryz.prog 87 #[.slice a l.length c] w fun e w' => ∃ a' c', e = .returned (.slice a' l.length c') ∧ Tab 2 spanR w' a' l ∧ Below w.heap.size w w' := by
  have HV := Lib.hid hV
  obtain ⟨i0, hi, hz0, hz1, hz2⟩ := info_parts info_spn
  clear hV
  go_enter Tryz.func87, Tryz.ntmps87
  go_wp2
  go_loopw [3, 9] (fun u v w' => ∃ (i : Nat), v = .int .i64 i ∧ i ≤ l.length ∧ w'.ownsRow w.heap.size 78 2 u i (flat spanR (l.take i)) ∧ Below w.heap.size w w') (fun _ v _ => l.length - (intOf v).toNat)
  case atStart => exact ⟨0, rfl, Nat.zero_le _, by
    have := World.ownsRow_made (base := w.heap.size) (e := 78) (size := 2) w #[] 0 (Nat.le_refl _) (by decide) rfl
    exact this, (Below.refl _ _).alloc (Nat.le_refl _) _⟩
  case round =>
    obtain ⟨i, rfl, hi', hown, hb⟩ := hrel
    by_cases hlt : i < l.length
    · obtain ⟨x, hx⟩ : ∃ x, l[i]? = some x := ⟨_, List.getElem?_eq_getElem hlt⟩
      rcases HV.out.below hb with h0 | ⟨bk, o, rfl, hbk, hc⟩
      · subst h0; simp at hlt
      obtain ⟨q0, q1, q2⟩ := raws_at (hc i x hx)
      have hsn := Lib.hid (flat_snoc spanR l i x hx)
      clear hc hx
      go_wp2_with (at_builtin; refine wpList_append_own _ rfl _ _ 31 rfl w.heap.size 78 i0 _ 2 8 Tryz.underlying31 hi hz0 hz1 hz2 rfl (by decide) _ i _ rfl ((hown.alloc _).alloc _) ⟨wr.heap.size + 1, 0, none⟩ 1 1 (spanR x) rfl rfl ?c1 ?c2 ?c3 ?c4 ?c5 ?_)
      case c1 => exact news2 wr _ #[.int .i32 x.a, .int .i32 x.b] 78
      case c2 => intro u hu; simp only [spanR, encS, List.mem_cons, List.not_mem_nil, or_false] at hu; rcases hu with rfl | rfl <;> rfl
      case c3 => unfold maxLen; omega
      case c4 => omega
      case c5 => have := hb.size; simp; omega
      intro v' w4 hown4 hgrow hv'
      have hbw4 : Below w.heap.size w w4 := ((hb.alloc hb.size _).alloc (by have := hb.size; simp; omega) _).grown hgrow (by have := hb.size; simp; omega) (fun k hk => (hown.lt k hk).1)
      have hown5 : w4.ownsRow w.heap.size 78 2 v' (i + 1) (flat spanR (l.take (i + 1))) := by
        rw [hsn.out]
        exact hown4
      clear hown4 hgrow hown hb hv'
      go_wp2
      go_roundw
      case rel => exact ⟨i + 1, by go_num, by omega, hown5, hbw4⟩
      case measure => simp [intOf]; omega
    · obtain rfl : i = l.length := by omega
      rw [List.take_length] at hown
      obtain ⟨a', c', rfl, ht, _⟩ := tab_of_own spanR_len hown
      clear hown
      go_wp2
      go_ret
      exact ⟨a', c', rfl, ht, hb⟩


theorem spans_any (a : Option Addr) (l : List Val) (c : Nat) (w : World) (hl : l.length ≤ 1048576) (hV : Vals w a l) :
    Calls Tryz.prog 85 #[.slice a l.length c] w fun e w' => ∃ a' c', e = .returned (.slice a' (l.map fun x => (⟨x.a, x.b⟩ : Spn)).length c') ∧ Spns w' a' (l.map fun x => ⟨x.a, x.b⟩) ∧ Below w.heap.size w w' := by
  refine (spansRaw_any a l c w hl hV).mono ?_
  rintro e w' ⟨a', c', rfl, ht, hb⟩
  exact ⟨a', c', by rw [List.length_map], tab_map (e2 := encS) (fun x : Val => (⟨x.a, x.b⟩ : Spn)) (fun _ => rfl) ht, hb⟩
theorem spansOf_any (a : Option Addr) (l : List Chr) (c : Nat) (w : World) (hl : l.length ≤ 1048576) (hV : Chrs w a l) :
    Calls Tryz.prog 87 #[.slice a l.length c] w fun e w' => ∃ a' c', e = .returned (.slice a' (l.map fun x => (⟨x.a, x.b⟩ : Spn)).length c') ∧ Spns w' a' (l.map fun x => ⟨x.a, x.b⟩) ∧ Below w.heap.size w w' := by
  obtain ⟨rs, h1, h2, _⟩ := hV
  have e1 : l.length = rs.length := by rw [← h2, List.length_map]
  rw [e1] at hl ⊢
  refine (spansOfRaw_any a rs c w hl h1).mono ?_
  rintro e w' ⟨a', c', rfl, ht, hb⟩
  have h3 : (l.map fun x => (⟨x.a, x.b⟩ : Spn)) = rs.map fun x => ⟨x.a, x.b⟩ := by rw [← h2, List.map_map]; rfl
  rw [h3]
  exact ⟨a', c', by rw [List.length_map], tab_map (e2 := encS) (fun x : Raw => (⟨x.a, x.b⟩ : Spn)) (fun _ => rfl) ht, hb⟩
end Go.Proofs.YtgdambmineeboaaGreatDoor.Wrong

/- The walk of the reference's numbered. -/
namespace Go.Proofs.YtgdambmineeboaaGreatDoor.Numbered
open Go.RowKit Go.Lib Go.Proofs.YtgdambmineeboaaGreatDoor.Text Go.Proofs.YtgdambmineeboaaGreatDoor.Runes Go.Proofs.YtgdambmineeboaaGreatDoor.Print Go.Proofs.YtgdambmineeboaaGreatDoor.RefNine Go.Proofs.YtgdambmineeboaaGreatDoor.RefPrint Go.Proofs.YtgdambmineeboaaGreatDoor.Format Go.Proofs.YtgdambmineeboaaGreatDoor.Tell Go.Proofs.YtgdambmineeboaaGreatDoor.Given Go.Proofs.YtgdambmineeboaaGreatDoor.Mem Go.Proofs.YtgdambmineeboaaGreatDoor.Pred Go.Proofs.YtgdambmineeboaaGreatDoor.Many Go.Proofs.YtgdambmineeboaaGreatDoor.Wrong

theorem info_bool : (Tryz.prog.info? 4).map (fun i => (i.zero, i.size, i.bytes)) = some (some (.bool false), 1, 1) := by kernel_rfl
def wrongV (low high : Int) (apart : Bool) (x : Val) : Bool := decide (x.n < low) || decide (high < x.n) || (apart && touchB x.a x.b)
def encW (low high : Int) (apart : Bool) (x : Val) : List Value := [.bool (wrongV low high apart x)]

set_option maxRecDepth 100000 in
set_option maxHeartbeats 2000000 in
theorem numbered_raw (low high : Int) (apart : Bool) (a : Option Addr) (l : List Val) (c : Nat) (w : World) (hl : l.length ≤ 1048576) (hV : Vals w a l) :
    Calls Tryz.prog 86 #[.slice a l.length c, .int .i64 low, .int .i64 high, .bool apart] w fun e w' => ∃ a' c', e = .returned (.slice a' l.length c') ∧ Tab 1 (encW low high apart) w' a' l ∧ Below w.heap.size w w' := by
  have HV := Lib.hid hV
  obtain ⟨i0, hi, hz0, hz1, hz2⟩ := info_parts info_bool
  clear hV
  go_enter Tryz.func86, Tryz.ntmps86
  go_wp2
  go_loopw [9, 15] (fun u v w' => ∃ (i : Nat), v = .int .i64 i ∧ i ≤ l.length ∧ w'.ownsRow w.heap.size 4 1 u i (flat (encW low high apart) (l.take i)) ∧ Below w.heap.size w w') (fun _ v _ => l.length - (intOf v).toNat)
  case atStart => exact ⟨0, rfl, Nat.zero_le _, by
    have := World.ownsRow_made (base := w.heap.size) (e := 4) (size := 1) w #[] 0 (Nat.le_refl _) (by decide) rfl
    exact this, (Below.refl _ _).alloc (Nat.le_refl _) _⟩
  case round =>
    obtain ⟨i, rfl, hi', hown, hb⟩ := hrel
    by_cases hlt : i < l.length
    · obtain ⟨x, hx⟩ : ∃ x, l[i]? = some x := ⟨_, List.getElem?_eq_getElem hlt⟩
      rcases HV.out.below hb with h0 | ⟨bk, o, rfl, hbk, hc⟩
      · subst h0; simp at hlt
      obtain ⟨q0, q1, q2⟩ := vals_at (hc i x hx)
      have HT := fun W => touches_any x.a x.b W
      have hcs : (x.n < low ∧ wrongV low high apart x = true) ∨ ((¬ x.n < low ∧ high < x.n) ∧ wrongV low high apart x = true) ∨ ((¬ x.n < low ∧ ¬ high < x.n) ∧ wrongV low high apart x = (apart && touchB x.a x.b)) := by
        unfold wrongV
        by_cases h1 : x.n < low
        · exact .inl ⟨h1, by simp [h1]⟩
        · by_cases h2 : high < x.n
          · exact .inr (.inl ⟨⟨h1, h2⟩, by simp [h2]⟩)
          · exact .inr (.inr ⟨⟨h1, h2⟩, by simp [h1, h2]⟩)
      have hsn : flat (encW low high apart) (l.take (i + 1)) = flat (encW low high apart) (l.take i) ++ [.bool (wrongV low high apart x)] := flat_snoc (encW low high apart) l i x hx
      generalize wrongV low high apart x = wv at *
      have HSN := Lib.hid hsn
      have HTT := Lib.hid HT
      clear hc hx hsn HT
      have hoc : ∀ tb, ∀ u ∈ [Value.bool tb], u.oneCell' = true := fun tb u hu => by simp only [List.mem_singleton] at hu; subst hu; rfl
      have hwz := hb.size
      rcases hcs with ⟨e1, rfl⟩ | ⟨⟨e1, e2⟩, rfl⟩ | ⟨⟨e1, e2⟩, rfl⟩
      · skip
        go_wp2_with (first
          | (go_at_call 82; refine (HTT.out _).mono ?_; rintro e w1 ⟨rfl, rfl⟩)
          | (at_builtin; refine wpList_append_own _ rfl _ _ 115 rfl w.heap.size 4 i0 _ 1 1 Tryz.underlying115 hi hz0 hz1 hz2 rfl (by decide) _ i _ rfl ((hown.alloc _).alloc _) ⟨wr.heap.size + 1, 0, none⟩ 1 1 [.bool true] rfl rfl (news2 wr _ #[.bool true] 4) (hoc _) (by unfold maxLen; omega) (by omega) (by simp; omega) ?_))
        intro v' w4 hown4 hgrow hv'
        have hbw4 : Below w.heap.size w w4 := ((hb.alloc hb.size _).alloc (by have := hb.size; simp; omega) _).grown hgrow (by have := hb.size; simp; omega) (fun k hk => (hown.lt k hk).1)
        have hown5 : w4.ownsRow w.heap.size 4 1 v' (i + 1) (flat (encW low high apart) (l.take (i + 1))) := by
          rw [HSN.out]
          exact hown4
        clear hown4 hgrow hown hb hv'
        go_wp2
        go_roundw
        case rel => exact ⟨i + 1, by go_num, by omega, hown5, hbw4⟩
        case measure => simp [intOf]; omega
      · skip
        go_wp2_with (first
          | (go_at_call 82; refine (HTT.out _).mono ?_; rintro e w1 ⟨rfl, rfl⟩)
          | (at_builtin; refine wpList_append_own _ rfl _ _ 115 rfl w.heap.size 4 i0 _ 1 1 Tryz.underlying115 hi hz0 hz1 hz2 rfl (by decide) _ i _ rfl ((hown.alloc _).alloc _) ⟨wr.heap.size + 1, 0, none⟩ 1 1 [.bool true] rfl rfl (news2 wr _ #[.bool true] 4) (hoc _) (by unfold maxLen; omega) (by omega) (by simp; omega) ?_))
        intro v' w4 hown4 hgrow hv'
        have hbw4 : Below w.heap.size w w4 := ((hb.alloc hb.size _).alloc (by have := hb.size; simp; omega) _).grown hgrow (by have := hb.size; simp; omega) (fun k hk => (hown.lt k hk).1)
        have hown5 : w4.ownsRow w.heap.size 4 1 v' (i + 1) (flat (encW low high apart) (l.take (i + 1))) := by
          rw [HSN.out]
          exact hown4
        clear hown4 hgrow hown hb hv'
        go_wp2
        go_roundw
        case rel => exact ⟨i + 1, by go_num, by omega, hown5, hbw4⟩
        case measure => simp [intOf]; omega
      · cases apart
        · generalize touchB x.a x.b = tb at *
          simp only [Bool.false_and] at HSN
          go_wp2_with (first
            | (go_at_call 82; refine (HTT.out _).mono ?_; rintro e w1 ⟨rfl, rfl⟩)
            | (at_builtin; refine wpList_append_own _ rfl _ _ 115 rfl w.heap.size 4 i0 _ 1 1 Tryz.underlying115 hi hz0 hz1 hz2 rfl (by decide) _ i _ rfl ((hown.alloc _).alloc _) ⟨wr.heap.size + 1, 0, none⟩ 1 1 [.bool false] rfl rfl (news2 wr _ #[.bool false] 4) (hoc _) (by unfold maxLen; omega) (by omega) (by simp; omega) ?_))
          intro v' w4 hown4 hgrow hv'
          have hbw4 : Below w.heap.size w w4 := ((hb.alloc hb.size _).alloc (by have := hb.size; simp; omega) _).grown hgrow (by have := hb.size; simp; omega) (fun k hk => (hown.lt k hk).1)
          have hown5 : w4.ownsRow w.heap.size 4 1 v' (i + 1) (flat (encW low high false) (l.take (i + 1))) := by
            rw [HSN.out]
            exact hown4
          clear hown4 hgrow hown hb hv'
          go_wp2
          go_roundw
          case rel => exact ⟨i + 1, by go_num, by omega, hown5, hbw4⟩
          case measure => simp [intOf]; omega
        · generalize touchB x.a x.b = tb at *
          simp only [Bool.true_and] at HSN
          go_wp2_with (first
            | (go_at_call 82; refine (HTT.out _).mono ?_; rintro e w1 ⟨rfl, rfl⟩)
            | (at_builtin; refine wpList_append_own _ rfl _ _ 115 rfl w.heap.size 4 i0 _ 1 1 Tryz.underlying115 hi hz0 hz1 hz2 rfl (by decide) _ i _ rfl ((hown.alloc _).alloc _) ⟨wr.heap.size + 1, 0, none⟩ 1 1 [.bool tb] rfl rfl (news2 wr _ #[.bool tb] 4) (hoc _) (by unfold maxLen; omega) (by omega) (by simp; omega) ?_))
          intro v' w4 hown4 hgrow hv'
          have hbw4 : Below w.heap.size w w4 := ((hb.alloc hb.size _).alloc (by have := hb.size; simp; omega) _).grown hgrow (by have := hb.size; simp; omega) (fun k hk => (hown.lt k hk).1)
          have hown5 : w4.ownsRow w.heap.size 4 1 v' (i + 1) (flat (encW low high true) (l.take (i + 1))) := by
            rw [HSN.out]
            exact hown4
          clear hown4 hgrow hown hb hv'
          go_wp2
          go_roundw
          case rel => exact ⟨i + 1, by go_num, by omega, hown5, hbw4⟩
          case measure => simp [intOf]; omega
    · obtain rfl : i = l.length := by omega
      rw [List.take_length] at hown
      obtain ⟨a', c', rfl, ht, _⟩ := tab_of_own (k := 1) (enc := encW low high apart) (fun _ => rfl) hown
      clear hown
      go_wp2
      go_ret
      exact ⟨a', c', rfl, ht, hb⟩
end Go.Proofs.YtgdambmineeboaaGreatDoor.Numbered
