/- The walks of the reference's row and many. -/
import Derived.Test.YtgdambmineeboaaGreatDoorBPred
import Derived.Test.YtgdambmineeboaaGreatDoorBOf
import Derived.Deep.QuietTactic
import Derived.BigQuiet
set_option linter.unusedSimpArgs false
set_option linter.unusedVariables false
namespace Go.Proofs.YtgdambmineeboaaGreatDoor.Many
open Go.RowKit Go.Lib Go.Proofs.YtgdambmineeboaaGreatDoor.Text Go.Proofs.YtgdambmineeboaaGreatDoor.Runes Go.Proofs.YtgdambmineeboaaGreatDoor.Print Go.Proofs.YtgdambmineeboaaGreatDoor.RefNine Go.Proofs.YtgdambmineeboaaGreatDoor.RefPrint Go.Proofs.YtgdambmineeboaaGreatDoor.Format Go.Proofs.YtgdambmineeboaaGreatDoor.Tell Go.Proofs.YtgdambmineeboaaGreatDoor.Given Go.Proofs.YtgdambmineeboaaGreatDoor.Mem Go.Proofs.YtgdambmineeboaaGreatDoor.Pred

/-- May a span stand behind another one? -/
def rowB (prev : Option Spn) (x : Spn) : Bool := decide (0 ≤ x.a) && decide (x.a ≤ x.b) && decide (x.b ≤ 1114111) && (match prev with | none => true | some y => decide (y.b < x.a))
def prevOf (l : List Spn) : Nat → Option Spn
  | 0 => none
  | i + 1 => l[i]?

set_option maxRecDepth 100000 in
set_option maxHeartbeats 800000 in
theorem row_any (a : Option Addr) (l : List Spn) (c i : Nat) (x : Spn) (w : World) (hl : l.length ≤ 1048576) (hx : l[i]? = some x) (hV : Spns w a l) :
    Calls Tryz.prog 142 #[.slice a l.length c, .int .i64 i] w fun e w' => e = .returned (.bool (rowB (prevOf l i) x)) ∧ Below w.heap.size w w' := by
  have hi : i < l.length := (List.getElem?_eq_some_iff.1 hx).1
  rcases hV with h0 | ⟨bk, o, rfl, hbk, hc⟩
  · subst h0; simp at hx
  obtain ⟨q0, q1⟩ := spns_at (hc i x hx)
  have hbw : ∀ m, Below w.heap.size w ((w.alloc (.cells #[.int .i32 x.a, .int .i32 x.b] 78 (0, 0))).drewN m) := fun m => ((Below.refl _ _).alloc (Nat.le_refl _) _).trans ⟨rfl, rfl, rfl, Nat.le_refl _, fun _ _ => rfl⟩
  have HB := Lib.hid hbw
  by_cases h1 : 0 ≤ x.a
  · have e1 : decide (0 ≤ x.a) = true := decide_eq_true h1
    by_cases h2 : x.a ≤ x.b
    · have e2 : decide (x.a ≤ x.b) = true := decide_eq_true h2
      by_cases h3 : x.b ≤ 1114111
      · have e3 : decide (x.b ≤ 1114111) = true := decide_eq_true h3
        rcases i with _ | j
        · have HR : Hid (rowB (prevOf l 0) x = true) := Lib.hid (by unfold rowB prevOf; simp [h1, h2, h3])
          rw [Nat.zero_mul, Nat.add_zero] at q0 q1
          rw [show ((0 : Nat) : Int) = 0 from rfl]
          clear hc hx hbw
          go_enter Tryz.func142, Tryz.ntmps142
          go_wp2
          go_quiet (fail)
          go_wp2
          go_ret
          exact ⟨by rw [HR.out]; rfl, HB.out _⟩
        · obtain ⟨y, hy⟩ : ∃ y, l[j]? = some y := ⟨_, List.getElem?_eq_getElem (by omega)⟩
          obtain ⟨_, q3⟩ := spns_at (hc j y hy)
          have HR : Hid (rowB (prevOf l (j + 1)) x = decide (y.b < x.a)) := Lib.hid (by rw [show prevOf l (j + 1) = some y from hy]; unfold rowB; simp [h1, h2, h3])
          have e4 : (((j : Int) + 1) == 0) = false := by rw [beq_eq_false_iff_ne]; omega
          have e6 : IntKind.i64.wrap ((j : Int) + 1 - 1) = (j : Int) := by rw [show (j : Int) + 1 - 1 = j from by omega]; exact IntWalk.i64_in _ (by omega)
          have hj2 : j < l.length := by omega
          rw [show (((j + 1 : Nat)) : Int) = (j : Int) + 1 from by omega]
          clear hc hx hbw
          go_enter Tryz.func142, Tryz.ntmps142
          go_wp2
          go_quiet (fail)
          go_wp2
          go_ret
          exact ⟨by rw [HR.out]; rfl, HB.out _⟩
      · have e3 : decide (x.b ≤ 1114111) = false := decide_eq_false h3
        have HR : Hid (rowB (prevOf l i) x = false) := Lib.hid (by unfold rowB; rw [e3]; simp)
        clear hc hx hbw
        go_enter Tryz.func142, Tryz.ntmps142
        go_wp2
        go_quiet (fail)
        go_wp2
        go_ret
        exact ⟨by rw [HR.out]; rfl, HB.out _⟩
    · have e2 : decide (x.a ≤ x.b) = false := decide_eq_false h2
      have HR : Hid (rowB (prevOf l i) x = false) := Lib.hid (by unfold rowB; rw [e2]; simp)
      clear hc hx hbw
      go_enter Tryz.func142, Tryz.ntmps142
      go_wp2
      go_quiet (fail)
      go_wp2
      go_ret
      exact ⟨by rw [HR.out]; rfl, HB.out _⟩
  · have e1 : decide (0 ≤ x.a) = false := decide_eq_false h1
    have HR : Hid (rowB (prevOf l i) x = false) := Lib.hid (by unfold rowB; rw [e1]; simp)
    clear hc hx hbw
    go_enter Tryz.func142, Tryz.ntmps142
    go_wp2
    go_quiet (fail)
    go_wp2
    go_ret
    exact ⟨by rw [HR.out]; rfl, HB.out _⟩

def okAt (l : List Spn) (ws : List Bool) (i : Nat) : Bool := (match l[i]? with
  | some x => rowB (prevOf l i) x
  | none => true) && !(ws.getD i false)
def okRows (l : List Spn) (ws : List Bool) : Bool := decide (l.length ≤ 65536) && (List.range l.length).all (okAt l ws)
abbrev Bools := Tab 1 (fun b : Bool => [Value.bool b])
theorem not_ok {l : List Spn} {ws : List Bool} {i : Nat} (hi : i < l.length) (h : okAt l ws i = false) : okRows l ws = false := by
  unfold okRows
  rw [Bool.and_eq_false_iff]
  exact .inr (List.all_eq_false.2 ⟨i, List.mem_range.2 hi, by rw [h]; decide⟩)
theorem all_ok {l : List Spn} {ws : List Bool} (hl : l.length ≤ 65536) (h : ∀ i, i < l.length → okAt l ws i = true) : okRows l ws = true := by
  unfold okRows
  rw [decide_eq_true hl, Bool.true_and]
  exact List.all_eq_true.2 fun i hi => h i (List.mem_range.1 hi)

set_option maxRecDepth 100000 in
set_option maxHeartbeats 1000000 in
theorem many_any (a aw : Option Addr) (l : List Spn) (ws : List Bool) (c cw : Nat) (w : World) (hl : l.length ≤ 1048576) (hlw : ws.length = l.length) (hV : Spns w a l) (hW : Bools w aw ws) :
    Calls Tryz.prog 84 #[.slice a l.length c, .slice aw ws.length cw] w fun e w' => ∃ r, e = .returned (.int .i64 r) ∧ (0 ≤ r ↔ okRows l ws = false) ∧ Below w.heap.size w w' := by
  have HV := Lib.hid hV
  have HW := Lib.hid hW
  have HLW := Lib.hid hlw
  rw [hlw]
  clear hV hW hlw
  by_cases hbig : 65536 < l.length
  · have HF : Hid (okRows l ws = false) := Lib.hid (by unfold okRows; rw [decide_eq_false (by omega)]; rfl)
    go_enter Tryz.func84, Tryz.ntmps84
    go_wp2
    go_ret
    exact ⟨65536, rfl, ⟨fun _ => HF.out, fun _ => by omega⟩, Below.refl _ _⟩
  · go_enter Tryz.func84, Tryz.ntmps84
    go_wp2
    go_loopw [11] (fun v w' => ∃ (i : Nat), v = .int .i64 i ∧ i ≤ l.length ∧ Hid (∀ j, j < i → okAt l ws j = true) ∧ Below w.heap.size w w') (fun v _ => l.length - (intOf v).toNat)
    case atStart => exact ⟨0, rfl, Nat.zero_le _, Lib.hid (fun j h => by omega), Below.refl _ _⟩
    case round =>
      obtain ⟨i, rfl, hi, hok, hb⟩ := hrel
      by_cases hlt : i < l.length
      · obtain ⟨x, hx⟩ : ∃ x, l[i]? = some x := ⟨_, List.getElem?_eq_getElem hlt⟩
        obtain ⟨y, hy⟩ : ∃ y, ws[i]? = some y := ⟨_, List.getElem?_eq_getElem (by have := HLW.out; omega)⟩
        have HC := Lib.hid (row_any a l c i x wr hl hx (HV.out.below hb))
        have hat : okAt l ws i = (rowB (prevOf l i) x && !y) := by unfold okAt; rw [hx, List.getD_eq_getElem?_getD, hy]; rfl
        have HAT := Lib.hid hat
        have HNO := Lib.hid (fun h => not_ok (l := l) (ws := ws) hlt h)
        rcases HW.out.below hb with h0 | ⟨bk, o, rfl, hbk, hc⟩
        · subst h0; simp at hy
        have q0 := hc i y hy 0 (.bool y) rfl
        rw [Nat.mul_one, Nat.add_zero] at q0
        clear hc hx hy hat
        generalize rowB (prevOf l i) x = rb at *
        cases rb
        · go_wp2_with (go_at_call 142; refine HC.out.mono ?_; rintro e w1 ⟨rfl, hb1⟩)
          go_ret
          exact ⟨i, rfl, ⟨fun _ => HNO.out (by rw [HAT.out]; rfl), fun _ => by omega⟩, hb.trans (hb1.mono hb.size)⟩
        · cases y
          · go_wp2_with (go_at_call 142; refine HC.out.mono ?_; rintro e w1 ⟨rfl, hb1⟩; have q1 := (hb1.cell (p := ⟨bk, o + i, none⟩) hbk).trans q0)
            go_roundw
            case rel => exact ⟨i + 1, by go_num, by omega, Lib.hid (fun j hj => by
              by_cases e : j = i
              · subst e; rw [HAT.out]; rfl
              · exact hok.out j (by omega)), hb.trans (hb1.mono hb.size)⟩
            case measure => simp [intOf]; omega
          · go_wp2_with (go_at_call 142; refine HC.out.mono ?_; rintro e w1 ⟨rfl, hb1⟩; have q1 := (hb1.cell (p := ⟨bk, o + i, none⟩) hbk).trans q0)
            go_ret
            exact ⟨i, rfl, ⟨fun _ => HNO.out (by rw [HAT.out]; rfl), fun _ => by omega⟩, hb.trans (hb1.mono hb.size)⟩
      · obtain rfl : i = l.length := by omega
        have HT : Hid (okRows l ws = true) := Lib.hid (all_ok (by omega) hok.out)
        go_wp2
        go_ret
        exact ⟨-1, rfl, ⟨fun h => by omega, fun h => by rw [HT.out] at h; cases h⟩, hb⟩
end Go.Proofs.YtgdambmineeboaaGreatDoor.Many
