/- The walks of the program's rising at its three types of rows, and of where a row lies. -/
import Derived.Test.YtgdambmineeboaaGreatDoorBTouch
import Derived.Test.YtgdambmineeboaaGreatDoorBMemo
import Derived.Outline
set_option linter.unusedSimpArgs false
set_option linter.unusedVariables false
namespace Go.Proofs.YtgdambmineeboaaGreatDoor.Rising
open Go.RowKit Go.Lib Go.Proofs.YtgdambmineeboaaGreatDoor.Text Go.Proofs.YtgdambmineeboaaGreatDoor.Runes Go.Proofs.YtgdambmineeboaaGreatDoor.Print Go.Proofs.YtgdambmineeboaaGreatDoor.RefNine Go.Proofs.YtgdambmineeboaaGreatDoor.RefPrint Go.Proofs.YtgdambmineeboaaGreatDoor.Format Go.Proofs.YtgdambmineeboaaGreatDoor.Tell Go.Proofs.YtgdambmineeboaaGreatDoor.Given Go.Proofs.YtgdambmineeboaaGreatDoor.Mem Go.Proofs.YtgdambmineeboaaGreatDoor.Pred Go.Proofs.YtgdambmineeboaaGreatDoor.Many Go.Proofs.YtgdambmineeboaaGreatDoor.Touch Go.Proofs.YtgdambmineeboaaGreatDoor.Fine

set_option maxRecDepth 100000 in
theorem ofValue_any (x : Val) (w : World) : Calls Tryz.prog 121 #[.agg #[.int .i32 x.a, .int .i32 x.b, .int .i64 x.n]] w fun e w' => e = .returned (.agg #[.int .i32 x.a, .int .i32 x.b]) ∧ Below w.heap.size w w' := by
  have HB := Lib.hid ((((Below.refl w.heap.size w).alloc (Nat.le_refl _) (.cells #[.int .i32 x.a, .int .i32 x.b, .int .i64 x.n] 65 (0, 0))).alloc (by simp) (.cells #[.int .i32 x.a, .int .i32 x.b] 71 (0, 0))))
  go_enter Tryz.func121, Tryz.ntmps121
  go_wp2
  refine bodyPost_ret (v := .agg #[.int .i32 x.a, .int .i32 x.b]) ?_ rfl ⟨rfl, HB.out⟩
  simp [results, Tryz.results121, go_sem]
set_option maxRecDepth 100000 in
theorem ofChars_any (a b : Int) (sa : Option Addr) (sn sc : Nat) (w : World) : Calls Tryz.prog 60 #[.agg #[.int .i32 a, .int .i32 b, .slice sa sn sc]] w fun e w' => e = .returned (.agg #[.int .i32 a, .int .i32 b]) ∧ Below w.heap.size w w' := by
  have HB := Lib.hid ((((Below.refl w.heap.size w).alloc (Nat.le_refl _) (.cells #[.int .i32 a, .int .i32 b, .slice sa sn sc] 68 (0, 0))).alloc (by simp) (.cells #[.int .i32 a, .int .i32 b] 71 (0, 0))))
  go_enter Tryz.func60, Tryz.ntmps60
  go_wp2
  refine bodyPost_ret (v := .agg #[.int .i32 a, .int .i32 b]) ?_ rfl ⟨rfl, HB.out⟩
  simp [results, Tryz.results60, go_sem]
set_option maxRecDepth 100000 in
theorem ofSpan_any (x : Spn) (w : World) : Calls Tryz.prog 64 #[.agg #[.int .i32 x.a, .int .i32 x.b]] w fun e w' => e = .returned (.agg #[.int .i32 x.a, .int .i32 x.b]) ∧ Below w.heap.size w w' := by
  have HB := Lib.hid ((((Below.refl w.heap.size w).alloc (Nat.le_refl _) (.cells #[.int .i32 x.a, .int .i32 x.b] 71 (0, 0))).alloc (by simp) (.cells #[.int .i32 x.a, .int .i32 x.b] 71 (0, 0))))
  go_enter Tryz.func64, Tryz.ntmps64
  go_wp2
  refine bodyPost_ret (v := .agg #[.int .i32 x.a, .int .i32 x.b]) ?_ rfl ⟨rfl, HB.out⟩
  simp [results, Tryz.results64, go_sem]

def spS (l : List Spn) : List Spn := l.map fun x => ⟨x.a, x.b⟩
def spR (l : List Raw) : List Spn := l.map fun x => ⟨x.a, x.b⟩
/-- The span behind which the next one must lie. -/
def lastOf (l : List Spn) : Nat → Int
  | 0 => -1
  | i + 1 => match l[i]? with
    | some x => x.b
    | none => -1
/-- What the program asks of a row. -/
def fits (last : Int) (x : Spn) : Bool := decide (last < x.a) && decide (x.a ≤ x.b) && decide (x.b ≤ 1114111)
theorem lastOf_succ {l : List Spn} {i : Nat} {x : Spn} (h : l[i]? = some x) : lastOf l (i + 1) = x.b := by
  show (match l[i]? with | some x => x.b | none => -1) = x.b
  rw [h]
theorem row_fits {l : List Spn} {ws : List Bool} {i : Nat} {x : Spn} (hx : l[i]? = some x) (hprev : ∀ j, j < i → okAt l ws j = true) : okAt l ws i = (fits (lastOf l i) x && !(ws.getD i false)) := by
  have key : rowB (prevOf l i) x = fits (lastOf l i) x := by
    unfold rowB fits
    cases i with
    | zero =>
      show (decide (0 ≤ x.a) && decide (x.a ≤ x.b) && decide (x.b ≤ 1114111) && true) = (decide (-1 < x.a) && decide (x.a ≤ x.b) && decide (x.b ≤ 1114111))
      rw [Bool.eq_iff_iff]
      simp only [Bool.and_true, Bool.and_eq_true, decide_eq_true_eq]
      omega
    | succ j =>
      have hj := hprev j (Nat.lt_succ_self j)
      obtain ⟨y, hy⟩ : ∃ y, l[j]? = some y := by
        have := (List.getElem?_eq_some_iff.1 hx).1
        exact ⟨_, List.getElem?_eq_getElem (by omega)⟩
      rw [lastOf_succ hy]
      show (decide (0 ≤ x.a) && decide (x.a ≤ x.b) && decide (x.b ≤ 1114111) && (match l[j]? with | none => true | some y => decide (y.b < x.a))) = _
      rw [hy]
      unfold okAt rowB at hj
      rw [hy] at hj
      simp only [Bool.and_eq_true, decide_eq_true_eq] at hj
      rw [Bool.eq_iff_iff]
      simp only [Bool.and_eq_true, decide_eq_true_eq]
      omega
  unfold okAt
  rw [hx]
  show (rowB (prevOf l i) x && _) = _
  rw [key]
theorem grown_of {w w' : World} {nb : Option Nat} (h : Below w.heap.size w w') : w.grownBy w' nb := ⟨h.os, h.tape, h.output, h.size, fun k hk _ => h.block k hk⟩
theorem grown_same {w w' : World} {nb : Option Nat} {k : Nat} (h : w.grownBy w' nb) (hk : k < w.heap.size) (hn : nb ≠ some k) : w'.heap[k]? = w.heap[k]? := h.block k hk (fun e => hn e.symm)
theorem tab_grown {α : Type} {k : Nat} {enc : α → List Value} {w w' : World} {a : Option Addr} {l : List α} {nb : Option Nat} (h : Tab k enc w a l) (hg : w.grownBy w' nb) (hn : l ≠ [] → ∀ ad, a = some ad → nb ≠ some ad.block) : Tab k enc w' a l := by
  rcases h with h | ⟨bk, o, h1, h2, h3⟩
  · exact .inl h
  · by_cases hz : l = []
    · exact .inl hz
    exact .inr ⟨bk, o, h1, Nat.lt_of_lt_of_le h2 hg.size, fun j x hx i v hv => (World.cell?_of_block (a := ⟨bk, o + j * k + i, none⟩) (grown_same hg h2 (hn hz ⟨bk, o, none⟩ h1))).trans (h3 j x hx i v hv)⟩

set_option maxRecDepth 100000 in
set_option maxHeartbeats 2000000 in
theorem risingVal_any (nb : Option Nat) (g : Nat) (caps : Array Value) (J : Nat → World → Prop) (ws : List Bool) (a : Option Addr) (l : List Val) (c : Nat) (w : World) (hl : l.length ≤ 1048576) (hws : ws.length = l.length) (hS : Vals w a l) (hnb : l ≠ [] → ∀ ad, a = some ad → nb ≠ some ad.block) (hnl : ∀ k, w.heap.size ≤ k → nb ≠ some k)
    (eg : ∀ args w, (callFunc g args).run Tryz.prog w = .ok (.enter g args) w)
    (hJ : ∀ i W W', J i W → Below W.heap.size W W' → J i W')
    (h0 : J 0 w)
    (hg : ∀ W i x b, w.grownBy W nb → J i W → l[i]? = some x → (∀ j, j < i → okAt (spV l) ws j = true) → fits (lastOf (spV l) i) ⟨x.a, x.b⟩ = true → ws[i]? = some b → Calls Tryz.prog g (#[.agg #[.int .i32 x.a, .int .i32 x.b, .int .i64 x.n]] ++ caps) W fun e w' => e = .returned (.bool (!b)) ∧ J (i + 1) w' ∧ W.grownBy w' nb) :
    Calls Tryz.prog 120 #[.slice a l.length c, .func (.func 121) #[] #[], .func (.func g) #[] caps] w fun e w' => ∃ r, e = .returned (.int .i64 r) ∧ (0 ≤ r ↔ ¬ okRows (spV l) ws = true) ∧ w.grownBy w' nb := by
  have HS := Lib.hid hS
  have HG := Lib.hid hg
  have HJ := Lib.hid hJ
  have H0 := Lib.hid h0
  clear hS hg hJ h0
  by_cases hbig : 65536 < l.length
  · have HF : Hid (okRows (spV l) ws = false) := Lib.hid (by unfold okRows; rw [decide_eq_false (by simp [spV]; omega)]; rfl)
    go_enter Tryz.func120, Tryz.ntmps120
    go_wp2_with fail
    go_ret
    exact ⟨65536, rfl, ⟨fun _ h => (by rw [HF.out] at h; cases h), fun _ => by omega⟩, grown_of (Below.refl _ _)⟩
  · go_enter Tryz.func120, Tryz.ntmps120
    go_wp2_with fail
    have hj0 := Lib.hid H0.out
    go_loopw [7, 16] (fun u v w' => ∃ (i : Nat), v = .int .i64 i ∧ i ≤ l.length ∧ u = .int .i32 (lastOf (spV l) i) ∧ Hid (∀ j, j < i → okAt (spV l) ws j = true) ∧ Hid (J i w') ∧ w.grownBy w' nb) (fun _ v _ => l.length - (intOf v).toNat)
    case atStart => exact ⟨0, rfl, Nat.zero_le _, rfl, Lib.hid (fun j h => by omega), hj0, grown_of (Below.refl _ _)⟩
    case round =>
      obtain ⟨i, rfl, hi, rfl, hok, hj, hb⟩ := hrel
      by_cases hlt : i < l.length
      · obtain ⟨x, hx⟩ : ∃ x, l[i]? = some x := ⟨_, List.getElem?_eq_getElem hlt⟩
        obtain ⟨y, hy⟩ : ∃ y, ws[i]? = some y := ⟨_, List.getElem?_eq_getElem (by omega)⟩
        rcases tab_grown HS.out hb hnb with h0 | ⟨bk, o, rfl, hbk, hc⟩
        · subst h0; simp at hlt
        obtain ⟨q0, q1, q2⟩ := vals_at (hc i x hx)
        have hsx : (spV l)[i]? = some ⟨x.a, x.b⟩ := by unfold spV; rw [List.getElem?_map, hx]; rfl
        have HAT : Hid (okAt (spV l) ws i = (fits (lastOf (spV l) i) ⟨x.a, x.b⟩ && !y)) := Lib.hid (by rw [row_fits hsx hok.out, List.getD_eq_getElem?_getD, hy]; rfl)
        have HLS := Lib.hid (lastOf_succ hsx)
        have HNO : Hid (okAt (spV l) ws i = false → ¬ okRows (spV l) ws = true) := Lib.hid (fun h h2 => by rw [not_ok (l := spV l) (ws := ws) (by unfold spV; rw [List.length_map]; exact hlt) h] at h2; cases h2)
        have HX := Lib.hid hx
        have HY := Lib.hid hy
        have HGX := Lib.hid (fun W (hW : w.grownBy W nb) (hJW : J i W) hf => HG.out W i x y hW hJW hx hok.out hf hy)
        have HOK := Lib.hid (fun (h : okAt (spV l) ws i = true) j (hj : j < i + 1) => (by
          by_cases e : j = i
          · subst e; exact h
          · exact hok.out j (by omega) : okAt (spV l) ws j = true))
        have hbr := hb.trans (World.grownBy_alloc wr (.cells #[.int .i32 x.a, .int .i32 x.b, .int .i64 x.n] 65 (0, 0)) nb)
        have HBR := Lib.hid hbr
        have hjr := Lib.hid (HJ.out i _ _ hj.out ((Below.refl wr.heap.size wr).alloc (Nat.le_refl _) (.cells #[.int .i32 x.a, .int .i32 x.b, .int .i64 x.n] 65 (0, 0))))
        clear hc hx hy hsx hbr hj
        generalize lastOf (spV l) i = la at *
        go_wp2_with fail
        refine (ofValue_any x _).mono ?_
        rintro e w1 ⟨rfl, hb1⟩
        have hrb := Lib.hid ((hb1.block wr.heap.size (by simp)).trans (heap_alloc_new wr (.cells #[.int .i32 x.a, .int .i32 x.b, .int .i64 x.n] 65 (0, 0))))
        have hltr : wr.heap.size < w1.heap.size := Nat.lt_of_lt_of_le (by simp) hb1.size
        have hb1w : w.grownBy w1 nb := HBR.out.trans (grown_of hb1)
        have HB2 := Lib.hid (hb1w.trans (World.grownBy_alloc w1 (.cells #[.int .i32 x.a, .int .i32 x.b] 71 (0, 0)) nb))
        have HJ2 := Lib.hid (HJ.out i _ _ (HJ.out i _ _ hjr.out hb1) ((Below.refl w1.heap.size w1).alloc (Nat.le_refl _) (.cells #[.int .i32 x.a, .int .i32 x.b] 71 (0, 0))))
        have hsb := Lib.hid (heap_alloc_new w1 (.cells #[.int .i32 x.a, .int .i32 x.b] 71 (0, 0)))
        have k0 : w1.cell? ⟨wr.heap.size, 0, none⟩ = some (.int .i32 x.a) := (block_cell (i := 0) hrb.out).trans rfl
        have k1 : w1.cell? ⟨wr.heap.size, 1, none⟩ = some (.int .i32 x.b) := (block_cell (i := 1) hrb.out).trans rfl
        have k2 : w1.cell? ⟨wr.heap.size, 2, none⟩ = some (.int .i64 x.n) := (block_cell (i := 2) hrb.out).trans rfl
        have hns : nb ≠ some w1.heap.size := hnl _ (Nat.le_trans hb.size (Nat.le_of_lt hltr))
        clear q0 q1 q2 hb1
        by_cases h1 : x.a ≤ la
        · have HF := Lib.hid (HNO.out (by rw [HAT.out, show fits la ⟨x.a, x.b⟩ = false from by unfold fits; simp; omega]; rfl))
          go_wp2_with fail
          go_ret
          exact ⟨i, rfl, ⟨fun _ => HF.out, fun _ => by omega⟩, HB2.out⟩
        · by_cases h2 : x.b < x.a
          · have HF := Lib.hid (HNO.out (by rw [HAT.out, show fits la ⟨x.a, x.b⟩ = false from by unfold fits; simp; omega]; rfl))
            go_wp2_with fail
            go_ret
            exact ⟨i, rfl, ⟨fun _ => HF.out, fun _ => by omega⟩, HB2.out⟩
          · by_cases h3 : 1114111 < x.b
            · have HF := Lib.hid (HNO.out (by rw [HAT.out, show fits la ⟨x.a, x.b⟩ = false from by unfold fits; simp; omega]; rfl))
              go_wp2_with fail
              go_ret
              exact ⟨i, rfl, ⟨fun _ => HF.out, fun _ => by omega⟩, HB2.out⟩
            · have HC := Lib.hid (HGX.out _ HB2.out HJ2.out (by unfold fits; simp; omega))
              cases y with
              | false =>
                have HT := Lib.hid (HOK.out (by rw [HAT.out, show fits la ⟨x.a, x.b⟩ = true from by unfold fits; simp; omega]; rfl))
                go_wp2_with fail
                refine HC.out.mono ?_
                rintro e w3 ⟨rfl, hj3, hb3⟩
                have s1 : w3.cell? ⟨w1.heap.size, 1, none⟩ = some (.int .i32 x.b) := (block_cell (i := 1) ((grown_same hb3 (by simp) hns).trans hsb.out)).trans rfl
                have hl3 : w1.heap.size < w3.heap.size := Nat.lt_of_lt_of_le (by simp) hb3.size
                go_wp2_with fail
                go_roundw
                case rel => exact ⟨i + 1, by go_num, by omega, by rw [HLS.out], Lib.hid HT.out, Lib.hid hj3, HB2.out.trans hb3⟩
                case measure => simp [intOf]; omega
              | true =>
                have HF := Lib.hid (HNO.out (by rw [HAT.out]; simp))
                go_wp2_with fail
                refine HC.out.mono ?_
                rintro e w3 ⟨rfl, hj3, hb3⟩
                go_wp2_with fail
                go_ret
                exact ⟨i, rfl, ⟨fun _ => HF.out, fun _ => by omega⟩, HB2.out.trans hb3⟩
      · obtain rfl : l.length = i := by omega
        have HT : Hid (okRows (spV l) ws = true) := Lib.hid (all_ok (by unfold spV; rw [List.length_map]; omega) (by unfold spV; rw [List.length_map]; exact hok.out))
        go_wp2_with fail
        go_ret
        exact ⟨-1, rfl, ⟨fun h => by omega, fun h => absurd HT.out h⟩, hb⟩

set_option maxRecDepth 100000 in
set_option maxHeartbeats 2000000 in
theorem risingChr_any (nb : Option Nat) (g : Nat) (caps : Array Value) (J : Nat → World → Prop) (ws : List Bool) (a : Option Addr) (l : List Raw) (c : Nat) (w : World) (hl : l.length ≤ 1048576) (hws : ws.length = l.length) (hS : Tab 3 Mem.encR w a l) (hnb : l ≠ [] → ∀ ad, a = some ad → nb ≠ some ad.block) (hnl : ∀ k, w.heap.size ≤ k → nb ≠ some k)
    (eg : ∀ args w, (callFunc g args).run Tryz.prog w = .ok (.enter g args) w)
    (hJ : ∀ i W W', J i W → Below W.heap.size W W' → J i W')
    (h0 : J 0 w)
    (hg : ∀ W i x b, w.grownBy W nb → J i W → l[i]? = some x → (∀ j, j < i → okAt (spR l) ws j = true) → fits (lastOf (spR l) i) ⟨x.a, x.b⟩ = true → ws[i]? = some b → Calls Tryz.prog g (#[.agg #[.int .i32 x.a, .int .i32 x.b, .slice x.ad x.is.length x.cap]] ++ caps) W fun e w' => e = .returned (.bool (!b)) ∧ J (i + 1) w' ∧ W.grownBy w' nb) :
    Calls Tryz.prog 59 #[.slice a l.length c, .func (.func 60) #[] #[], .func (.func g) #[] caps] w fun e w' => ∃ r, e = .returned (.int .i64 r) ∧ (0 ≤ r ↔ ¬ okRows (spR l) ws = true) ∧ w.grownBy w' nb := by
  have HS := Lib.hid hS
  have HG := Lib.hid hg
  have HJ := Lib.hid hJ
  have H0 := Lib.hid h0
  clear hS hg hJ h0
  by_cases hbig : 65536 < l.length
  · have HF : Hid (okRows (spR l) ws = false) := Lib.hid (by unfold okRows; rw [decide_eq_false (by simp [spR]; omega)]; rfl)
    go_enter Tryz.func59, Tryz.ntmps59
    go_wp2_with fail
    go_ret
    exact ⟨65536, rfl, ⟨fun _ h => (by rw [HF.out] at h; cases h), fun _ => by omega⟩, grown_of (Below.refl _ _)⟩
  · go_enter Tryz.func59, Tryz.ntmps59
    go_wp2_with fail
    have hj0 := Lib.hid H0.out
    go_loopw [7, 16] (fun u v w' => ∃ (i : Nat), v = .int .i64 i ∧ i ≤ l.length ∧ u = .int .i32 (lastOf (spR l) i) ∧ Hid (∀ j, j < i → okAt (spR l) ws j = true) ∧ Hid (J i w') ∧ w.grownBy w' nb) (fun _ v _ => l.length - (intOf v).toNat)
    case atStart => exact ⟨0, rfl, Nat.zero_le _, rfl, Lib.hid (fun j h => by omega), hj0, grown_of (Below.refl _ _)⟩
    case round =>
      obtain ⟨i, rfl, hi, rfl, hok, hj, hb⟩ := hrel
      by_cases hlt : i < l.length
      · obtain ⟨x, hx⟩ : ∃ x, l[i]? = some x := ⟨_, List.getElem?_eq_getElem hlt⟩
        obtain ⟨y, hy⟩ : ∃ y, ws[i]? = some y := ⟨_, List.getElem?_eq_getElem (by omega)⟩
        rcases tab_grown HS.out hb hnb with h0 | ⟨bk, o, rfl, hbk, hc⟩
        · subst h0; simp at hlt
        obtain ⟨q0, q1, q2⟩ := raws_at (hc i x hx)
        have hsx : (spR l)[i]? = some ⟨x.a, x.b⟩ := by unfold spR; rw [List.getElem?_map, hx]; rfl
        have HAT : Hid (okAt (spR l) ws i = (fits (lastOf (spR l) i) ⟨x.a, x.b⟩ && !y)) := Lib.hid (by rw [row_fits hsx hok.out, List.getD_eq_getElem?_getD, hy]; rfl)
        have HLS := Lib.hid (lastOf_succ hsx)
        have HNO : Hid (okAt (spR l) ws i = false → ¬ okRows (spR l) ws = true) := Lib.hid (fun h h2 => by rw [not_ok (l := spR l) (ws := ws) (by unfold spR; rw [List.length_map]; exact hlt) h] at h2; cases h2)
        have HX := Lib.hid hx
        have HY := Lib.hid hy
        have HGX := Lib.hid (fun W (hW : w.grownBy W nb) (hJW : J i W) hf => HG.out W i x y hW hJW hx hok.out hf hy)
        have HOK := Lib.hid (fun (h : okAt (spR l) ws i = true) j (hj : j < i + 1) => (by
          by_cases e : j = i
          · subst e; exact h
          · exact hok.out j (by omega) : okAt (spR l) ws j = true))
        have hbr := hb.trans (World.grownBy_alloc wr (.cells #[.int .i32 x.a, .int .i32 x.b, .slice x.ad x.is.length x.cap] 68 (0, 0)) nb)
        have HBR := Lib.hid hbr
        have hjr := Lib.hid (HJ.out i _ _ hj.out ((Below.refl wr.heap.size wr).alloc (Nat.le_refl _) (.cells #[.int .i32 x.a, .int .i32 x.b, .slice x.ad x.is.length x.cap] 68 (0, 0))))
        clear hc hx hy hsx hbr hj
        generalize lastOf (spR l) i = la at *
        go_wp2_with fail
        refine (ofChars_any x.a x.b x.ad x.is.length x.cap _).mono ?_
        rintro e w1 ⟨rfl, hb1⟩
        have hrb := Lib.hid ((hb1.block wr.heap.size (by simp)).trans (heap_alloc_new wr (.cells #[.int .i32 x.a, .int .i32 x.b, .slice x.ad x.is.length x.cap] 68 (0, 0))))
        have hltr : wr.heap.size < w1.heap.size := Nat.lt_of_lt_of_le (by simp) hb1.size
        have hb1w : w.grownBy w1 nb := HBR.out.trans (grown_of hb1)
        have HB2 := Lib.hid (hb1w.trans (World.grownBy_alloc w1 (.cells #[.int .i32 x.a, .int .i32 x.b] 71 (0, 0)) nb))
        have HJ2 := Lib.hid (HJ.out i _ _ (HJ.out i _ _ hjr.out hb1) ((Below.refl w1.heap.size w1).alloc (Nat.le_refl _) (.cells #[.int .i32 x.a, .int .i32 x.b] 71 (0, 0))))
        have hsb := Lib.hid (heap_alloc_new w1 (.cells #[.int .i32 x.a, .int .i32 x.b] 71 (0, 0)))
        have k0 : w1.cell? ⟨wr.heap.size, 0, none⟩ = some (.int .i32 x.a) := (block_cell (i := 0) hrb.out).trans rfl
        have k1 : w1.cell? ⟨wr.heap.size, 1, none⟩ = some (.int .i32 x.b) := (block_cell (i := 1) hrb.out).trans rfl
        have k2 : w1.cell? ⟨wr.heap.size, 2, none⟩ = some (.slice x.ad x.is.length x.cap) := (block_cell (i := 2) hrb.out).trans rfl
        have hns : nb ≠ some w1.heap.size := hnl _ (Nat.le_trans hb.size (Nat.le_of_lt hltr))
        clear q0 q1 q2 hb1
        by_cases h1 : x.a ≤ la
        · have HF := Lib.hid (HNO.out (by rw [HAT.out, show fits la ⟨x.a, x.b⟩ = false from by unfold fits; simp; omega]; rfl))
          go_wp2_with fail
          go_ret
          exact ⟨i, rfl, ⟨fun _ => HF.out, fun _ => by omega⟩, HB2.out⟩
        · by_cases h2 : x.b < x.a
          · have HF := Lib.hid (HNO.out (by rw [HAT.out, show fits la ⟨x.a, x.b⟩ = false from by unfold fits; simp; omega]; rfl))
            go_wp2_with fail
            go_ret
            exact ⟨i, rfl, ⟨fun _ => HF.out, fun _ => by omega⟩, HB2.out⟩
          · by_cases h3 : 1114111 < x.b
            · have HF := Lib.hid (HNO.out (by rw [HAT.out, show fits la ⟨x.a, x.b⟩ = false from by unfold fits; simp; omega]; rfl))
              go_wp2_with fail
              go_ret
              exact ⟨i, rfl, ⟨fun _ => HF.out, fun _ => by omega⟩, HB2.out⟩
            · have HC := Lib.hid (HGX.out _ HB2.out HJ2.out (by unfold fits; simp; omega))
              cases y with
              | false =>
                have HT := Lib.hid (HOK.out (by rw [HAT.out, show fits la ⟨x.a, x.b⟩ = true from by unfold fits; simp; omega]; rfl))
                go_wp2_with fail
                refine HC.out.mono ?_
                rintro e w3 ⟨rfl, hj3, hb3⟩
                have s1 : w3.cell? ⟨w1.heap.size, 1, none⟩ = some (.int .i32 x.b) := (block_cell (i := 1) ((grown_same hb3 (by simp) hns).trans hsb.out)).trans rfl
                have hl3 : w1.heap.size < w3.heap.size := Nat.lt_of_lt_of_le (by simp) hb3.size
                go_wp2_with fail
                go_roundw
                case rel => exact ⟨i + 1, by go_num, by omega, by rw [HLS.out], Lib.hid HT.out, Lib.hid hj3, HB2.out.trans hb3⟩
                case measure => simp [intOf]; omega
              | true =>
                have HF := Lib.hid (HNO.out (by rw [HAT.out]; simp))
                go_wp2_with fail
                refine HC.out.mono ?_
                rintro e w3 ⟨rfl, hj3, hb3⟩
                go_wp2_with fail
                go_ret
                exact ⟨i, rfl, ⟨fun _ => HF.out, fun _ => by omega⟩, HB2.out.trans hb3⟩
      · obtain rfl : l.length = i := by omega
        have HT : Hid (okRows (spR l) ws = true) := Lib.hid (all_ok (by unfold spR; rw [List.length_map]; omega) (by unfold spR; rw [List.length_map]; exact hok.out))
        go_wp2_with fail
        go_ret
        exact ⟨-1, rfl, ⟨fun h => by omega, fun h => absurd HT.out h⟩, hb⟩

set_option maxRecDepth 100000 in
set_option maxHeartbeats 2000000 in
theorem risingSpn_any (nb : Option Nat) (g : Nat) (caps : Array Value) (J : Nat → World → Prop) (ws : List Bool) (a : Option Addr) (l : List Spn) (c : Nat) (w : World) (hl : l.length ≤ 1048576) (hws : ws.length = l.length) (hS : Spns w a l) (hnb : l ≠ [] → ∀ ad, a = some ad → nb ≠ some ad.block) (hnl : ∀ k, w.heap.size ≤ k → nb ≠ some k)
    (eg : ∀ args w, (callFunc g args).run Tryz.prog w = .ok (.enter g args) w)
    (hJ : ∀ i W W', J i W → Below W.heap.size W W' → J i W')
    (h0 : J 0 w)
    (hg : ∀ W i x b, w.grownBy W nb → J i W → l[i]? = some x → (∀ j, j < i → okAt (spS l) ws j = true) → fits (lastOf (spS l) i) ⟨x.a, x.b⟩ = true → ws[i]? = some b → Calls Tryz.prog g (#[.agg #[.int .i32 x.a, .int .i32 x.b]] ++ caps) W fun e w' => e = .returned (.bool (!b)) ∧ J (i + 1) w' ∧ W.grownBy w' nb) :
    Calls Tryz.prog 63 #[.slice a l.length c, .func (.func 64) #[] #[], .func (.func g) #[] caps] w fun e w' => ∃ r, e = .returned (.int .i64 r) ∧ (0 ≤ r ↔ ¬ okRows (spS l) ws = true) ∧ w.grownBy w' nb := by
  have HS := Lib.hid hS
  have HG := Lib.hid hg
  have HJ := Lib.hid hJ
  have H0 := Lib.hid h0
  clear hS hg hJ h0
  by_cases hbig : 65536 < l.length
  · have HF : Hid (okRows (spS l) ws = false) := Lib.hid (by unfold okRows; rw [decide_eq_false (by simp [spS]; omega)]; rfl)
    go_enter Tryz.func63, Tryz.ntmps63
    go_wp2_with fail
    go_ret
    exact ⟨65536, rfl, ⟨fun _ h => (by rw [HF.out] at h; cases h), fun _ => by omega⟩, grown_of (Below.refl _ _)⟩
  · go_enter Tryz.func63, Tryz.ntmps63
    go_wp2_with fail
    have hj0 := Lib.hid H0.out
    go_loopw [7, 16] (fun u v w' => ∃ (i : Nat), v = .int .i64 i ∧ i ≤ l.length ∧ u = .int .i32 (lastOf (spS l) i) ∧ Hid (∀ j, j < i → okAt (spS l) ws j = true) ∧ Hid (J i w') ∧ w.grownBy w' nb) (fun _ v _ => l.length - (intOf v).toNat)
    case atStart => exact ⟨0, rfl, Nat.zero_le _, rfl, Lib.hid (fun j h => by omega), hj0, grown_of (Below.refl _ _)⟩
    case round =>
      obtain ⟨i, rfl, hi, rfl, hok, hj, hb⟩ := hrel
      by_cases hlt : i < l.length
      · obtain ⟨x, hx⟩ : ∃ x, l[i]? = some x := ⟨_, List.getElem?_eq_getElem hlt⟩
        obtain ⟨y, hy⟩ : ∃ y, ws[i]? = some y := ⟨_, List.getElem?_eq_getElem (by omega)⟩
        rcases tab_grown HS.out hb hnb with h0 | ⟨bk, o, rfl, hbk, hc⟩
        · subst h0; simp at hlt
        obtain ⟨q0, q1⟩ := spns_at (hc i x hx)
        have hsx : (spS l)[i]? = some ⟨x.a, x.b⟩ := by unfold spS; rw [List.getElem?_map, hx]; rfl
        have HAT : Hid (okAt (spS l) ws i = (fits (lastOf (spS l) i) ⟨x.a, x.b⟩ && !y)) := Lib.hid (by rw [row_fits hsx hok.out, List.getD_eq_getElem?_getD, hy]; rfl)
        have HLS := Lib.hid (lastOf_succ hsx)
        have HNO : Hid (okAt (spS l) ws i = false → ¬ okRows (spS l) ws = true) := Lib.hid (fun h h2 => by rw [not_ok (l := spS l) (ws := ws) (by unfold spS; rw [List.length_map]; exact hlt) h] at h2; cases h2)
        have HX := Lib.hid hx
        have HY := Lib.hid hy
        have HGX := Lib.hid (fun W (hW : w.grownBy W nb) (hJW : J i W) hf => HG.out W i x y hW hJW hx hok.out hf hy)
        have HOK := Lib.hid (fun (h : okAt (spS l) ws i = true) j (hj : j < i + 1) => (by
          by_cases e : j = i
          · subst e; exact h
          · exact hok.out j (by omega) : okAt (spS l) ws j = true))
        have hbr := hb.trans (World.grownBy_alloc wr (.cells #[.int .i32 x.a, .int .i32 x.b] 71 (0, 0)) nb)
        have HBR := Lib.hid hbr
        have hjr := Lib.hid (HJ.out i _ _ hj.out ((Below.refl wr.heap.size wr).alloc (Nat.le_refl _) (.cells #[.int .i32 x.a, .int .i32 x.b] 71 (0, 0))))
        clear hc hx hy hsx hbr hj
        generalize lastOf (spS l) i = la at *
        go_wp2_with fail
        refine (ofSpan_any x _).mono ?_
        rintro e w1 ⟨rfl, hb1⟩
        have hrb := Lib.hid ((hb1.block wr.heap.size (by simp)).trans (heap_alloc_new wr (.cells #[.int .i32 x.a, .int .i32 x.b] 71 (0, 0))))
        have hltr : wr.heap.size < w1.heap.size := Nat.lt_of_lt_of_le (by simp) hb1.size
        have hb1w : w.grownBy w1 nb := HBR.out.trans (grown_of hb1)
        have HB2 := Lib.hid (hb1w.trans (World.grownBy_alloc w1 (.cells #[.int .i32 x.a, .int .i32 x.b] 71 (0, 0)) nb))
        have HJ2 := Lib.hid (HJ.out i _ _ (HJ.out i _ _ hjr.out hb1) ((Below.refl w1.heap.size w1).alloc (Nat.le_refl _) (.cells #[.int .i32 x.a, .int .i32 x.b] 71 (0, 0))))
        have hsb := Lib.hid (heap_alloc_new w1 (.cells #[.int .i32 x.a, .int .i32 x.b] 71 (0, 0)))
        have k0 : w1.cell? ⟨wr.heap.size, 0, none⟩ = some (.int .i32 x.a) := (block_cell (i := 0) hrb.out).trans rfl
        have k1 : w1.cell? ⟨wr.heap.size, 1, none⟩ = some (.int .i32 x.b) := (block_cell (i := 1) hrb.out).trans rfl
        have hns : nb ≠ some w1.heap.size := hnl _ (Nat.le_trans hb.size (Nat.le_of_lt hltr))
        clear q0 q1 hb1
        by_cases h1 : x.a ≤ la
        · have HF := Lib.hid (HNO.out (by rw [HAT.out, show fits la ⟨x.a, x.b⟩ = false from by unfold fits; simp; omega]; rfl))
          go_wp2_with fail
          go_ret
          exact ⟨i, rfl, ⟨fun _ => HF.out, fun _ => by omega⟩, HB2.out⟩
        · by_cases h2 : x.b < x.a
          · have HF := Lib.hid (HNO.out (by rw [HAT.out, show fits la ⟨x.a, x.b⟩ = false from by unfold fits; simp; omega]; rfl))
            go_wp2_with fail
            go_ret
            exact ⟨i, rfl, ⟨fun _ => HF.out, fun _ => by omega⟩, HB2.out⟩
          · by_cases h3 : 1114111 < x.b
            · have HF := Lib.hid (HNO.out (by rw [HAT.out, show fits la ⟨x.a, x.b⟩ = false from by unfold fits; simp; omega]; rfl))
              go_wp2_with fail
              go_ret
              exact ⟨i, rfl, ⟨fun _ => HF.out, fun _ => by omega⟩, HB2.out⟩
            · have HC := Lib.hid (HGX.out _ HB2.out HJ2.out (by unfold fits; simp; omega))
              cases y with
              | false =>
                have HT := Lib.hid (HOK.out (by rw [HAT.out, show fits la ⟨x.a, x.b⟩ = true from by unfold fits; simp; omega]; rfl))
                go_wp2_with fail
                refine HC.out.mono ?_
                rintro e w3 ⟨rfl, hj3, hb3⟩
                have s1 : w3.cell? ⟨w1.heap.size, 1, none⟩ = some (.int .i32 x.b) := (block_cell (i := 1) ((grown_same hb3 (by simp) hns).trans hsb.out)).trans rfl
                have hl3 : w1.heap.size < w3.heap.size := Nat.lt_of_lt_of_le (by simp) hb3.size
                go_wp2_with fail
                go_roundw
                case rel => exact ⟨i + 1, by go_num, by omega, by rw [HLS.out], Lib.hid HT.out, Lib.hid hj3, HB2.out.trans hb3⟩
                case measure => simp [intOf]; omega
              | true =>
                have HF := Lib.hid (HNO.out (by rw [HAT.out]; simp))
                go_wp2_with fail
                refine HC.out.mono ?_
                rintro e w3 ⟨rfl, hj3, hb3⟩
                go_wp2_with fail
                go_ret
                exact ⟨i, rfl, ⟨fun _ => HF.out, fun _ => by omega⟩, HB2.out.trans hb3⟩
      · obtain rfl : l.length = i := by omega
        have HT : Hid (okRows (spS l) ws = true) := Lib.hid (all_ok (by unfold spS; rw [List.length_map]; omega) (by unfold spS; rw [List.length_map]; exact hok.out))
        go_wp2_with fail
        go_ret
        exact ⟨-1, rfl, ⟨fun h => by omega, fun h => absurd HT.out h⟩, hb⟩
end Go.Proofs.YtgdambmineeboaaGreatDoor.Rising
