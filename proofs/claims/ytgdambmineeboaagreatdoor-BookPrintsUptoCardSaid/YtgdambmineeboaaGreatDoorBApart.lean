/- The walks of the program's values, and of what Check hands it. -/
import Derived.Test.YtgdambmineeboaaGreatDoorBRising
import Derived.Deep.QuietTactic
import Derived.BigQuiet
import Derived.Deep.RegionHeld3
import Derived.Test.YtgdambmineeboaaGreatDoorBMemo
set_option linter.unusedSimpArgs false
set_option linter.unusedVariables false
namespace Go.Proofs.YtgdambmineeboaaGreatDoor.Values
open Go.RowKit Go.Lib Go.Proofs.YtgdambmineeboaaGreatDoor.Text Go.Proofs.YtgdambmineeboaaGreatDoor.Runes Go.Proofs.YtgdambmineeboaaGreatDoor.Print Go.Proofs.YtgdambmineeboaaGreatDoor.RefNine Go.Proofs.YtgdambmineeboaaGreatDoor.RefPrint Go.Proofs.YtgdambmineeboaaGreatDoor.Format Go.Proofs.YtgdambmineeboaaGreatDoor.Tell Go.Proofs.YtgdambmineeboaaGreatDoor.Given Go.Proofs.YtgdambmineeboaaGreatDoor.Mem Go.Proofs.YtgdambmineeboaaGreatDoor.Pred Go.Proofs.YtgdambmineeboaaGreatDoor.Many Go.Proofs.YtgdambmineeboaaGreatDoor.Numbered Go.Proofs.YtgdambmineeboaaGreatDoor.Touch Go.Proofs.YtgdambmineeboaaGreatDoor.Fine Go.Proofs.YtgdambmineeboaaGreatDoor.Rising Go.Proofs.YtgdambmineeboaaGreatDoor.WholeRef

theorem below_none {w w' : World} (h : w.grownBy w' none) : Below w.heap.size w w' := (Below.refl _ _).grown h (Nat.le_refl _) (fun k hk => by cases hk)

set_option maxRecDepth 100000 in
theorem check1_any (a b : Int) (w : World) : Calls Tryz.prog 46 #[.agg #[.int .i32 a, .int .i32 b]] w fun e w' => e = .returned (.bool true) ∧ Below w.heap.size w w' := by
  go_enter Tryz.func46, Tryz.ntmps46
  go_wp2
  go_ret
  exact ⟨rfl, by first | exact Below.refl _ _ | exact (Below.refl _ _).alloc (Nat.le_refl _) _⟩
set_option maxRecDepth 100000 in
theorem check2_any (a b : Int) (w : World) : Calls Tryz.prog 47 #[.agg #[.int .i32 a, .int .i32 b]] w fun e w' => e = .returned (.bool (!touchB a b)) ∧ Below w.heap.size w w' := by
  have HB := Lib.hid ((Below.refl w.heap.size w).alloc (Nat.le_refl _) (.cells #[.int .i32 a, .int .i32 b] 71 (0, 0)))
  go_enter Tryz.func47, Tryz.ntmps47
  go_wp2_with fail
  refine (touchesP_any ⟨a, b⟩ _).mono ?_
  rintro e w1 ⟨rfl, hb1⟩
  go_wp2_with fail
  go_ret
  exact ⟨rfl, HB.out.trans (hb1.mono HB.out.size)⟩

set_option maxRecDepth 100000 in
set_option maxHeartbeats 1000000 in
theorem values1_any (gm : Nat) (apart : Bool) (low high : Int) (x : Val) (p1 p2 p3 : Nat) (w : World)
    (egm : ∀ args w, (callFunc gm args).run Tryz.prog w = .ok (.enter gm args) w)
    (hm : ∀ W, Calls Tryz.prog gm #[.agg #[.int .i32 x.a, .int .i32 x.b]] W fun e w' => e = .returned (.bool (!(apart && touchB x.a x.b))) ∧ Below W.heap.size W w')
    (c1 : w.cell? ⟨p1, 0, none⟩ = some (.int .i64 low)) (c2 : w.cell? ⟨p2, 0, none⟩ = some (.int .i64 high)) (c3 : w.cell? ⟨p3, 0, none⟩ = some (.func (.func gm) #[] #[])) :
    Calls Tryz.prog 122 #[.agg #[.int .i32 x.a, .int .i32 x.b, .int .i64 x.n], .pointer (some ⟨p1, 0, none⟩), .pointer (some ⟨p2, 0, none⟩), .pointer (some ⟨p3, 0, none⟩)] w fun e w' => e = .returned (.bool (!wrongV low high apart x)) ∧ Below w.heap.size w w' := by
  have l1 := cell_lt c1
  have l2 := cell_lt c2
  have l3 := cell_lt c3
  have HM := Lib.hid hm
  clear hm
  have HB := Lib.hid ((Below.refl w.heap.size w).alloc (Nat.le_refl _) (.cells #[.int .i32 x.a, .int .i32 x.b, .int .i64 x.n] 65 (0, 0)))
  have HBX := Lib.hid (heap_alloc_new w (.cells #[.int .i32 x.a, .int .i32 x.b, .int .i64 x.n] 65 (0, 0)))
  have k1 : (w.alloc (.cells #[.int .i32 x.a, .int .i32 x.b, .int .i64 x.n] 65 (0, 0))).cell? ⟨p1, 0, none⟩ = some (.int .i64 low) := (World.cell?_alloc_lt _ _ _ l1).trans c1
  have k2 : (w.alloc (.cells #[.int .i32 x.a, .int .i32 x.b, .int .i64 x.n] 65 (0, 0))).cell? ⟨p2, 0, none⟩ = some (.int .i64 high) := (World.cell?_alloc_lt _ _ _ l2).trans c2
  have k3 : (w.alloc (.cells #[.int .i32 x.a, .int .i32 x.b, .int .i64 x.n] 65 (0, 0))).cell? ⟨p3, 0, none⟩ = some (.func (.func gm) #[] #[]) := (World.cell?_alloc_lt _ _ _ l3).trans c3
  have hcs : (¬ low ≤ x.n ∧ wrongV low high apart x = true) ∨ ((low ≤ x.n ∧ ¬ x.n ≤ high) ∧ wrongV low high apart x = true) ∨ ((low ≤ x.n ∧ x.n ≤ high) ∧ wrongV low high apart x = (apart && touchB x.a x.b)) := by
    unfold wrongV
    by_cases h1 : low ≤ x.n
    · by_cases h2 : x.n ≤ high
      · exact .inr (.inr ⟨⟨h1, h2⟩, by rw [decide_eq_false (by omega), decide_eq_false (by omega)]; rfl⟩)
      · exact .inr (.inl ⟨⟨h1, h2⟩, by rw [decide_eq_true (show high < x.n by omega)]; simp⟩)
    · exact .inl ⟨h1, by rw [decide_eq_true (show x.n < low by omega)]; simp⟩
  rcases hcs with ⟨e1, hw⟩ | ⟨⟨e1, e2⟩, hw⟩ | ⟨⟨e1, e2⟩, hw⟩
  · have HW := Lib.hid hw
    have g1 : decide (low ≤ x.n) = false := decide_eq_false e1
    clear hw
    go_enter Tryz.func122, Tryz.ntmps122
    go_wp2_with fail
    go_quiet (fail)
    go_wp2
    go_ret
    exact ⟨by rw [HW.out]; rfl, drawn HB.out _⟩
  · have HW := Lib.hid hw
    have g1 : decide (low ≤ x.n) = true := decide_eq_true e1
    have g2 : decide (x.n ≤ high) = false := decide_eq_false e2
    clear hw
    go_enter Tryz.func122, Tryz.ntmps122
    go_wp2_with fail
    go_quiet (fail)
    go_wp2
    go_ret
    exact ⟨by rw [HW.out]; rfl, drawn HB.out _⟩
  · have HW := Lib.hid hw
    clear hw
    generalize (apart && touchB x.a x.b) = tb at *
    go_enter Tryz.func122, Tryz.ntmps122
    go_wp2_with fail
    have b0 : (w.alloc (.cells #[.int .i32 x.a, .int .i32 x.b, .int .i64 x.n] 65 (0, 0))).drew.cell? ⟨w.heap.size, 0, none⟩ = some (.int .i32 x.a) := (block_cell (i := 0) HBX.out).trans rfl
    have b1 : (w.alloc (.cells #[.int .i32 x.a, .int .i32 x.b, .int .i64 x.n] 65 (0, 0))).drew.cell? ⟨w.heap.size, 1, none⟩ = some (.int .i32 x.b) := (block_cell (i := 1) HBX.out).trans rfl
    have b2 : (w.alloc (.cells #[.int .i32 x.a, .int .i32 x.b, .int .i64 x.n] 65 (0, 0))).drew.cell? ⟨w.heap.size, 2, none⟩ = some (.int .i64 x.n) := (block_cell (i := 2) HBX.out).trans rfl
    have d1 : (w.alloc (.cells #[.int .i32 x.a, .int .i32 x.b, .int .i64 x.n] 65 (0, 0))).drew.cell? ⟨p1, 0, none⟩ = some (.int .i64 low) := k1
    have d2 : (w.alloc (.cells #[.int .i32 x.a, .int .i32 x.b, .int .i64 x.n] 65 (0, 0))).drew.cell? ⟨p2, 0, none⟩ = some (.int .i64 high) := k2
    have d3 : (w.alloc (.cells #[.int .i32 x.a, .int .i32 x.b, .int .i64 x.n] 65 (0, 0))).drew.cell? ⟨p3, 0, none⟩ = some (.func (.func gm) #[] #[]) := k3
    go_region_held3 (fun w' => w'.cell? ⟨w.heap.size, 0, none⟩ = some (.int .i32 x.a) ∧ w'.cell? ⟨w.heap.size, 1, none⟩ = some (.int .i32 x.b) ∧ w'.cell? ⟨w.heap.size, 2, none⟩ = some (.int .i64 x.n) ∧ w'.cell? ⟨p1, 0, none⟩ = some (.int .i64 low) ∧ w'.cell? ⟨p2, 0, none⟩ = some (.int .i64 high) ∧ w'.cell? ⟨p3, 0, none⟩ = some (.func (.func gm) #[] #[]))
      (first
        | (go_split_ands
           exact ⟨(hb2.cell (p := ⟨w.heap.size, 0, none⟩) (by have := hb1.size; simp at this ⊢; omega)).trans ((hb1.cell (p := ⟨w.heap.size, 0, none⟩) (by simp)).trans b0), (hb2.cell (p := ⟨w.heap.size, 1, none⟩) (by have := hb1.size; simp at this ⊢; omega)).trans ((hb1.cell (p := ⟨w.heap.size, 1, none⟩) (by simp)).trans b1), (hb2.cell (p := ⟨w.heap.size, 2, none⟩) (by have := hb1.size; simp at this ⊢; omega)).trans ((hb1.cell (p := ⟨w.heap.size, 2, none⟩) (by simp)).trans b2),
             (hb2.cell (p := ⟨p1, 0, none⟩) (by have := hb1.size; simp at this ⊢; omega)).trans ((hb1.cell (p := ⟨p1, 0, none⟩) (by simp; omega)).trans d1), (hb2.cell (p := ⟨p2, 0, none⟩) (by have := hb1.size; simp at this ⊢; omega)).trans ((hb1.cell (p := ⟨p2, 0, none⟩) (by simp; omega)).trans d2), (hb2.cell (p := ⟨p3, 0, none⟩) (by have := hb1.size; simp at this ⊢; omega)).trans ((hb1.cell (p := ⟨p3, 0, none⟩) (by simp; omega)).trans d3)⟩)
        | (go_split_ands
           exact ⟨(hb1.cell (p := ⟨w.heap.size, 0, none⟩) (by simp)).trans b0, (hb1.cell (p := ⟨w.heap.size, 1, none⟩) (by simp)).trans b1, (hb1.cell (p := ⟨w.heap.size, 2, none⟩) (by simp)).trans b2,
             (hb1.cell (p := ⟨p1, 0, none⟩) (by simp; omega)).trans d1, (hb1.cell (p := ⟨p2, 0, none⟩) (by simp; omega)).trans d2, (hb1.cell (p := ⟨p3, 0, none⟩) (by simp; omega)).trans d3⟩)
        | go_keep)
      ((first
        | (go_at_call 121
           refine (ofValue_any x _).mono ?_
           rintro e w1 ⟨rfl, hb1⟩)
        | (go_at_fn gm
           refine (HM.out _).mono ?_
           rintro e w2 ⟨rfl, hb2⟩)))
    go_wp2_with fail
    go_ret
    exact ⟨by rw [HW.out]; rfl, HB.out.drew.trans ((hb1.trans (hb2.mono hb1.size)).mono HB.out.size)⟩

set_option maxRecDepth 100000 in
set_option maxHeartbeats 1000000 in
theorem values_anyP (gm : Nat) (apart : Bool) (low high : Int) (a : Option Addr) (l : List Val) (c : Nat) (w : World) (hl : l.length ≤ 1048576) (hV : Vals w a l)
    (egm : ∀ args w, (callFunc gm args).run Tryz.prog w = .ok (.enter gm args) w)
    (hm : ∀ a b W, Calls Tryz.prog gm #[.agg #[.int .i32 a, .int .i32 b]] W fun e w' => e = .returned (.bool (!(apart && touchB a b))) ∧ Below W.heap.size W w') :
    Calls Tryz.prog 54 #[.slice a l.length c, .int .i64 low, .int .i64 high, .func (.func gm) #[] #[]] w fun e w' => ∃ r, e = .returned (.int .i64 r) ∧ (0 ≤ r ↔ ¬ okRows (spV l) (l.map (wrongV low high apart)) = true) ∧ Below w.heap.size w w' := by
  have HB : Hid (Below w.heap.size w (((w.alloc (.cells #[.int .i64 low] 3 (0, 0))).alloc (.cells #[.int .i64 high] 3 (0, 0))).alloc (.cells #[.func (.func gm) #[] #[]] 93 (0, 0)))) :=
    Lib.hid ((((Below.refl w.heap.size w).alloc (Nat.le_refl _) _).alloc (by simp) _).alloc (by simp; omega) _)
  have hW3 : (((w.alloc (.cells #[.int .i64 low] 3 (0, 0))).alloc (.cells #[.int .i64 high] 3 (0, 0))).alloc (.cells #[.func (.func gm) #[] #[]] 93 (0, 0))).heap.size = w.heap.size + 1 + 1 + 1 := by simp
  have hc1 : (((w.alloc (.cells #[.int .i64 low] 3 (0, 0))).alloc (.cells #[.int .i64 high] 3 (0, 0))).alloc (.cells #[.func (.func gm) #[] #[]] 93 (0, 0))).cell? ⟨w.heap.size, 0, none⟩ = some (.int .i64 low) := by
    rw [World.cell?_alloc_lt _ _ _ (by simp; omega), World.cell?_alloc_lt _ _ _ (by simp)]; exact (block_cell (heap_alloc_new w _)).trans rfl
  have hc2 : (((w.alloc (.cells #[.int .i64 low] 3 (0, 0))).alloc (.cells #[.int .i64 high] 3 (0, 0))).alloc (.cells #[.func (.func gm) #[] #[]] 93 (0, 0))).cell? ⟨w.heap.size + 1, 0, none⟩ = some (.int .i64 high) := by
    rw [World.cell?_alloc_lt _ _ _ (by simp)]
    have h := heap_alloc_new (w.alloc (.cells #[.int .i64 low] 3 (0, 0))) (.cells #[.int .i64 high] 3 (0, 0))
    rw [World.size_alloc] at h
    exact (block_cell h).trans rfl
  have hc3 : (((w.alloc (.cells #[.int .i64 low] 3 (0, 0))).alloc (.cells #[.int .i64 high] 3 (0, 0))).alloc (.cells #[.func (.func gm) #[] #[]] 93 (0, 0))).cell? ⟨w.heap.size + 1 + 1, 0, none⟩ = some (.func (.func gm) #[] #[]) := by
    have h := heap_alloc_new ((w.alloc (.cells #[.int .i64 low] 3 (0, 0))).alloc (.cells #[.int .i64 high] 3 (0, 0))) (.cells #[.func (.func gm) #[] #[]] 93 (0, 0))
    rw [World.size_alloc, World.size_alloc] at h
    exact (block_cell h).trans rfl
  have HC := Lib.hid (risingVal_any none 122 #[.pointer (some ⟨w.heap.size, 0, none⟩), .pointer (some ⟨w.heap.size + 1, 0, none⟩), .pointer (some ⟨w.heap.size + 1 + 1, 0, none⟩)] (fun _ _ => True) (l.map (wrongV low high apart)) a l c _ hl (by simp) (hV.below HB.out) (fun _ _ _ => by simp) (fun _ _ => by simp)
    (enters_of Tryz.func122 (by kernel_rfl) rfl) (fun _ _ _ _ _ => trivial) trivial
    (fun W i x b hW _ hx _ _ hb => by
      rw [List.getElem?_map, hx] at hb
      cases hb
      have hWb := below_none hW
      rw [hW3] at hWb
      refine (values1_any gm apart low high x w.heap.size (w.heap.size + 1) (w.heap.size + 1 + 1) W egm (fun W => hm x.a x.b W) ((hWb.cell (p := ⟨w.heap.size, 0, none⟩) (by simp; omega)).trans hc1) ((hWb.cell (p := ⟨w.heap.size + 1, 0, none⟩) (by simp)).trans hc2) ((hWb.cell (p := ⟨w.heap.size + 1 + 1, 0, none⟩) (by simp)).trans hc3)).mono ?_
      rintro e w' ⟨rfl, hb⟩
      exact ⟨rfl, trivial, grown_of hb⟩))
  go_enter Tryz.func54, Tryz.ntmps54
  go_wp2_with fail
  refine HC.out.mono ?_
  rintro e w1 ⟨r, rfl, hr, hg⟩
  have HR := Lib.hid hr
  clear hr
  go_wp2_with fail
  go_ret
  exact ⟨r, rfl, HR.out, HB.out.trans ((below_none hg).mono HB.out.size)⟩
end Go.Proofs.YtgdambmineeboaaGreatDoor.Values

/- The walk of the program's apart. -/
namespace Go.Proofs.YtgdambmineeboaaGreatDoor.Apart
open Go.RowKit Go.Lib Go.Proofs.YtgdambmineeboaaGreatDoor.Text Go.Proofs.YtgdambmineeboaaGreatDoor.Runes Go.Proofs.YtgdambmineeboaaGreatDoor.Print Go.Proofs.YtgdambmineeboaaGreatDoor.RefNine Go.Proofs.YtgdambmineeboaaGreatDoor.RefPrint Go.Proofs.YtgdambmineeboaaGreatDoor.Format Go.Proofs.YtgdambmineeboaaGreatDoor.Tell Go.Proofs.YtgdambmineeboaaGreatDoor.Given Go.Proofs.YtgdambmineeboaaGreatDoor.Mem Go.Proofs.YtgdambmineeboaaGreatDoor.Book Go.Proofs.YtgdambmineeboaaGreatDoor.Pred Go.Proofs.YtgdambmineeboaaGreatDoor.Many Go.Proofs.YtgdambmineeboaaGreatDoor.Meets Go.Proofs.YtgdambmineeboaaGreatDoor.Written Go.Proofs.YtgdambmineeboaaGreatDoor.Touch Go.Proofs.YtgdambmineeboaaGreatDoor.Fine Go.Proofs.YtgdambmineeboaaGreatDoor.Rising Go.Proofs.YtgdambmineeboaaGreatDoor.Values

/-- The rows of the statuses rise. -/
structure Rise (st : List Val) : Prop where
  own : ∀ (j : Nat) y, st[j]? = some y → y.a ≤ y.b
  next : ∀ (j : Nat) x y, st[j]? = some x → st[j + 1]? = some y → x.b < y.a
theorem Rise.far {st : List Val} (h : Rise st) : ∀ (d j : Nat) x y, st[j]? = some x → st[j + d + 1]? = some y → x.b < y.a := by
  intro d
  induction d with
  | zero => intro j x y hx hy; exact h.next j x y hx (by simpa using hy)
  | succ d ih =>
    intro j x y hx hy
    obtain ⟨z, hz⟩ : ∃ z, st[j + d + 1]? = some z := ⟨_, List.getElem?_eq_getElem (by have := (List.getElem?_eq_some_iff.1 hy).1; omega)⟩
    have h1 := ih j x z hx hz
    have h2 := h.own _ z hz
    have h3 := h.next (j + d + 1) z y hz (by rw [show j + d + 1 + 1 = j + (d + 1) + 1 from by omega]; exact hy)
    omega
/-- Where the search for a status stands still: what is known. -/
theorem meet_stop {st : List Val} (h : Rise st) {a b : Int} {k : Nat} (hk : ∀ (j : Nat) y, st[j]? = some y → j < k → y.b < a) (hs : ∀ y, st[k]? = some y → a ≤ y.b) :
    meetB a b st = match st[k]? with
      | some y => decide (y.a ≤ b)
      | none => false := by
  unfold meetB
  cases hy : st[k]? with
  | none =>
    rw [List.any_eq_false]
    intro y hm
    obtain ⟨j, hj⟩ := List.getElem?_of_mem hm
    have hlt : j < k := by
      have h1 := (List.getElem?_eq_some_iff.1 hj).1
      have h2 := List.getElem?_eq_none_iff.1 hy
      omega
    have := hk j y hj hlt
    unfold meet1
    simp
    omega
  | some y =>
    show _ = decide (y.a ≤ b)
    have hys := hs y hy
    by_cases h1 : y.a ≤ b
    · rw [decide_eq_true h1]
      exact List.any_eq_true.2 ⟨y, List.mem_of_getElem? hy, by unfold meet1; simp; omega⟩
    · rw [decide_eq_false h1, List.any_eq_false]
      intro z hm
      obtain ⟨j, hj⟩ := List.getElem?_of_mem hm
      unfold meet1
      simp
      rcases Nat.lt_trichotomy j k with h2 | h2 | h2
      · have := hk j z hj h2
        intro _
        omega
      · subst h2
        rw [hy] at hj
        cases hj
        omega
      · obtain ⟨d, rfl⟩ := Nat.exists_eq_add_of_lt h2
        have := h.far d k y z hy hj
        have := h.own k y hy
        omega
theorem grown_drewN (w : World) (m : Nat) {nb : Option Nat} : w.grownBy (w.drewN m) nb := ⟨rfl, rfl, rfl, Nat.le_refl _, fun _ _ _ => rfl⟩
theorem rs_grown {w w' : World} {a : Option Addr} {l : List Int} {nb : Option Nat} (h : Rs w a l) (hg : w.grownBy w' nb) (hn : l ≠ [] → ∀ ad, a = some ad → nb ≠ some ad.block) : Rs w' a l := by
  rcases h with h | ⟨bk, o, h1, h2, h3⟩
  · exact .inl h
  · by_cases hz : l = []
    · exact .inl hz
    exact .inr ⟨bk, o, h1, Nat.lt_of_lt_of_le h2 hg.size, fun j x hx => (World.cell?_of_block (a := ⟨bk, o + j, none⟩) (grown_same hg h2 (hn hz ⟨bk, o, none⟩ h1))).trans (h3 j x hx)⟩
theorem scalars_wrong (l : List Int) : scalarsB l 1 18 = !(wrongC 18 l) := by
  unfold scalarsB wrongC
  generalize (l.any fun p => !scalarB p) = b
  by_cases h1 : (1 : Int) ≤ (l.length : Int)
  · by_cases h2 : (l.length : Int) ≤ 18
    · rw [decide_eq_true h1, decide_eq_true h2, decide_eq_false (show ¬ (l.length : Int) < 1 by omega), decide_eq_false (show ¬ 18 < (l.length : Int) by omega)]; rfl
    · rw [decide_eq_false h2, decide_eq_true (show 18 < (l.length : Int) by omega)]; simp
  · rw [decide_eq_false h1, decide_eq_true (show (l.length : Int) < 1 by omega)]; simp
theorem grown_set (w : World) (a : Addr) (v : Value) : w.grownBy (w.setCell a v) (some a.block) := ⟨rfl, rfl, rfl, by simp, fun k _ hk => Below.heap_setCell w a v k (fun e => hk (by rw [e]))⟩
def apiBox (B : Mem.Book) (A : Ads) : Obj := .cells #[.slice A.na B.names.length A.nc, .slice A.sa B.status.length A.sc, .slice A.ma B.maps.length A.mc, .slice A.ka B.cls.length A.kc, .slice A.da B.decomp.length A.dc, .slice A.xa B.excl.length A.xc, .slice A.ba B.bidi.length A.bc, .slice A.ja B.join.length A.jc, .slice A.qa B.marks.length A.qc, .slice A.ra B.script.length A.rc, .slice A.la B.like.length A.lc] 27 (0, 0)
def cellNat (w : World) (nb : Nat) : Nat := match w.cell? ⟨nb, 0, none⟩ with
  | some (.int _ k) => k.toNat
  | _ => 0

set_option maxRecDepth 100000 in
set_option maxHeartbeats 2000000 in
theorem apart1_any (x : Raw) (st : List Val) (NB BB k0 : Nat) (sa : Option Addr) (sc : Nat) (w : World) (hst : st.length ≤ 1048576) (hR : Rise st) (hxl : x.is.length ≤ 1048576) (hV : Vals w sa st) (hI : Rs w x.ad x.is)
    (hsn : st ≠ [] → ∀ ad, sa = some ad → ad.block ≠ NB) (hin : x.is ≠ [] → ∀ ad, x.ad = some ad → ad.block ≠ NB) (hbn : BB ≠ NB)
    (hn : ∃ t, w.heap[NB]? = some (.cells #[.int .i64 (k0 : Int)] t (0, 0))) (hb : w.cell? ⟨BB, 1, none⟩ = some (.slice sa st.length sc)) (hk0 : k0 ≤ st.length) (hk : ∀ (j : Nat) y, st[j]? = some y → j < k0 → y.b < x.a) :
    Calls Tryz.prog 123 #[.agg #[.int .i32 x.a, .int .i32 x.b, .slice x.ad x.is.length x.cap], .pointer (some ⟨NB, 0, none⟩), .pointer (some ⟨BB, 0, none⟩)] w fun e w' => e = .returned (.bool (!(wrongM st x.plain))) ∧ (∃ k : Nat, (∃ t, w'.heap[NB]? = some (.cells #[.int .i64 (k : Int)] t (0, 0))) ∧ k ≤ st.length ∧ ∀ (j : Nat) y, st[j]? = some y → j < k → y.b < x.a) ∧ w.grownBy w' (some NB) := by
  have HV := Lib.hid hV
  have HI := Lib.hid hI
  have HK := Lib.hid hk
  obtain ⟨tN, hnc⟩ := hn
  have hnl := block_lt hnc
  have hbl : BB < w.heap.size := cell_lt hb
  have HX := Lib.hid (heap_alloc_new w (.cells #[.int .i32 x.a, .int .i32 x.b, .slice x.ad x.is.length x.cap] 68 (0, 0)))
  have HN0 := Lib.hid (((Below.refl w.heap.size w).alloc (Nat.le_refl _) (.cells #[.int .i32 x.a, .int .i32 x.b, .slice x.ad x.is.length x.cap] 68 (0, 0))).block NB hnl |>.trans hnc)
  have HB0 := Lib.hid ((((Below.refl w.heap.size w).alloc (Nat.le_refl _) (.cells #[.int .i32 x.a, .int .i32 x.b, .slice x.ad x.is.length x.cap] 68 (0, 0))).cell (p := ⟨BB, 1, none⟩) hbl).trans hb)
  have hg0 : w.grownBy (w.alloc (.cells #[.int .i32 x.a, .int .i32 x.b, .slice x.ad x.is.length x.cap] 68 (0, 0))) (some NB) := World.grownBy_alloc w _ _
  clear hV hI hk hnc hb
  go_enter Tryz.func123, Tryz.ntmps123
  go_wp2_with fail
  go_loopw [5] (fun _ w' => ∃ (k : Nat), Hid (w'.heap[NB]? = some (.cells #[.int .i64 (k : Int)] tN (0, 0))) ∧ k ≤ st.length ∧ Hid (∀ (j : Nat) y, st[j]? = some y → j < k → y.b < x.a) ∧ (w.alloc (.cells #[.int .i32 x.a, .int .i32 x.b, .slice x.ad x.is.length x.cap] 68 (0, 0))).grownBy w' (some NB)) (fun _ w' => st.length - cellNat w' NB)
  case atStart => exact ⟨k0, HN0, hk0, HK, grown_of (Below.refl _ _)⟩
  case round =>
    obtain ⟨k, hnc, hk, hlow, hg⟩ := hrel
    have hgw := hg0.trans hg
    have c0 : wr.cell? ⟨NB, 0, none⟩ = some (.int .i64 (k : Int)) := (block_cell (i := 0) hnc.out).trans rfl
    have f0 := block_free (i := 0) hnc.out
    have b1 : wr.cell? ⟨BB, 1, none⟩ = some (.slice sa st.length sc) := (World.cell?_of_block (a := ⟨BB, 1, none⟩) (hg.block BB (by simp; omega) (fun e => hbn (Option.some.inj e)))).trans HB0.out
    have hxb := (hg.block w.heap.size (by simp) (fun e => by have := Option.some.inj e; omega)).trans HX.out
    have r0 : wr.cell? ⟨w.heap.size, 0, none⟩ = some (.int .i32 x.a) := (block_cell (i := 0) hxb).trans rfl
    have r1 : wr.cell? ⟨w.heap.size, 1, none⟩ = some (.int .i32 x.b) := (block_cell (i := 1) hxb).trans rfl
    have r2 : wr.cell? ⟨w.heap.size, 2, none⟩ = some (.slice x.ad x.is.length x.cap) := (block_cell (i := 2) hxb).trans rfl
    by_cases hkn : k < st.length
    · obtain ⟨y, hy⟩ : ∃ y, st[k]? = some y := ⟨_, List.getElem?_eq_getElem hkn⟩
      rcases tab_grown HV.out hgw (fun hz ad h e => hsn hz ad h (Option.some.inj e).symm) with h0 | ⟨bk, o, rfl, hbk, hc⟩
      · rw [h0] at hkn; simp at hkn
      obtain ⟨q0, q1, q2⟩ := vals_at (hc k y hy)
      have HY := Lib.hid hy
      clear hc hy
      have g1 : decide ((k : Int) < (st.length : Int)) = true := decide_eq_true (by omega)
      by_cases hlt : y.b < x.a
      · have g2 : decide (y.b < x.a) = true := decide_eq_true hlt
        go_wp2_with fail
        go_quiet (fail)
        go_wp2_with fail
        go_roundw
        case rel => exact ⟨k + 1, Lib.hid (by rw [show (((k + 1 : Nat)) : Int) = (k : Int) + 1 from by omega]; exact block_set (i := 0) (v := .int .i64 ((k : Int) + 1)) hnc.out), by omega, Lib.hid (fun j z hj hjk => by
          by_cases e : j = k
          · subst e
            rw [HY.out] at hj
            cases hj
            exact hlt
          · exact hlow.out j z hj (by omega)), (hg.trans (grown_drewN wr nq)).trans (grown_set (wr.drewN nq) ⟨NB, 0, none⟩ _)⟩
        case measure =>
          have e1 : cellNat wr NB = k := by unfold cellNat; rw [c0]; simp
          have e2 : cellNat ((wr.drewN nq).setCell ⟨NB, 0, none⟩ (.int .i64 ((k : Int) + 1))) NB = k + 1 := by
            have hh : ((wr.drewN nq).setCell ⟨NB, 0, none⟩ (.int .i64 ((k : Int) + 1))).heap[NB]? = _ := block_set (i := 0) (v := .int .i64 ((k : Int) + 1)) (w := wr.drewN nq) hnc.out
            have hh2 := (block_cell (i := 0) hh).trans rfl
            unfold cellNat; rw [hh2]; simp
          rw [e1, e2]; omega
      · have g2 : decide (y.b < x.a) = false := decide_eq_false hlt
        go_wp2_with fail
        go_quiet (fail)
        have HSC := Lib.hid (fun W (hW : wr.grownBy W (some NB)) => scalars_any x.ad x.is x.cap 1 18 W hxl (rs_grown HI.out (hgw.trans hW) (fun hz ad h e => hin hz ad h (Option.some.inj e).symm)))
        rw [scalars_wrong] at HSC
        have HSC2 := HSC
        have HMT := Lib.hid (meet_stop (b := x.b) hR hlow.out (fun z hz => by rw [HY.out] at hz; cases hz; omega))
        rw [HY.out] at HMT
        have hwm : Hid (wrongM st x.plain = (wrongC 18 x.is || meetB x.a x.b st)) := Lib.hid rfl
        cases hsb : wrongC 18 x.is with
        | true =>
          have HF : Hid ((!(wrongM st x.plain)) = false) := Lib.hid (by rw [hwm.out, hsb]; rfl)
          rw [hsb, show (!true) = false from rfl] at HSC
          clear hsb
          have hwl : w.heap.size < wr.heap.size := block_lt hxb
          have hN : NB < wr.heap.size := block_lt hnc.out
          have hBB : BB < wr.heap.size := cell_lt b1
          go_wp2_with fail
          go_quiet ((go_at_call 50; exact (HSC.out _ (grown_drewN _ _)).mono fun _ _ h => ⟨h.1, _, h.2.symm⟩))
          go_wp2_with fail
          go_ret
          exact ⟨by rw [HF.out]; rfl, ⟨k, ⟨tN, hnc.out⟩, hk, hlow.out⟩, (hgw.trans (grown_drewN wr _)).trans (grown_drewN _ _)⟩
        | false =>
          have HF : Hid ((!(wrongM st x.plain)) = decide (x.b < y.a)) := Lib.hid (by rw [hwm.out, hsb, HMT.out, Bool.false_or, Bool.eq_iff_iff]; simp)
          have g3 : ((k : Int) == (st.length : Int)) = false := by rw [beq_eq_false_iff_ne]; omega
          rw [hsb, show (!false) = true from rfl] at HSC
          clear hsb
          have hwl : w.heap.size < wr.heap.size := block_lt hxb
          have hN : NB < wr.heap.size := block_lt hnc.out
          have hBB : BB < wr.heap.size := cell_lt b1
          go_wp2_with fail
          go_quiet ((go_at_call 50; exact (HSC.out _ (grown_drewN _ _)).mono fun _ _ h => ⟨h.1, _, h.2.symm⟩))
          go_wp2_with fail
          go_ret
          exact ⟨by rw [HF.out]; rfl, ⟨k, ⟨tN, hnc.out⟩, hk, hlow.out⟩, (hgw.trans (grown_drewN wr _)).trans (grown_drewN _ _)⟩
    · obtain rfl : st.length = k := by omega
      have g1 : decide ((st.length : Int) < (st.length : Int)) = false := by simp
      go_wp2_with fail
      go_quiet (fail)
      have HSC := Lib.hid (fun W (hW : wr.grownBy W (some NB)) => scalars_any x.ad x.is x.cap 1 18 W hxl (rs_grown HI.out (hgw.trans hW) (fun hz ad h e => hin hz ad h (Option.some.inj e).symm)))
      rw [scalars_wrong] at HSC
      have HSC2 := HSC
      have HMT := Lib.hid (meet_stop (b := x.b) hR hlow.out (fun z hz => by rw [List.getElem?_eq_none (Nat.le_refl _)] at hz; cases hz))
      rw [List.getElem?_eq_none (Nat.le_refl _)] at HMT
      have hwm : Hid (wrongM st x.plain = (wrongC 18 x.is || meetB x.a x.b st)) := Lib.hid rfl
      cases hsb : wrongC 18 x.is with
      | true =>
        have HF : Hid ((!(wrongM st x.plain)) = false) := Lib.hid (by rw [hwm.out, hsb]; rfl)
        rw [hsb, show (!true) = false from rfl] at HSC
        clear hsb
        have hwl : w.heap.size < wr.heap.size := block_lt hxb
        have hN : NB < wr.heap.size := block_lt hnc.out
        have hBB : BB < wr.heap.size := cell_lt b1
        go_wp2_with fail
        go_quiet ((go_at_call 50; exact (HSC.out _ (grown_drewN _ _)).mono fun _ _ h => ⟨h.1, _, h.2.symm⟩))
        go_wp2_with fail
        go_ret
        exact ⟨by rw [HF.out]; rfl, ⟨st.length, ⟨tN, hnc.out⟩, hk, hlow.out⟩, (hgw.trans (grown_drewN wr _)).trans (grown_drewN _ _)⟩
      | false =>
        have HF : Hid ((!(wrongM st x.plain)) = true) := Lib.hid (by rw [hwm.out, hsb, HMT.out]; rfl)
        have g3 : ((st.length : Int) == (st.length : Int)) = true := by simp
        rw [hsb, show (!false) = true from rfl] at HSC
        clear hsb
        have hwl : w.heap.size < wr.heap.size := block_lt hxb
        have hN : NB < wr.heap.size := block_lt hnc.out
        have hBB : BB < wr.heap.size := cell_lt b1
        go_wp2_with fail
        go_quiet ((go_at_call 50; exact (HSC.out _ (grown_drewN _ _)).mono fun _ _ h => ⟨h.1, _, h.2.symm⟩))
        go_wp2_with fail
        go_ret
        exact ⟨by rw [HF.out]; rfl, ⟨st.length, ⟨tN, hnc.out⟩, hk, hlow.out⟩, (hgw.trans (grown_drewN wr _)).trans (grown_drewN _ _)⟩

theorem rise_of {st : List Val} {ws : List Bool} (h : okRows (spV st) ws = true) : Rise st := by
  unfold okRows at h
  rw [Bool.and_eq_true] at h
  have hall := List.all_eq_true.1 h.2
  have hat : ∀ (i : Nat) x, st[i]? = some x → rowB (prevOf (spV st) i) ⟨x.a, x.b⟩ = true := by
    intro i x hx
    have hlt := (List.getElem?_eq_some_iff.1 hx).1
    have h1 := hall i (List.mem_range.2 (by unfold spV; rw [List.length_map]; exact hlt))
    unfold okAt at h1
    have e1 : (spV st)[i]? = some ⟨x.a, x.b⟩ := by unfold spV; rw [List.getElem?_map, hx]; rfl
    rw [e1] at h1
    simp only [Bool.and_eq_true] at h1
    exact h1.1
  refine ⟨fun j y hy => ?_, fun j x y hx hy => ?_⟩
  · have h1 := hat j y hy
    unfold rowB at h1
    simp only [Bool.and_eq_true, decide_eq_true_eq] at h1
    exact h1.1.1.2
  · have h1 := hat (j + 1) y hy
    unfold rowB at h1
    have e1 : prevOf (spV st) (j + 1) = some ⟨x.a, x.b⟩ := by
      show (spV st)[j]? = _
      unfold spV; rw [List.getElem?_map, hx]; rfl
    rw [e1] at h1
    simp only [Bool.and_eq_true, decide_eq_true_eq] at h1
    exact h1.2

set_option maxRecDepth 100000 in
set_option maxHeartbeats 2000000 in
theorem apart_any (B : Mem.Book) (A : Ads) (w : World) (hs : Small B) (hL : Lies w B A) (hst : Rise B.status) :
    Calls Tryz.prog 56 #[bookV B A] w fun e w' => ∃ r, e = .returned (.int .i64 r) ∧ (0 ≤ r ↔ ¬ okRows (spC B.maps) (B.maps.map (wrongM B.status)) = true) ∧ Below w.heap.size w w' := by
  obtain ⟨rs, t1, p1, n1⟩ := hL.m
  have hml : B.maps.length = rs.length := by rw [← p1, List.length_map]
  obtain ⟨W2, hW2⟩ : ∃ W2, W2 = (w.alloc (apiBox B A)).alloc (.cells #[.int .i64 0] 3 (0, 0)) := ⟨_, rfl⟩
  have hb2 : Below w.heap.size w W2 := by rw [hW2]; exact ((Below.refl w.heap.size w).alloc (Nat.le_refl _) _).alloc (by simp) _
  have hz2 : W2.heap.size = w.heap.size + 2 := by rw [hW2]; simp
  have hbx : W2.heap[w.heap.size]? = some (apiBox B A) := by
    rw [hW2]
    exact (((Below.refl (w.alloc (apiBox B A)).heap.size (w.alloc (apiBox B A))).alloc (Nat.le_refl _) _).block w.heap.size (by simp)).trans (heap_alloc_new w _)
  have hnx : W2.heap[w.heap.size + 1]? = some (.cells #[.int .i64 0] 3 (0, 0)) := by
    have h := heap_alloc_new (w.alloc (apiBox B A)) (.cells #[.int .i64 0] 3 (0, 0))
    rw [World.size_alloc] at h
    rw [hW2]; exact h
  have hsp : spR rs = spC B.maps := by unfold spR spC; rw [← p1, List.map_map]; rfl
  have hwsl : (B.maps.map (wrongM B.status)).length = rs.length := by rw [List.length_map, hml]
  have hst' : ∀ ad, B.status ≠ [] → A.sa = some ad → ad.block < w.heap.size := by
    intro ad hz e
    rcases hL.s with h | ⟨bk, o, h1, h2, _⟩
    · exact absurd h hz
    · rw [h1] at e; cases e; exact h2
  have hma' : ∀ ad, rs ≠ [] → A.ma = some ad → ad.block < w.heap.size := by
    intro ad hz e
    rcases t1 with h | ⟨bk, o, h1, h2, _⟩
    · exact absurd h hz
    · rw [h1] at e; cases e; exact h2
  have HC := Lib.hid (risingChr_any (some (w.heap.size + 1)) 123 #[.pointer (some ⟨w.heap.size + 1, 0, none⟩), .pointer (some ⟨w.heap.size, 0, none⟩)]
    (fun i W => W.heap[w.heap.size]? = some (apiBox B A) ∧ ∃ k : Nat, (∃ t, W.heap[w.heap.size + 1]? = some (.cells #[.int .i64 (k : Int)] t (0, 0))) ∧ k ≤ B.status.length ∧ ∀ (j : Nat) y, B.status[j]? = some y → j < k → ∃ i' x', i' + 1 = i ∧ rs[i']? = some x' ∧ y.b < x'.a)
    (B.maps.map (wrongM B.status)) A.ma rs A.mc W2 (by rw [← hml]; exact hs.m) hwsl (t1.below hb2) (fun hz ad e h => by have := hma' ad hz e; have := Option.some.inj h; omega) (fun k hk h => by have := Option.some.inj h; omega)
    (enters_of Tryz.func123 (by kernel_rfl) rfl)
    (fun i W W' hj hb => ⟨(hb.block _ (block_lt hj.1)).trans hj.1, hj.2.elim fun k hk => ⟨k, hk.1.elim fun t ht => ⟨t, (hb.block _ (block_lt ht)).trans ht⟩, hk.2⟩⟩)
    ⟨hbx, 0, ⟨_, hnx⟩, Nat.zero_le _, fun j y _ h => by omega⟩
    (fun W i x b hg hj hx hok hf hws => by
      obtain ⟨hbxW, k, ⟨t, hk⟩, hkl, hlow⟩ := hj
      have hbW : Below w.heap.size w W := hb2.grown hg hb2.size (fun k hk => by obtain rfl := Option.some.inj hk; omega)
      have hxm : x.plain ∈ B.maps := by rw [← p1]; exact List.mem_map_of_mem (List.mem_of_getElem? hx)
      have hwb : b = wrongM B.status x.plain := by
        rw [List.getElem?_map] at hws
        have : B.maps[i]? = some x.plain := by rw [← p1, List.getElem?_map, hx]; rfl
        rw [this] at hws
        cases hws
        rfl
      have hlow2 : ∀ (j : Nat) y, B.status[j]? = some y → j < k → y.b < x.a := by
        intro j y hy hjk
        obtain ⟨i', x', rfl, hx', hlt⟩ := hlow j y hy hjk
        have hsx' : (spR rs)[i']? = some ⟨x'.a, x'.b⟩ := by unfold spR; rw [List.getElem?_map, hx']; rfl
        have h1 := hok i' (Nat.lt_succ_self i')
        unfold okAt rowB at h1
        rw [hsx'] at h1
        simp only [Bool.and_eq_true, decide_eq_true_eq] at h1
        unfold fits at hf
        rw [lastOf_succ hsx'] at hf
        simp only [Bool.and_eq_true, decide_eq_true_eq] at hf
        have h2 := h1.1.1.1.2
        omega
      refine (apart1_any x B.status (w.heap.size + 1) w.heap.size k A.sa A.sc W hs.s hst (hs.mi _ hxm) (hL.s.below hbW) ((n1 x (List.mem_of_getElem? hx)).below hbW) (fun hz ad e h => by have := hst' ad hz e; omega)
        (fun hz ad e h => by
          rcases n1 x (List.mem_of_getElem? hx) with h0 | ⟨bk, o, h1, h2, _⟩
          · exact hz h0
          · rw [h1] at e; cases e; simp at h; omega) (by omega) ⟨t, hk⟩ ((block_cell (i := 1) hbxW).trans rfl) hkl hlow2).mono ?_
      rintro e w' ⟨rfl, ⟨k', hk', hkl', hlow'⟩, hg'⟩
      refine ⟨by rw [hwb], ⟨(hg'.block _ (block_lt hbxW) (fun e => by have := Option.some.inj e; omega)).trans hbxW, k', hk', hkl', fun j y hy hjk => ⟨i, x, rfl, hx, hlow' j y hy hjk⟩⟩, hg'⟩))
  rw [hsp] at HC
  rw [← hml] at HC
  have HB2 := Lib.hid hb2
  unfold apiBox at hW2
  clear hsp hwsl hst' hma' hbx hnx hL hml t1 p1 n1 hb2 hs hst
  unfold bookV
  go_enter Tryz.func56, Tryz.ntmps56
  go_wp2_with fail
  rw [← hW2]
  clear hW2
  refine HC.out.mono ?_
  rintro e w3 ⟨r, rfl, hr, hg⟩
  have HR := Lib.hid hr
  clear hr
  go_wp2_with fail
  go_ret
  exact ⟨r, rfl, HR.out, HB2.out.grown hg HB2.out.size (fun k hk => by obtain rfl := Option.some.inj hk; omega)⟩
end Go.Proofs.YtgdambmineeboaaGreatDoor.Apart
