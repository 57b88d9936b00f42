/- The walk of the reference's written: of which rows what they say may not be. -/
import Derived.Test.YtgdambmineeboaaGreatDoorBMany
import Derived.Test.YtgdambmineeboaaGreatDoorBNumbered
import Derived.Outline
set_option linter.unusedSimpArgs false
set_option linter.unusedVariables false
namespace Go.Proofs.YtgdambmineeboaaGreatDoor.Written
open Go.RowKit Go.Lib Go.Proofs.YtgdambmineeboaaGreatDoor.Text Go.Proofs.YtgdambmineeboaaGreatDoor.Runes Go.Proofs.YtgdambmineeboaaGreatDoor.Print Go.Proofs.YtgdambmineeboaaGreatDoor.RefNine Go.Proofs.YtgdambmineeboaaGreatDoor.RefPrint Go.Proofs.YtgdambmineeboaaGreatDoor.Format Go.Proofs.YtgdambmineeboaaGreatDoor.Tell Go.Proofs.YtgdambmineeboaaGreatDoor.Given Go.Proofs.YtgdambmineeboaaGreatDoor.Mem Go.Proofs.YtgdambmineeboaaGreatDoor.Pred Go.Proofs.YtgdambmineeboaaGreatDoor.Many Go.Proofs.YtgdambmineeboaaGreatDoor.Wrong Go.Proofs.YtgdambmineeboaaGreatDoor.Numbered

def wrongTo (most : Int) (is : List Int) (k : Nat) : Bool := decide ((is.length : Int) < 1) || decide (most < (is.length : Int)) || (is.take k).any fun p => !scalarB p
def wrongC (most : Int) (is : List Int) : Bool := decide ((is.length : Int) < 1) || decide (most < (is.length : Int)) || is.any fun p => !scalarB p
theorem wrongTo_succ (most : Int) (is : List Int) (k : Nat) (p : Int) (h : is[k]? = some p) : wrongTo most is (k + 1) = (wrongTo most is k || !scalarB p) := by
  unfold wrongTo
  rw [take_snoc' _ k p h, List.any_append]
  simp [Bool.or_assoc]
theorem wrongTo_all (most : Int) (is : List Int) : wrongTo most is is.length = wrongC most is := by
  unfold wrongTo wrongC
  rw [List.take_length]
def encC (most : Int) (r : Raw) : List Value := [.bool (wrongC most r.is)]

set_option maxRecDepth 100000 in
set_option maxHeartbeats 2000000 in
theorem written_raw (most : Int) (a : Option Addr) (rs : List Raw) (c : Nat) (w : World) (hl : rs.length ≤ 1048576) (hli : ∀ r ∈ rs, r.is.length ≤ 1048576) (hV : Tab 3 Mem.encR w a rs) (hR : ∀ r ∈ rs, Rs w r.ad r.is) :
    Calls Tryz.prog 80 #[.slice a rs.length c, .int .i64 most] w fun e w' => ∃ v, e = .returned v ∧ w'.ownsRow w.heap.size 4 1 v rs.length (flat (encC most) rs) ∧ Below w.heap.size w w' := by
  have HV := Lib.hid hV
  have HN := Lib.hid hR
  have HLI := Lib.hid hli
  obtain ⟨i0, hi, hz0, hz1, hz2⟩ := info_parts info_bool
  clear hV hR hli
  go_enter Tryz.func80, Tryz.ntmps80
  go_wp2
  go_loopw [5, 14] (fun u v w' => ∃ (i : Nat), v = .int .i64 i ∧ i ≤ rs.length ∧ w'.ownsRow w.heap.size 4 1 u i (flat (encC most) (rs.take i)) ∧ Below w.heap.size w w') (fun _ v _ => rs.length - (intOf v).toNat)
  case atStart => exact ⟨0, rfl, Nat.zero_le _, by
    have := World.ownsRow_made (base := w.heap.size) (e := 4) (size := 1) w #[] 0 (Nat.le_refl _) (by decide) rfl
    exact this, (Below.refl _ _).alloc (Nat.le_refl _) _⟩
  case round =>
    obtain ⟨i, rfl, hi', hown, hb⟩ := hrel
    by_cases hlt : i < rs.length
    · obtain ⟨x, hx⟩ : ∃ x, rs[i]? = some x := ⟨_, List.getElem?_eq_getElem hlt⟩
      rcases HV.out.below hb with h0 | ⟨bk, o, rfl, hbk, hc⟩
      · subst h0; simp at hlt
      obtain ⟨q0, q1, q2⟩ := raws_at (hc i x hx)
      have hb2 := hb.alloc hb.size (.cells #[.int .i32 x.a, .int .i32 x.b, .slice x.ad x.is.length x.cap] 95 (0, 0))
      have HRS := Lib.hid ((HN.out x (List.mem_of_getElem? hx)).below hb2)
      have hil := HLI.out x (List.mem_of_getElem? hx)
      have HSN := Lib.hid (show flat (encC most) (rs.take (i + 1)) = flat (encC most) (rs.take i) ++ [.bool (wrongC most x.is)] from flat_snoc (encC most) rs i x hx)
      have HT := Lib.hid (fun (p : Int) (W : World) => scalar_any p W)
      clear hc hx
      have hoc : ∀ tb, ∀ u ∈ [Value.bool tb], u.oneCell' = true := fun tb u hu => by simp only [List.mem_singleton] at hu; subst hu; rfl
      have hwz := hb.size
      have hcs : ((x.is.length : Int) < 1 ∧ Hid (wrongTo most x.is 0 = true)) ∨ ((¬ (x.is.length : Int) < 1 ∧ most < (x.is.length : Int)) ∧ Hid (wrongTo most x.is 0 = true)) ∨ ((¬ (x.is.length : Int) < 1 ∧ ¬ most < (x.is.length : Int)) ∧ Hid (wrongTo most x.is 0 = false)) := by
        unfold wrongTo
        by_cases h1 : (x.is.length : Int) < 1
        · exact .inl ⟨h1, Lib.hid (by simp only [decide_eq_true h1]; simp)⟩
        · by_cases h2 : most < (x.is.length : Int)
          · exact .inr (.inl ⟨⟨h1, h2⟩, Lib.hid (by simp only [decide_eq_true h2]; simp)⟩)
          · exact .inr (.inr ⟨⟨h1, h2⟩, Lib.hid (by simp only [decide_eq_false h1, decide_eq_false h2]; simp)⟩)
      rcases hcs with ⟨e1, hw⟩ | ⟨⟨e1, e2⟩, hw⟩ | ⟨⟨e1, e2⟩, hw⟩
      · go_wp2
        go_loopw [8, 32] (fun u v w' => ∃ (k : Nat), v = .int .i64 k ∧ k ≤ x.is.length ∧ (∃ b, u = .bool b ∧ Hid (wrongTo most x.is k = b)) ∧ wr.alloc (.cells #[.int .i32 x.a, .int .i32 x.b, .slice x.ad x.is.length x.cap] 95 (0, 0)) = w') (fun _ v _ => x.is.length - (intOf v).toNat)
        case atStart => exact ⟨0, rfl, Nat.zero_le _, ⟨_, rfl, hw⟩, rfl⟩
        case round =>
          obtain ⟨k, rfl, hk, ⟨b, rfl, hwb⟩, rfl⟩ := hrel
          by_cases hkl : k < x.is.length
          · obtain ⟨p, hp⟩ : ∃ p, x.is[k]? = some p := ⟨_, List.getElem?_eq_getElem hkl⟩
            rcases HRS.out with h0 | ⟨b1, o1, had, hb1, hc1⟩
            · rw [h0] at hkl; simp at hkl
            have q3 := hc1 k p hp
            rw [had] at *
            have HS := Lib.hid (wrongTo_succ most x.is k p hp)
            clear hc1 hp
            cases b with
            | true =>
              go_wp2_with (go_at_call 140; refine (HT.out _ _).mono ?_; rintro e w1 ⟨rfl, rfl⟩)
              go_roundw
              case rel => exact ⟨k + 1, by go_num, by omega, ⟨_, rfl, Lib.hid (by rw [HS.out, hwb.out]; rfl)⟩, trivial⟩
              case measure => simp [intOf]; omega
            | false =>
              generalize hsb : scalarB p = sb at *
              have HSB := Lib.hid hsb
              clear hsb
              go_wp2_with (go_at_call 140; refine (HT.out p _).mono ?_; rintro e w1 ⟨rfl, rfl⟩)
              go_roundw
              case rel => exact ⟨k + 1, by go_num, by omega, ⟨_, rfl, Lib.hid (by rw [HS.out, hwb.out, HSB.out]; rfl)⟩, trivial⟩
              case measure => simp [intOf]; omega
          · obtain rfl : k = x.is.length := by omega
            have HW := Lib.hid ((wrongTo_all most x.is).symm.trans hwb.out)
            go_wp2_with (at_builtin; refine wpList_append_own _ rfl _ _ 115 rfl w.heap.size 4 i0 _ 1 1 Tryz.underlying115 hi hz0 hz1 hz2 rfl (by decide) _ i _ rfl ((hown.alloc _).alloc _) ⟨wr.heap.size + 1, 0, none⟩ 1 1 [.bool b] rfl rfl (news2 wr _ #[.bool b] 4) (hoc _) (by unfold maxLen; omega) (by omega) (by simp; omega) ?_)
            intro v' w4 hown4 hgrow hv'
            have hbw4 : Below w.heap.size w w4 := ((hb.alloc hb.size _).alloc (by have := hb.size; simp; omega) _).grown hgrow (by have := hb.size; simp; omega) (fun k hk => (hown.lt k hk).1)
            have hown5 : w4.ownsRow w.heap.size 4 1 v' (i + 1) (flat (encC most) (rs.take (i + 1))) := by
              rw [HSN.out, HW.out]
              exact hown4
            clear hown4 hgrow hown hb hv' hb2
            go_wp2
            go_roundw
            case rel => exact ⟨i + 1, by go_num, by omega, hown5, hbw4⟩
            case measure => simp [intOf]; omega
      · go_wp2
        go_loopw [8, 32] (fun u v w' => ∃ (k : Nat), v = .int .i64 k ∧ k ≤ x.is.length ∧ (∃ b, u = .bool b ∧ Hid (wrongTo most x.is k = b)) ∧ wr.alloc (.cells #[.int .i32 x.a, .int .i32 x.b, .slice x.ad x.is.length x.cap] 95 (0, 0)) = w') (fun _ v _ => x.is.length - (intOf v).toNat)
        case atStart => exact ⟨0, rfl, Nat.zero_le _, ⟨_, rfl, hw⟩, rfl⟩
        case round =>
          obtain ⟨k, rfl, hk, ⟨b, rfl, hwb⟩, rfl⟩ := hrel
          by_cases hkl : k < x.is.length
          · obtain ⟨p, hp⟩ : ∃ p, x.is[k]? = some p := ⟨_, List.getElem?_eq_getElem hkl⟩
            rcases HRS.out with h0 | ⟨b1, o1, had, hb1, hc1⟩
            · rw [h0] at hkl; simp at hkl
            have q3 := hc1 k p hp
            rw [had] at *
            have HS := Lib.hid (wrongTo_succ most x.is k p hp)
            clear hc1 hp
            cases b with
            | true =>
              go_wp2_with (go_at_call 140; refine (HT.out _ _).mono ?_; rintro e w1 ⟨rfl, rfl⟩)
              go_roundw
              case rel => exact ⟨k + 1, by go_num, by omega, ⟨_, rfl, Lib.hid (by rw [HS.out, hwb.out]; rfl)⟩, trivial⟩
              case measure => simp [intOf]; omega
            | false =>
              generalize hsb : scalarB p = sb at *
              have HSB := Lib.hid hsb
              clear hsb
              go_wp2_with (go_at_call 140; refine (HT.out p _).mono ?_; rintro e w1 ⟨rfl, rfl⟩)
              go_roundw
              case rel => exact ⟨k + 1, by go_num, by omega, ⟨_, rfl, Lib.hid (by rw [HS.out, hwb.out, HSB.out]; rfl)⟩, trivial⟩
              case measure => simp [intOf]; omega
          · obtain rfl : k = x.is.length := by omega
            have HW := Lib.hid ((wrongTo_all most x.is).symm.trans hwb.out)
            go_wp2_with (at_builtin; refine wpList_append_own _ rfl _ _ 115 rfl w.heap.size 4 i0 _ 1 1 Tryz.underlying115 hi hz0 hz1 hz2 rfl (by decide) _ i _ rfl ((hown.alloc _).alloc _) ⟨wr.heap.size + 1, 0, none⟩ 1 1 [.bool b] rfl rfl (news2 wr _ #[.bool b] 4) (hoc _) (by unfold maxLen; omega) (by omega) (by simp; omega) ?_)
            intro v' w4 hown4 hgrow hv'
            have hbw4 : Below w.heap.size w w4 := ((hb.alloc hb.size _).alloc (by have := hb.size; simp; omega) _).grown hgrow (by have := hb.size; simp; omega) (fun k hk => (hown.lt k hk).1)
            have hown5 : w4.ownsRow w.heap.size 4 1 v' (i + 1) (flat (encC most) (rs.take (i + 1))) := by
              rw [HSN.out, HW.out]
              exact hown4
            clear hown4 hgrow hown hb hv' hb2
            go_wp2
            go_roundw
            case rel => exact ⟨i + 1, by go_num, by omega, hown5, hbw4⟩
            case measure => simp [intOf]; omega
      · go_wp2
        go_loopw [8, 32] (fun u v w' => ∃ (k : Nat), v = .int .i64 k ∧ k ≤ x.is.length ∧ (∃ b, u = .bool b ∧ Hid (wrongTo most x.is k = b)) ∧ wr.alloc (.cells #[.int .i32 x.a, .int .i32 x.b, .slice x.ad x.is.length x.cap] 95 (0, 0)) = w') (fun _ v _ => x.is.length - (intOf v).toNat)
        case atStart => exact ⟨0, rfl, Nat.zero_le _, ⟨_, rfl, hw⟩, rfl⟩
        case round =>
          obtain ⟨k, rfl, hk, ⟨b, rfl, hwb⟩, rfl⟩ := hrel
          by_cases hkl : k < x.is.length
          · obtain ⟨p, hp⟩ : ∃ p, x.is[k]? = some p := ⟨_, List.getElem?_eq_getElem hkl⟩
            rcases HRS.out with h0 | ⟨b1, o1, had, hb1, hc1⟩
            · rw [h0] at hkl; simp at hkl
            have q3 := hc1 k p hp
            rw [had] at *
            have HS := Lib.hid (wrongTo_succ most x.is k p hp)
            clear hc1 hp
            cases b with
            | true =>
              go_wp2_with (go_at_call 140; refine (HT.out _ _).mono ?_; rintro e w1 ⟨rfl, rfl⟩)
              go_roundw
              case rel => exact ⟨k + 1, by go_num, by omega, ⟨_, rfl, Lib.hid (by rw [HS.out, hwb.out]; rfl)⟩, trivial⟩
              case measure => simp [intOf]; omega
            | false =>
              generalize hsb : scalarB p = sb at *
              have HSB := Lib.hid hsb
              clear hsb
              go_wp2_with (go_at_call 140; refine (HT.out p _).mono ?_; rintro e w1 ⟨rfl, rfl⟩)
              go_roundw
              case rel => exact ⟨k + 1, by go_num, by omega, ⟨_, rfl, Lib.hid (by rw [HS.out, hwb.out, HSB.out]; rfl)⟩, trivial⟩
              case measure => simp [intOf]; omega
          · obtain rfl : k = x.is.length := by omega
            have HW := Lib.hid ((wrongTo_all most x.is).symm.trans hwb.out)
            go_wp2_with (at_builtin; refine wpList_append_own _ rfl _ _ 115 rfl w.heap.size 4 i0 _ 1 1 Tryz.underlying115 hi hz0 hz1 hz2 rfl (by decide) _ i _ rfl ((hown.alloc _).alloc _) ⟨wr.heap.size + 1, 0, none⟩ 1 1 [.bool b] rfl rfl (news2 wr _ #[.bool b] 4) (hoc _) (by unfold maxLen; omega) (by omega) (by simp; omega) ?_)
            intro v' w4 hown4 hgrow hv'
            have hbw4 : Below w.heap.size w w4 := ((hb.alloc hb.size _).alloc (by have := hb.size; simp; omega) _).grown hgrow (by have := hb.size; simp; omega) (fun k hk => (hown.lt k hk).1)
            have hown5 : w4.ownsRow w.heap.size 4 1 v' (i + 1) (flat (encC most) (rs.take (i + 1))) := by
              rw [HSN.out, HW.out]
              exact hown4
            clear hown4 hgrow hown hb hv' hb2
            go_wp2
            go_roundw
            case rel => exact ⟨i + 1, by go_num, by omega, hown5, hbw4⟩
            case measure => simp [intOf]; omega
    · obtain rfl : i = rs.length := by omega
      rw [List.take_length] at hown
      go_wp2
      go_ret
      exact ⟨_, rfl, hown, hb⟩
end Go.Proofs.YtgdambmineeboaaGreatDoor.Written
