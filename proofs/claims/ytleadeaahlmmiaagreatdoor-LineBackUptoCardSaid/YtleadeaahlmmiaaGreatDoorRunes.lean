/- The walks of line.hasAny, cutLeft at an ASCII set: what they hand back, as plain functions of bytes. -/
import Derived.Test.YtleadeaahlmmiaaGreatDoorProg
import Derived.Test.YtleadeaahlmmiaaGreatDoorText
import Derived.WalkKit
import Derived.Lib.OthersKept
import Derived.WalkSmall
import Derived.Outline
import Derived.Lib.Hide
import Derived.Test.YtleadeaahlmmiaaGreatDoorShelf
namespace Go.Proofs.YtleadeaahlmmiaaGreatDoor.Runes
open Go.RowKit Go.Lib Go.Proofs.YtleadeaahlmmiaaGreatDoor.Text

theorem toList_toArray (s : ByteArray) : (⟨s.data.toList.toArray⟩ : ByteArray) = s := by cases s; simp

/-- An iterator moved on, and a second one laid. -/
theorem _root_.Go.World.iterAt_alloc_facts {wo w : World} {k : Nat} {s set : ByteArray} {p q : Nat} (hit : wo.heap[k]? = some (.stringIter s p)) (hb : Below k w wo) :
    ((wo.iterAt k s q).iter set 0).heap[k]? = some (.stringIter s q) ∧ Below k w ((wo.iterAt k s q).iter set 0) ∧ ((wo.iterAt k s q).iter set 0).heap[(wo.iterAt k s q).heap.size]? = some (.stringIter set 0) ∧ k < (wo.iterAt k s q).heap.size := by
  have hk : k < wo.heap.size := (Array.getElem?_eq_some_iff.1 hit).1
  have hk' : k < (wo.iterAt k s q).heap.size := by rw [iterAt_size]; exact hk
  refine ⟨?_, (below_iterAt hb (Nat.le_refl _) _ _).alloc (Nat.le_of_lt hk') _, World.iter_heap _ _ _, hk'⟩
  show ((wo.iterAt k s q).heap.push _)[k]? = _
  rw [Array.getElem?_push_lt hk', ← Array.getElem?_eq_getElem hk']
  exact iterAt_heap _ _ _ _ _ hit

set_option maxHeartbeats 1000000 in
theorem hasAny_any (s set : ByteArray) (w : World) (ha : Ascii set.data.toList) :
    Calls Tryz.prog 29 #[.string s, .string set] w fun e w' => e = .returned (.bool (hasL s.data.toList set.data.toList)) ∧ Below w.heap.size w w' := by
  go_enter Tryz.func29, Tryz.ntmps29
  go_wp2
  go_loopw [6] (fun _ w' => ∃ pos : Nat, pos ≤ s.size ∧ w'.heap[w.heap.size]? = some (.stringIter s pos) ∧ Below w.heap.size w w' ∧ Hid (hasL (s.data.toList.drop pos) set.data.toList = hasL s.data.toList set.data.toList)) (fun _ w' => s.size - w'.iterPos w.heap.size)
  case atStart => exact ⟨0, Nat.zero_le _, World.iter_heap w s 0, (Below.refl _ _).alloc (Nat.le_refl _) _, Lib.hid rfl⟩
  case round =>
    obtain ⟨wo, rfl⟩ : ∃ wo : World, wo = wr := ⟨_, rfl⟩
    obtain ⟨pos, hps, hit, hb, hh⟩ := hrel
    by_cases hp : pos < s.size
    · have hnx : ∀ ty, (Instr.next (.pointer (some ⟨w.heap.size, 0, none⟩)) true ty).run Tryz.prog wo = _ := fun ty => run_next_any_at wo w.heap.size s pos ty hit hp
      have hr := round_has s set.data.toList ha pos hp
      have hwd := width_pos s pos
      have Hm := Lib.hid (iterPos_of hit)
      generalize Utf8.decode s pos = dc at *
      obtain ⟨c, wd⟩ := dc
      have HR := Lib.hid hr.1
      have hle : pos + wd ≤ s.size := hr.2
      clear hr
      simp only at hwd HR
      go_wp2
      have hbk := World.iterAt_alloc_facts (wo := wo) (k := w.heap.size) (s := s) (p := pos) (q := pos + wd) (set := set) (w := w) hit hb
      obtain ⟨N, hN⟩ : ∃ N, N = (wo.iterAt w.heap.size s (pos + wd)).heap.size := ⟨_, rfl⟩
      rw [← hN] at hbk ⊢
      obtain ⟨h1, h2, h3, hNw⟩ := hbk
      clear hnx hit hb
      generalize (wo.iterAt w.heap.size s (pos + wd)).iter set 0 = W1 at *
      clear hN
      go_loopw [8] (fun _ w' => ∃ j : Nat, j ≤ set.size ∧ w'.heap[N]? = some (.stringIter set j) ∧ w'.heap[w.heap.size]? = some (.stringIter s (pos + wd)) ∧ Below w.heap.size w w' ∧ Hid (hasRune (set.data.toList.drop j) c = hasRune set.data.toList c)) (fun _ w' => set.size - w'.iterPos N)
      case atStart => exact ⟨0, Nat.zero_le _, h3, h1, h2, Lib.hid rfl⟩
      case round =>
        clear h1 h2 h3
        obtain ⟨j, hj, hi1, hi2, hb, hq⟩ := hrel
        have Hm2 := Lib.hid (iterPos_of hi1)
        by_cases hlt : j < set.size
        · have hnx : ∀ ty, (Instr.next (.pointer (some ⟨N, 0, none⟩)) true ty).run Tryz.prog wr = _ := fun ty => run_next_any_at wr N set j ty hi1 hlt
          have hr := round_rune set ha c j hlt
          generalize Utf8.decode set j = dc at *
          obtain ⟨d, wd2⟩ := dc
          have HR2 := Lib.hid hr.1
          obtain rfl : wd2 = 1 := hr.2
          clear hr
          simp only at HR2
          by_cases hcd : c = d
          · have e1 : ((c : Int) == (d : Int)) = true := by simp [hcd]
            have HF : Hid (hasL s.data.toList set.data.toList = true) := by
              refine Lib.hid ?_
              rw [← hh.out, HR.out, ← hq.out, HR2.out, hcd]
              simp
            clear hcd
            go_wp2
            go_ret
            exact ⟨by rw [HF.out]; rfl, below_iterAt hb (by omega) _ _⟩
          · have e1 : ((c : Int) == (d : Int)) = false := by rw [beq_eq_false_iff_ne]; omega
            have HF : Hid (hasRune (set.data.toList.drop (j + 1)) c = hasRune set.data.toList c) := by
              refine Lib.hid ?_
              rw [← hq.out, HR2.out]
              have : (d == c) = false := by rw [beq_eq_false_iff_ne]; omega
              rw [this, Bool.false_or]
            clear hcd
            go_wp2
            go_roundw
            case rel => exact ⟨j + 1, by omega, iterAt_heap _ _ _ _ _ hi1, (iterAt_other _ _ _ _ _ (by omega)).trans hi2, below_iterAt hb (by omega) _ _, HF⟩
            case measure => rw [iterPos_of (iterAt_heap wr N set j (j + 1) hi1), Hm2.out]; omega
        · have hnx : ∀ ty, (Instr.next (.pointer (some ⟨N, 0, none⟩)) true ty).run Tryz.prog wr = _ := fun ty => run_next_end_at wr N set j ty hi1 hlt
          have HF : Hid (hasL (s.data.toList.drop (pos + wd)) set.data.toList = hasL s.data.toList set.data.toList) := by
            refine Lib.hid ?_
            rw [← hh.out, HR.out, ← hq.out, show set.data.toList.drop j = [] from List.drop_eq_nil_of_le (by have := size_data set; omega)]
            simp [hasRune]
          go_wp2
          go_roundw
          case rel => exact ⟨pos + wd, hle, hi2, hb, HF⟩
          case measure => rw [iterPos_of hi2, Hm.out]; omega
    · have hnx : ∀ ty, (Instr.next (.pointer (some ⟨w.heap.size, 0, none⟩)) true ty).run Tryz.prog wo = _ := fun ty => run_next_end_at wo w.heap.size s pos ty hit hp
      go_wp2
      go_ret
      refine ⟨?_, hb⟩
      rw [← hh.out, List.drop_eq_nil_of_le (by have := size_data s; omega)]
      rfl

theorem drop_ba (s : ByteArray) (p : Nat) (l : List UInt8) (h : l = s.data.toList.drop p) : s.extract p s.size = ⟨l.toArray⟩ := by
  subst h
  rw [← extract_to_end, toList_toArray]
theorem ret_string {a b : ByteArray} (h : a = b) : Ending.returned (.string a) = .returned (.string b) := by rw [h]

set_option maxHeartbeats 1000000 in
theorem cutLeft_any (s set : ByteArray) (w : World) (ha : Ascii set.data.toList) :
    Calls Tryz.prog 31 #[.string s, .string set] w fun e w' => e = .returned (.string ⟨(ltrim set.data.toList s.data.toList).toArray⟩) ∧ Below w.heap.size w w' := by
  go_enter Tryz.func31, Tryz.ntmps31
  go_wp2
  go_loopw [5] (fun _ w' => ∃ pos : Nat, pos ≤ s.size ∧ w'.heap[w.heap.size]? = some (.stringIter s pos) ∧ Below w.heap.size w w' ∧ Hid (ltrim set.data.toList (s.data.toList.drop pos) = ltrim set.data.toList s.data.toList)) (fun _ w' => s.size - w'.iterPos w.heap.size)
  case atStart => exact ⟨0, Nat.zero_le _, World.iter_heap w s 0, (Below.refl _ _).alloc (Nat.le_refl _) _, Lib.hid rfl⟩
  case round =>
    obtain ⟨wo, rfl⟩ : ∃ wo : World, wo = wr := ⟨_, rfl⟩
    obtain ⟨pos, hps, hit, hb, hh⟩ := hrel
    by_cases hp : pos < s.size
    · have hnx : ∀ ty, (Instr.next (.pointer (some ⟨w.heap.size, 0, none⟩)) true ty).run Tryz.prog wo = _ := fun ty => run_next_any_at wo w.heap.size s pos ty hit hp
      have hr := round_left s set.data.toList ha pos hp
      have hle := (round_has s set.data.toList ha pos hp).2
      have hwd := width_pos s pos
      have Hm := Lib.hid (iterPos_of hit)
      generalize Utf8.decode s pos = dc at *
      obtain ⟨c, wd⟩ := dc
      simp only at hwd hr hle
      have HR := Lib.hid hr
      clear hr
      go_wp2
      have hbk := World.iterAt_alloc_facts (wo := wo) (k := w.heap.size) (s := s) (p := pos) (q := pos + wd) (set := set) (w := w) hit hb
      obtain ⟨N, hN⟩ : ∃ N, N = (wo.iterAt w.heap.size s (pos + wd)).heap.size := ⟨_, rfl⟩
      rw [← hN] at hbk ⊢
      obtain ⟨h1, h2, h3, hNw⟩ := hbk
      clear hnx hit hb
      generalize (wo.iterAt w.heap.size s (pos + wd)).iter set 0 = W1 at *
      clear hN
      go_loopw [7, 9] (fun b _ w' => ∃ (j : Nat) (x : Bool), b = .bool x ∧ j ≤ set.size ∧ w'.heap[N]? = some (.stringIter set j) ∧ w'.heap[w.heap.size]? = some (.stringIter s (pos + wd)) ∧ Below w.heap.size w w' ∧ Hid ((x || hasRune (set.data.toList.drop j) c) = hasRune set.data.toList c)) (fun _ _ w' => set.size - w'.iterPos N)
      case atStart => exact ⟨0, false, rfl, Nat.zero_le _, h3, h1, h2, Lib.hid (Bool.false_or _)⟩
      case round =>
        clear h1 h2 h3
        obtain ⟨j, x, rfl, hj, hi1, hi2, hb, hq⟩ := hrel
        have Hm2 := Lib.hid (iterPos_of hi1)
        by_cases hlt : j < set.size
        · have hnx : ∀ ty, (Instr.next (.pointer (some ⟨N, 0, none⟩)) true ty).run Tryz.prog wr = _ := fun ty => run_next_any_at wr N set j ty hi1 hlt
          have hr := round_rune set ha c j hlt
          generalize Utf8.decode set j = dc at *
          obtain ⟨d, wd2⟩ := dc
          have HR2 := Lib.hid hr.1
          obtain rfl : wd2 = 1 := hr.2
          clear hr
          simp only at HR2
          have HF : Hid (((x || (c : Int) == (d : Int)) || hasRune (set.data.toList.drop (j + 1)) c) = hasRune set.data.toList c) := by
            refine Lib.hid ?_
            rw [← hq.out, HR2.out, Bool.or_assoc]
            congr 2
            rw [Bool.eq_iff_iff, beq_iff_eq, beq_iff_eq]
            omega
          cases x
          all_goals
            go_wp2
            go_roundw
            case rel => exact ⟨j + 1, _, rfl, by omega, iterAt_heap _ _ _ _ _ hi1, (iterAt_other _ _ _ _ _ (by omega)).trans hi2, below_iterAt hb (by omega) _ _, HF⟩
            case measure => rw [iterPos_of (iterAt_heap wr N set j (j + 1) hi1), Hm2.out]; omega
        · have hnx : ∀ ty, (Instr.next (.pointer (some ⟨N, 0, none⟩)) true ty).run Tryz.prog wr = _ := fun ty => run_next_end_at wr N set j ty hi1 hlt
          have HX : Hid (hasRune set.data.toList c = x) := by
            refine Lib.hid ?_
            rw [← hq.out, show set.data.toList.drop j = [] from List.drop_eq_nil_of_le (by have := size_data set; omega)]
            simp [hasRune]
          cases x
          · have HF := Lib.hid (HR.out.2 HX.out)
            go_wp2
            go_ret
            exact ⟨ret_string (drop_ba s pos _ (by rw [← hh.out, HF.out])), hb⟩
          · have HF := Lib.hid (HR.out.1 HX.out).1
            go_wp2
            go_roundw
            case rel => exact ⟨pos + wd, hle, hi2, hb, Lib.hid (by rw [← HF.out]; exact hh.out)⟩
            case measure => rw [iterPos_of hi2, Hm.out]; omega
    · have hnx : ∀ ty, (Instr.next (.pointer (some ⟨w.heap.size, 0, none⟩)) true ty).run Tryz.prog wo = _ := fun ty => run_next_end_at wo w.heap.size s pos ty hit hp
      go_wp2
      go_ret
      refine ⟨ret_string ?_, hb⟩
      rw [← hh.out, List.drop_eq_nil_of_le (by have := size_data s; omega)]
      rfl

theorem take_ba (s : ByteArray) (p : Nat) : s.extract 0 p = ⟨(s.data.toList.take p).toArray⟩ := by
  have h := Lib.extract_data s 0 p
  rw [List.drop_zero, Nat.sub_zero] at h
  rw [← h, toList_toArray]
def strLen : Value → Nat
  | .string s => s.size
  | _ => 0

set_option maxHeartbeats 1000000 in
theorem cutRight_any (s set : ByteArray) (w : World) (hs : s.size ≤ 140737488351232) (ha : Ascii set.data.toList) (hT : Lib.Utf8Tabs 3 4 w) :
    Calls Tryz.prog 30 #[.string s, .string set] w fun e w' => e = .returned (.string ⟨(rtrim set.data.toList s.data.toList).toArray⟩) ∧ Below w.heap.size w w' := by
  have HT := Lib.hid hT
  clear hT
  go_enter Tryz.func30, Tryz.ntmps30
  go_wp2
  go_loopw [0] (fun v w' => ∃ t : ByteArray, v = .string t ∧ t.size ≤ 140737488351232 ∧ Below w.heap.size w w' ∧ Hid (rtrim set.data.toList t.data.toList = rtrim set.data.toList s.data.toList)) (fun v _ => strLen v)
  case atStart => exact ⟨s, rfl, hs, Below.refl _ _, Lib.hid rfl⟩
  case round =>
    obtain ⟨wo, rfl⟩ : ∃ wo : World, wo = wr := ⟨_, rfl⟩
    obtain ⟨t, rfl, hts, hb, hh⟩ := hrel
    have hT := Utf8Tabs_below HT.out hb
    by_cases hp : 0 < t.size
    · have hr := round_right t.data.toList set.data.toList ha (by rw [size_data]; exact hp)
      have hwd := decodeLastL_width t.data.toList (by rw [size_data]; exact hp)
      have hC := Tryz.utf8_DecodeLastRuneInString t wo (by omega) hT
      rw [size_data] at hwd
      generalize Lib.decodeLastL t.data.toList = dc at *
      obtain ⟨c, wd⟩ := dc
      simp only at hwd hr hC
      have HR := Lib.hid hr
      have HC := Lib.hid hC
      clear hr hT hC
      go_wp2_with (go_at_call 52; refine HC.out.mono ?_; rintro e w1 ⟨rfl, hb1⟩)
      have hlt1 : w.heap.size ≤ w1.heap.size := Nat.le_trans hb.size hb1.size
      have h2 : Below w.heap.size w (w1.iter set 0) := (hb.trans (hb1.mono hb.size)).alloc hlt1 _
      have h3 : (w1.iter set 0).heap[w1.heap.size]? = some (.stringIter set 0) := World.iter_heap _ _ _
      obtain ⟨N, hN⟩ : ∃ N, N = w1.heap.size := ⟨_, rfl⟩
      rw [← hN] at h3 ⊢
      have hNw : w.heap.size ≤ N := by omega
      clear hb hb1 hlt1
      generalize w1.iter set 0 = W1 at *
      clear hN HC
      go_loopw [7, 9] (fun b _ w' => ∃ (j : Nat) (x : Bool), b = .bool x ∧ j ≤ set.size ∧ w'.heap[N]? = some (.stringIter set j) ∧ Below w.heap.size w w' ∧ Hid ((x || hasRune (set.data.toList.drop j) c) = hasRune set.data.toList c)) (fun _ _ w' => set.size - w'.iterPos N)
      case atStart => exact ⟨0, false, rfl, Nat.zero_le _, h3, h2, Lib.hid (Bool.false_or _)⟩
      case round =>
        clear h2 h3
        obtain ⟨j, x, rfl, hj, hi1, hb, hq⟩ := hrel
        have Hm2 := Lib.hid (iterPos_of hi1)
        by_cases hlt : j < set.size
        · have hnx : ∀ ty, (Instr.next (.pointer (some ⟨N, 0, none⟩)) true ty).run Tryz.prog wr = _ := fun ty => run_next_any_at wr N set j ty hi1 hlt
          have hr := round_rune set ha c j hlt
          generalize Utf8.decode set j = dc at *
          obtain ⟨d, wd2⟩ := dc
          have HR2 := Lib.hid hr.1
          obtain rfl : wd2 = 1 := hr.2
          clear hr
          simp only at HR2
          have HF : Hid (((x || (c : Int) == (d : Int)) || hasRune (set.data.toList.drop (j + 1)) c) = hasRune set.data.toList c) := by
            refine Lib.hid ?_
            rw [← hq.out, HR2.out, Bool.or_assoc]
            congr 2
            rw [Bool.eq_iff_iff, beq_iff_eq, beq_iff_eq]
            omega
          cases x
          all_goals
            go_wp2
            go_roundw
            case rel => exact ⟨j + 1, _, rfl, by omega, iterAt_heap _ _ _ _ _ hi1, below_iterAt hb (by omega) _ _, HF⟩
            case measure => rw [iterPos_of (iterAt_heap wr N set j (j + 1) hi1), Hm2.out]; omega
        · have hnx : ∀ ty, (Instr.next (.pointer (some ⟨N, 0, none⟩)) true ty).run Tryz.prog wr = _ := fun ty => run_next_end_at wr N set j ty hi1 hlt
          have HX : Hid (hasRune set.data.toList c = x) := by
            refine Lib.hid ?_
            rw [← hq.out, show set.data.toList.drop j = [] from List.drop_eq_nil_of_le (by have := size_data set; omega)]
            simp [hasRune]
          cases x
          · have HF := Lib.hid (HR.out.2 HX.out)
            go_wp2
            go_ret
            exact ⟨ret_string (by rw [← hh.out, HF.out, toList_toArray]), hb⟩
          · have HF := Lib.hid (HR.out.1 HX.out).1
            have hone : (t.size : Int) - (wd : Int) = ((t.size - wd : Nat) : Int) := by omega
            have hle : t.size - wd ≤ t.size := by omega
            go_wp2
            go_roundw
            case rel =>
              refine ⟨t.extract 0 (t.size - wd), ?_, ?_, hb, Lib.hid ?_⟩
              · first | rfl | (simp; done)
              · rw [ByteArray.size_extract]; omega
              · rw [take_ba, ← hh.out, HF.out, size_data]
            case measure =>
              have hx : (t.extract 0 (t.size - wd)).size < t.size := by rw [ByteArray.size_extract]; omega
              exact hx
    · have hz : t.size = 0 := by omega
      go_wp2
      go_ret
      refine ⟨ret_string ?_, hb⟩
      have ht : t.data.toList = [] := List.length_eq_zero_iff.1 (by rw [size_data]; exact hz)
      rw [← hh.out, ht, rtrim_nil, ← ht, toList_toArray]
end Go.Proofs.YtleadeaahlmmiaaGreatDoor.Runes
