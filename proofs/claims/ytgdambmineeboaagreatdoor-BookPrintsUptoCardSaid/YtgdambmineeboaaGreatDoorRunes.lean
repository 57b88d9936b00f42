/- Plain facts about bytes and runes (no program in sight): where a text has a byte of an ASCII set; a text without such bytes at its ends. -/
import Derived.Lib.DecodeN
import Derived.Lib.TrimU
import Derived.Lib.TrimUEq
import Derived.Laws.RangeAny
import Derived.Test.YtgdambmineeboaaGreatDoorProg
import Derived.WalkKit
import Derived.Lib.OthersKept
import Derived.WalkSmall
import Derived.Outline
import Derived.Lib.Hide
import Derived.Test.YtgdambmineeboaaGreatDoorShelf
set_option linter.unusedSimpArgs false
set_option linter.unusedVariables false
namespace Go.Proofs.YtgdambmineeboaaGreatDoor.Text
open Go.Lib

/-- Does a list have a byte of a set? -/
def hasL (l set : List UInt8) : Bool := l.any fun c => set.contains c
/-- Without the bytes of a set ahead. -/
def ltrim (set l : List UInt8) : List UInt8 := l.dropWhile fun c => set.contains c
/-- Without the bytes of a set behind. -/
def rtrim (set l : List UInt8) : List UInt8 := (ltrim set l.reverse).reverse
def btrim (set l : List UInt8) : List UInt8 := rtrim set (ltrim set l)

def Ascii (l : List UInt8) : Prop := ∀ c ∈ l, c.toNat < 128

theorem size_data (s : ByteArray) : s.data.toList.length = s.size := by simp

/-- Of a byte above 127: the rune is above 127, its bytes are, and they lie in the text. -/
theorem decodeN_high (n b0 b1 b2 b3 : Nat) (hn : 0 < n) (h0 : 128 ≤ b0) :
    128 ≤ (decodeN n b0 b1 b2 b3).1 ∧ (decodeN n b0 b1 b2 b3).2 ≤ n ∧ (1 < (decodeN n b0 b1 b2 b3).2 → 128 ≤ b1) ∧ (2 < (decodeN n b0 b1 b2 b3).2 → 128 ≤ b2) ∧ (3 < (decodeN n b0 b1 b2 b3).2 → 128 ≤ b3) ∧ (decodeN n b0 b1 b2 b3).2 ≤ 4 := by
  unfold decodeN
  repeat' split
  all_goals (simp only; refine ⟨?_, ?_, ?_, ?_, ?_, ?_⟩ <;> omega)

theorem high_bytes (s : ByteArray) (pos : Nat) (h : pos < s.size) (ha : 128 ≤ (s.data.toList.getD pos 0).toNat) :
    128 ≤ (Utf8.decode s pos).1 ∧ pos + (Utf8.decode s pos).2 ≤ s.size ∧ ∀ j, j < (Utf8.decode s pos).2 → 128 ≤ (s.data.toList.getD (pos + j) 0).toNat := by
  rw [decode_N]
  have hs := size_data s
  obtain ⟨h1, h2, h3, h4, h5, h6⟩ := decodeN_high (s.data.toList.length - pos) (s.data.toList.getD pos 0).toNat (s.data.toList.getD (pos + 1) 0).toNat (s.data.toList.getD (pos + 2) 0).toNat (s.data.toList.getD (pos + 3) 0).toNat (by omega) ha
  refine ⟨h1, by omega, fun j hj => ?_⟩
  rcases j with _ | _ | _ | _ | j
  · exact ha
  · exact h3 (by omega)
  · exact h4 (by omega)
  · exact h5 (by omega)
  · omega

theorem low_bytes (s : ByteArray) (pos : Nat) (ha : (s.data.toList.getD pos 0).toNat < 128) : Utf8.decode s pos = ((s.data.toList.getD pos 0).toNat, 1) := by
  rw [decode_N]
  unfold decodeN
  rw [if_pos ha]

theorem drop_cons (l : List UInt8) (p : Nat) (h : p < l.length) : l.drop p = l.getD p 0 :: l.drop (p + 1) := by
  rw [List.drop_eq_getElem_cons h]
  simp [List.getD, h]

theorem not_in (set : List UInt8) (hs : Ascii set) (c : UInt8) (h : 128 ≤ c.toNat) : set.contains c = false := by
  rw [List.contains_eq_any_beq]
  rw [Bool.eq_false_iff]
  intro hc
  rw [List.any_eq_true] at hc
  obtain ⟨x, hx, he⟩ := hc
  have := hs x hx
  have : c = x := by simpa using he
  subst this
  omega

/-- A run of bytes above 127 is passed over. -/
theorem hasL_skip (l set : List UInt8) (hs : Ascii set) : ∀ (w p : Nat), p + w ≤ l.length → (∀ j, j < w → 128 ≤ (l.getD (p + j) 0).toNat) → hasL (l.drop p) set = hasL (l.drop (p + w)) set
  | 0, p, _, _ => rfl
  | w + 1, p, h, hb => by
    rw [drop_cons l p (by omega)]
    have h0 := not_in set hs (l.getD p 0) (hb 0 (by omega))
    have ih := hasL_skip l set hs w (p + 1) (by omega) (fun j hj => by have := hb (j + 1) (by omega); rwa [show p + (j + 1) = p + 1 + j from by omega] at this)
    rw [show p + (w + 1) = p + 1 + w from by omega, ← ih]
    show (set.contains (l.getD p 0) || hasL (l.drop (p + 1)) set) = _
    rw [h0, Bool.false_or]

/-- Is a rune among the bytes of a set? -/
def hasRune (set : List UInt8) (c : Nat) : Bool := set.any fun d => d.toNat == c

theorem hasRune_byte (set : List UInt8) (c : UInt8) : hasRune set c.toNat = set.contains c := by
  unfold hasRune
  rw [List.contains_eq_any_beq]
  congr 1
  funext d
  rw [Bool.eq_iff_iff]
  simp only [beq_iff_eq]
  constructor
  · intro h; exact (UInt8.toNat_inj.1 h).symm
  · intro h; rw [h]
theorem hasRune_high (set : List UInt8) (hs : Ascii set) (c : Nat) (h : 128 ≤ c) : hasRune set c = false := by
  unfold hasRune
  rw [Bool.eq_false_iff]
  intro hc
  rw [List.any_eq_true] at hc
  obtain ⟨x, hx, he⟩ := hc
  have := hs x hx
  have : x.toNat = c := by simpa using he
  omega

/-- One round of 'for _, c := range s': what it finds, and what is left. -/
theorem round_has (s : ByteArray) (set : List UInt8) (hs : Ascii set) (pos : Nat) (h : pos < s.size) :
    hasL (s.data.toList.drop pos) set = (hasRune set (Utf8.decode s pos).1 || hasL (s.data.toList.drop (pos + (Utf8.decode s pos).2)) set) ∧ pos + (Utf8.decode s pos).2 ≤ s.size := by
  have hsz := size_data s
  by_cases ha : (s.data.toList.getD pos 0).toNat < 128
  · rw [low_bytes s pos ha]
    simp only [hasRune_byte]
    refine ⟨?_, by omega⟩
    rw [drop_cons _ pos (by omega)]
    rfl
  · obtain ⟨h1, h2, h3⟩ := high_bytes s pos h (by omega)
    refine ⟨?_, h2⟩
    rw [hasRune_high set hs _ h1, Bool.false_or]
    exact hasL_skip _ set hs _ pos (by omega) h3

/-- One round of cutLeft. -/
theorem round_left (s : ByteArray) (set : List UInt8) (hs : Ascii set) (pos : Nat) (h : pos < s.size) :
    (hasRune set (Utf8.decode s pos).1 = true → ltrim set (s.data.toList.drop pos) = ltrim set (s.data.toList.drop (pos + (Utf8.decode s pos).2)) ∧ (Utf8.decode s pos).2 = 1) ∧
    (hasRune set (Utf8.decode s pos).1 = false → ltrim set (s.data.toList.drop pos) = s.data.toList.drop pos) := by
  have hsz := size_data s
  by_cases ha : (s.data.toList.getD pos 0).toNat < 128
  · rw [low_bytes s pos ha]
    simp only [hasRune_byte]
    rw [drop_cons _ pos (by omega)]
    refine ⟨fun hc => ⟨?_, by first | rfl | trivial⟩, fun hc => ?_⟩
    · simp only [ltrim, List.dropWhile_cons, hc, if_true]
    · simp only [ltrim, List.dropWhile_cons, hc, Bool.false_eq_true, if_false]
  · obtain ⟨h1, h2, h3⟩ := high_bytes s pos h (by omega)
    rw [hasRune_high set hs _ h1]
    refine ⟨fun hc => by simp at hc, fun _ => ?_⟩
    rw [drop_cons _ pos (by omega)]
    simp only [ltrim, List.dropWhile_cons, not_in set hs (s.data.toList.getD pos 0) (by omega), Bool.false_eq_true, if_false]

theorem rtrim_snoc (set l : List UInt8) (c : UInt8) : rtrim set (l ++ [c]) = if set.contains c = true then rtrim set l else l ++ [c] := by
  unfold rtrim ltrim
  rw [List.reverse_append]
  simp only [List.reverse_cons, List.reverse_nil, List.nil_append, List.singleton_append, List.dropWhile_cons]
  split <;> simp
theorem rtrim_nil (set : List UInt8) : rtrim set [] = [] := rfl

/-- One round of cutRight. -/
theorem round_right (l set : List UInt8) (hs : Ascii set) (h : 0 < l.length) :
    (hasRune set (decodeLastL l).1 = true → rtrim set l = rtrim set (l.take (l.length - (decodeLastL l).2)) ∧ (decodeLastL l).2 = 1) ∧
    (hasRune set (decodeLastL l).1 = false → rtrim set l = l) := by
  have hne : l ≠ [] := List.length_pos_iff.1 h
  obtain ⟨t, b, rfl⟩ : ∃ t b, l = t ++ [b] := ⟨l.dropLast, l.getLast hne, (List.dropLast_concat_getLast hne).symm⟩
  by_cases hb : b.toNat < 128
  · have hd : decodeLastL (t ++ [b]) = (b.toNat, 1) := by
      unfold decodeLastL
      simp [hb]
    rw [hd]
    simp only [hasRune_byte, rtrim_snoc]
    refine ⟨fun hc => ⟨?_, by first | rfl | trivial⟩, fun hc => ?_⟩
    · rw [if_pos hc]; simp
    · rw [if_neg (by rw [hc]; simp)]
  · have h1 : 128 ≤ (decodeLastL (t ++ [b])).1 := by
      have hc := last_cases (t ++ [b]) (t ++ [b]).length h (Nat.le_refl _)
      have hg : ((t ++ [b]).getD ((t ++ [b]).length - 1) 0) = b := by simp
      rw [hg] at hc
      have e0 : (t ++ [b]).take (t ++ [b]).length = t ++ [b] := List.take_length
      rw [e0] at hc
      rcases hc with ⟨h1, _⟩ | ⟨_, h2⟩ | ⟨_, st, hst, h2, h3⟩
      · omega
      · rw [h2]; decide
      · rw [h2]
        have hlen : (t ++ [b]).length = t.length + 1 := by simp
        by_cases h0 : (((t ++ [b]).drop st).getD 0 0).toNat < 128
        · rw [decodeL_N] at h3
          have e1 : (decodeN ((t ++ [b]).drop st).length (((t ++ [b]).drop st).getD 0 0).toNat (((t ++ [b]).drop st).getD 1 0).toNat (((t ++ [b]).drop st).getD 2 0).toNat (((t ++ [b]).drop st).getD 3 0).toNat).2 = 1 := by
            unfold decodeN
            rw [if_pos h0]
          rw [e1] at h3
          have e2 : st = t.length := by omega
          subst e2
          rw [List.drop_left] at h0
          simp at h0
          omega
        · rw [decodeL_N]
          exact (decodeN_high _ _ _ _ _ (by rw [List.length_drop]; omega) (by omega)).1
    rw [hasRune_high set hs _ h1]
    refine ⟨fun hc => by simp at hc, fun _ => ?_⟩
    rw [rtrim_snoc, not_in set hs b (by omega)]
    simp
/-- One round of 'for _, d := range set'. -/
theorem round_rune (set : ByteArray) (ha : Ascii set.data.toList) (c j : Nat) (h : j < set.size) :
    hasRune (set.data.toList.drop j) c = ((Utf8.decode set j).1 == c || hasRune (set.data.toList.drop (j + (Utf8.decode set j).2)) c) ∧ (Utf8.decode set j).2 = 1 := by
  have hsz := size_data set
  have hlow : (set.data.toList.getD j 0).toNat < 128 := ha _ (by
    have : j < set.data.toList.length := by omega
    rw [List.getD_eq_getElem?_getD, List.getElem?_eq_getElem this]
    exact List.getElem_mem this)
  rw [low_bytes set j hlow]
  refine ⟨?_, rfl⟩
  rw [drop_cons _ j (by omega)]
  rfl
end Go.Proofs.YtgdambmineeboaaGreatDoor.Text

/- The walks of line.hasAny, cutLeft at an ASCII set: what they hand back, as plain functions of bytes. -/
namespace Go.Proofs.YtgdambmineeboaaGreatDoor.Runes
open Go.RowKit Go.Lib Go.Proofs.YtgdambmineeboaaGreatDoor.Text

theorem toList_toArray (s : ByteArray) : (⟨s.data.toList.toArray⟩ : ByteArray) = s := by cases s; simp

/-- An iterator moved on, and a second one laid. -/
theorem _root_.Go.World.iterAt_alloc_facts {wo w : World} {k : Nat} {s set : ByteArray} {p q : Nat} (hit : wo.heap[k]? = some (.stringIter s p)) (hb : Below k w wo) :
    ((wo.iterAt k s q).iter set 0).heap[k]? = some (.stringIter s q) ∧ Below k w ((wo.iterAt k s q).iter set 0) ∧ ((wo.iterAt k s q).iter set 0).heap[(wo.iterAt k s q).heap.size]? = some (.stringIter set 0) ∧ k < (wo.iterAt k s q).heap.size := by
  have hk : k < wo.heap.size := (Array.getElem?_eq_some_iff.1 hit).1
  have hk' : k < (wo.iterAt k s q).heap.size := by rw [iterAt_size]; exact hk
  refine ⟨?_, (below_iterAt hb (Nat.le_refl _) _ _).alloc (Nat.le_of_lt hk') _, World.iter_heap _ _ _, hk'⟩
  show ((wo.iterAt k s q).heap.push _)[k]? = _
  rw [Array.getElem?_push_lt hk', ← Array.getElem?_eq_getElem hk']
  exact iterAt_heap _ _ _ _ _ hit

set_option maxHeartbeats 1000000 in
theorem hasAny_any (s set : ByteArray) (w : World) (ha : Ascii set.data.toList) :
    Calls Tryz.prog 135 #[.string s, .string set] w fun e w' => e = .returned (.bool (hasL s.data.toList set.data.toList)) ∧ Below w.heap.size w w' := by
  go_enter Tryz.func135, Tryz.ntmps135
  go_wp2
  go_loopw [6] (fun _ w' => ∃ pos : Nat, pos ≤ s.size ∧ w'.heap[w.heap.size]? = some (.stringIter s pos) ∧ Below w.heap.size w w' ∧ Hid (hasL (s.data.toList.drop pos) set.data.toList = hasL s.data.toList set.data.toList)) (fun _ w' => s.size - w'.iterPos w.heap.size)
  case atStart => exact ⟨0, Nat.zero_le _, World.iter_heap w s 0, (Below.refl _ _).alloc (Nat.le_refl _) _, Lib.hid rfl⟩
  case round =>
    obtain ⟨wo, rfl⟩ : ∃ wo : World, wo = wr := ⟨_, rfl⟩
    obtain ⟨pos, hps, hit, hb, hh⟩ := hrel
    by_cases hp : pos < s.size
    · have hnx : ∀ ty, (Instr.next (.pointer (some ⟨w.heap.size, 0, none⟩)) true ty).run Tryz.prog wo = _ := fun ty => run_next_any_at wo w.heap.size s pos ty hit hp
      have hr := round_has s set.data.toList ha pos hp
      have hwd := width_pos s pos
      have Hm := Lib.hid (iterPos_of hit)
      generalize Utf8.decode s pos = dc at *
      obtain ⟨c, wd⟩ := dc
      have HR := Lib.hid hr.1
      have hle : pos + wd ≤ s.size := hr.2
      clear hr
      simp only at hwd HR
      go_wp2
      have hbk := World.iterAt_alloc_facts (wo := wo) (k := w.heap.size) (s := s) (p := pos) (q := pos + wd) (set := set) (w := w) hit hb
      obtain ⟨N, hN⟩ : ∃ N, N = (wo.iterAt w.heap.size s (pos + wd)).heap.size := ⟨_, rfl⟩
      rw [← hN] at hbk ⊢
      obtain ⟨h1, h2, h3, hNw⟩ := hbk
      clear hnx hit hb
      generalize (wo.iterAt w.heap.size s (pos + wd)).iter set 0 = W1 at *
      clear hN
      go_loopw [8] (fun _ w' => ∃ j : Nat, j ≤ set.size ∧ w'.heap[N]? = some (.stringIter set j) ∧ w'.heap[w.heap.size]? = some (.stringIter s (pos + wd)) ∧ Below w.heap.size w w' ∧ Hid (hasRune (set.data.toList.drop j) c = hasRune set.data.toList c)) (fun _ w' => set.size - w'.iterPos N)
      case atStart => exact ⟨0, Nat.zero_le _, h3, h1, h2, Lib.hid rfl⟩
      case round =>
        clear h1 h2 h3
        obtain ⟨j, hj, hi1, hi2, hb, hq⟩ := hrel
        have Hm2 := Lib.hid (iterPos_of hi1)
        by_cases hlt : j < set.size
        · have hnx : ∀ ty, (Instr.next (.pointer (some ⟨N, 0, none⟩)) true ty).run Tryz.prog wr = _ := fun ty => run_next_any_at wr N set j ty hi1 hlt
          have hr := round_rune set ha c j hlt
          generalize Utf8.decode set j = dc at *
          obtain ⟨d, wd2⟩ := dc
          have HR2 := Lib.hid hr.1
          obtain rfl : wd2 = 1 := hr.2
          clear hr
          simp only at HR2
          by_cases hcd : c = d
          · have e1 : ((c : Int) == (d : Int)) = true := by simp [hcd]
            have HF : Hid (hasL s.data.toList set.data.toList = true) := by
              refine Lib.hid ?_
              rw [← hh.out, HR.out, ← hq.out, HR2.out, hcd]
              simp
            clear hcd
            go_wp2
            go_ret
            exact ⟨by rw [HF.out]; rfl, below_iterAt hb (by omega) _ _⟩
          · have e1 : ((c : Int) == (d : Int)) = false := by rw [beq_eq_false_iff_ne]; omega
            have HF : Hid (hasRune (set.data.toList.drop (j + 1)) c = hasRune set.data.toList c) := by
              refine Lib.hid ?_
              rw [← hq.out, HR2.out]
              have : (d == c) = false := by rw [beq_eq_false_iff_ne]; omega
              rw [this, Bool.false_or]
            clear hcd
            go_wp2
            go_roundw
            case rel => exact ⟨j + 1, by omega, iterAt_heap _ _ _ _ _ hi1, (iterAt_other _ _ _ _ _ (by omega)).trans hi2, below_iterAt hb (by omega) _ _, HF⟩
            case measure => rw [iterPos_of (iterAt_heap wr N set j (j + 1) hi1), Hm2.out]; omega
        · have hnx : ∀ ty, (Instr.next (.pointer (some ⟨N, 0, none⟩)) true ty).run Tryz.prog wr = _ := fun ty => run_next_end_at wr N set j ty hi1 hlt
          have HF : Hid (hasL (s.data.toList.drop (pos + wd)) set.data.toList = hasL s.data.toList set.data.toList) := by
            refine Lib.hid ?_
            rw [← hh.out, HR.out, ← hq.out, show set.data.toList.drop j = [] from List.drop_eq_nil_of_le (by have := size_data set; omega)]
            simp [hasRune]
          go_wp2
          go_roundw
          case rel => exact ⟨pos + wd, hle, hi2, hb, HF⟩
          case measure => rw [iterPos_of hi2, Hm.out]; omega
    · have hnx : ∀ ty, (Instr.next (.pointer (some ⟨w.heap.size, 0, none⟩)) true ty).run Tryz.prog wo = _ := fun ty => run_next_end_at wo w.heap.size s pos ty hit hp
      go_wp2
      go_ret
      refine ⟨?_, hb⟩
      rw [← hh.out, List.drop_eq_nil_of_le (by have := size_data s; omega)]
      rfl

theorem drop_ba (s : ByteArray) (p : Nat) (l : List UInt8) (h : l = s.data.toList.drop p) : s.extract p s.size = ⟨l.toArray⟩ := by
  subst h
  rw [← extract_to_end, toList_toArray]
theorem ret_string {a b : ByteArray} (h : a = b) : Ending.returned (.string a) = .returned (.string b) := by rw [h]

set_option maxHeartbeats 1000000 in
theorem cutLeft_any (s set : ByteArray) (w : World) (ha : Ascii set.data.toList) :
    Calls Tryz.prog 137 #[.string s, .string set] w fun e w' => e = .returned (.string ⟨(ltrim set.data.toList s.data.toList).toArray⟩) ∧ Below w.heap.size w w' := by
  go_enter Tryz.func137, Tryz.ntmps137
  go_wp2
  go_loopw [5] (fun _ w' => ∃ pos : Nat, pos ≤ s.size ∧ w'.heap[w.heap.size]? = some (.stringIter s pos) ∧ Below w.heap.size w w' ∧ Hid (ltrim set.data.toList (s.data.toList.drop pos) = ltrim set.data.toList s.data.toList)) (fun _ w' => s.size - w'.iterPos w.heap.size)
  case atStart => exact ⟨0, Nat.zero_le _, World.iter_heap w s 0, (Below.refl _ _).alloc (Nat.le_refl _) _, Lib.hid rfl⟩
  case round =>
    obtain ⟨wo, rfl⟩ : ∃ wo : World, wo = wr := ⟨_, rfl⟩
    obtain ⟨pos, hps, hit, hb, hh⟩ := hrel
    by_cases hp : pos < s.size
    · have hnx : ∀ ty, (Instr.next (.pointer (some ⟨w.heap.size, 0, none⟩)) true ty).run Tryz.prog wo = _ := fun ty => run_next_any_at wo w.heap.size s pos ty hit hp
      have hr := round_left s set.data.toList ha pos hp
      have hle := (round_has s set.data.toList ha pos hp).2
      have hwd := width_pos s pos
      have Hm := Lib.hid (iterPos_of hit)
      generalize Utf8.decode s pos = dc at *
      obtain ⟨c, wd⟩ := dc
      simp only at hwd hr hle
      have HR := Lib.hid hr
      clear hr
      go_wp2
      have hbk := World.iterAt_alloc_facts (wo := wo) (k := w.heap.size) (s := s) (p := pos) (q := pos + wd) (set := set) (w := w) hit hb
      obtain ⟨N, hN⟩ : ∃ N, N = (wo.iterAt w.heap.size s (pos + wd)).heap.size := ⟨_, rfl⟩
      rw [← hN] at hbk ⊢
      obtain ⟨h1, h2, h3, hNw⟩ := hbk
      clear hnx hit hb
      generalize (wo.iterAt w.heap.size s (pos + wd)).iter set 0 = W1 at *
      clear hN
      go_loopw [7, 9] (fun b _ w' => ∃ (j : Nat) (x : Bool), b = .bool x ∧ j ≤ set.size ∧ w'.heap[N]? = some (.stringIter set j) ∧ w'.heap[w.heap.size]? = some (.stringIter s (pos + wd)) ∧ Below w.heap.size w w' ∧ Hid ((x || hasRune (set.data.toList.drop j) c) = hasRune set.data.toList c)) (fun _ _ w' => set.size - w'.iterPos N)
      case atStart => exact ⟨0, false, rfl, Nat.zero_le _, h3, h1, h2, Lib.hid (Bool.false_or _)⟩
      case round =>
        clear h1 h2 h3
        obtain ⟨j, x, rfl, hj, hi1, hi2, hb, hq⟩ := hrel
        have Hm2 := Lib.hid (iterPos_of hi1)
        by_cases hlt : j < set.size
        · have hnx : ∀ ty, (Instr.next (.pointer (some ⟨N, 0, none⟩)) true ty).run Tryz.prog wr = _ := fun ty => run_next_any_at wr N set j ty hi1 hlt
          have hr := round_rune set ha c j hlt
          generalize Utf8.decode set j = dc at *
          obtain ⟨d, wd2⟩ := dc
          have HR2 := Lib.hid hr.1
          obtain rfl : wd2 = 1 := hr.2
          clear hr
          simp only at HR2
          have HF : Hid (((x || (c : Int) == (d : Int)) || hasRune (set.data.toList.drop (j + 1)) c) = hasRune set.data.toList c) := by
            refine Lib.hid ?_
            rw [← hq.out, HR2.out, Bool.or_assoc]
            congr 2
            rw [Bool.eq_iff_iff, beq_iff_eq, beq_iff_eq]
            omega
          cases x
          all_goals
            go_wp2
            go_roundw
            case rel => exact ⟨j + 1, _, rfl, by omega, iterAt_heap _ _ _ _ _ hi1, (iterAt_other _ _ _ _ _ (by omega)).trans hi2, below_iterAt hb (by omega) _ _, HF⟩
            case measure => rw [iterPos_of (iterAt_heap wr N set j (j + 1) hi1), Hm2.out]; omega
        · have hnx : ∀ ty, (Instr.next (.pointer (some ⟨N, 0, none⟩)) true ty).run Tryz.prog wr = _ := fun ty => run_next_end_at wr N set j ty hi1 hlt
          have HX : Hid (hasRune set.data.toList c = x) := by
            refine Lib.hid ?_
            rw [← hq.out, show set.data.toList.drop j = [] from List.drop_eq_nil_of_le (by have := size_data set; omega)]
            simp [hasRune]
          cases x
          · have HF := Lib.hid (HR.out.2 HX.out)
            go_wp2
            go_ret
            exact ⟨ret_string (drop_ba s pos _ (by rw [← hh.out, HF.out])), hb⟩
          · have HF := Lib.hid (HR.out.1 HX.out).1
            go_wp2
            go_roundw
            case rel => exact ⟨pos + wd, hle, hi2, hb, Lib.hid (by rw [← HF.out]; exact hh.out)⟩
            case measure => rw [iterPos_of hi2, Hm.out]; omega
    · have hnx : ∀ ty, (Instr.next (.pointer (some ⟨w.heap.size, 0, none⟩)) true ty).run Tryz.prog wo = _ := fun ty => run_next_end_at wo w.heap.size s pos ty hit hp
      go_wp2
      go_ret
      refine ⟨ret_string ?_, hb⟩
      rw [← hh.out, List.drop_eq_nil_of_le (by have := size_data s; omega)]
      rfl

theorem take_ba (s : ByteArray) (p : Nat) : s.extract 0 p = ⟨(s.data.toList.take p).toArray⟩ := by
  have h := Lib.extract_data s 0 p
  rw [List.drop_zero, Nat.sub_zero] at h
  rw [← h, toList_toArray]
def strLen : Value → Nat
  | .string s => s.size
  | _ => 0

set_option maxHeartbeats 1000000 in
theorem cutRight_any (s set : ByteArray) (w : World) (hs : s.size ≤ 140737488351232) (ha : Ascii set.data.toList) (hT : Lib.Utf8Tabs 3 4 w) :
    Calls Tryz.prog 136 #[.string s, .string set] w fun e w' => e = .returned (.string ⟨(rtrim set.data.toList s.data.toList).toArray⟩) ∧ Below w.heap.size w w' := by
  have HT := Lib.hid hT
  clear hT
  go_enter Tryz.func136, Tryz.ntmps136
  go_wp2
  go_loopw [0] (fun v w' => ∃ t : ByteArray, v = .string t ∧ t.size ≤ 140737488351232 ∧ Below w.heap.size w w' ∧ Hid (rtrim set.data.toList t.data.toList = rtrim set.data.toList s.data.toList)) (fun v _ => strLen v)
  case atStart => exact ⟨s, rfl, hs, Below.refl _ _, Lib.hid rfl⟩
  case round =>
    obtain ⟨wo, rfl⟩ : ∃ wo : World, wo = wr := ⟨_, rfl⟩
    obtain ⟨t, rfl, hts, hb, hh⟩ := hrel
    have hT := Utf8Tabs_below HT.out hb
    by_cases hp : 0 < t.size
    · have hr := round_right t.data.toList set.data.toList ha (by rw [size_data]; exact hp)
      have hwd := decodeLastL_width t.data.toList (by rw [size_data]; exact hp)
      have hC := Tryz.utf8_DecodeLastRuneInString t wo (by omega) hT
      rw [size_data] at hwd
      generalize Lib.decodeLastL t.data.toList = dc at *
      obtain ⟨c, wd⟩ := dc
      simp only at hwd hr hC
      have HR := Lib.hid hr
      have HC := Lib.hid hC
      clear hr hT hC
      go_wp2_with (go_at_call 174; refine HC.out.mono ?_; rintro e w1 ⟨rfl, hb1⟩)
      have hlt1 : w.heap.size ≤ w1.heap.size := Nat.le_trans hb.size hb1.size
      have h2 : Below w.heap.size w (w1.iter set 0) := (hb.trans (hb1.mono hb.size)).alloc hlt1 _
      have h3 : (w1.iter set 0).heap[w1.heap.size]? = some (.stringIter set 0) := World.iter_heap _ _ _
      obtain ⟨N, hN⟩ : ∃ N, N = w1.heap.size := ⟨_, rfl⟩
      rw [← hN] at h3 ⊢
      have hNw : w.heap.size ≤ N := by omega
      clear hb hb1 hlt1
      generalize w1.iter set 0 = W1 at *
      clear hN HC
      go_loopw [7, 9] (fun b _ w' => ∃ (j : Nat) (x : Bool), b = .bool x ∧ j ≤ set.size ∧ w'.heap[N]? = some (.stringIter set j) ∧ Below w.heap.size w w' ∧ Hid ((x || hasRune (set.data.toList.drop j) c) = hasRune set.data.toList c)) (fun _ _ w' => set.size - w'.iterPos N)
      case atStart => exact ⟨0, false, rfl, Nat.zero_le _, h3, h2, Lib.hid (Bool.false_or _)⟩
      case round =>
        clear h2 h3
        obtain ⟨j, x, rfl, hj, hi1, hb, hq⟩ := hrel
        have Hm2 := Lib.hid (iterPos_of hi1)
        by_cases hlt : j < set.size
        · have hnx : ∀ ty, (Instr.next (.pointer (some ⟨N, 0, none⟩)) true ty).run Tryz.prog wr = _ := fun ty => run_next_any_at wr N set j ty hi1 hlt
          have hr := round_rune set ha c j hlt
          generalize Utf8.decode set j = dc at *
          obtain ⟨d, wd2⟩ := dc
          have HR2 := Lib.hid hr.1
          obtain rfl : wd2 = 1 := hr.2
          clear hr
          simp only at HR2
          have HF : Hid (((x || (c : Int) == (d : Int)) || hasRune (set.data.toList.drop (j + 1)) c) = hasRune set.data.toList c) := by
            refine Lib.hid ?_
            rw [← hq.out, HR2.out, Bool.or_assoc]
            congr 2
            rw [Bool.eq_iff_iff, beq_iff_eq, beq_iff_eq]
            omega
          cases x
          all_goals
            go_wp2
            go_roundw
            case rel => exact ⟨j + 1, _, rfl, by omega, iterAt_heap _ _ _ _ _ hi1, below_iterAt hb (by omega) _ _, HF⟩
            case measure => rw [iterPos_of (iterAt_heap wr N set j (j + 1) hi1), Hm2.out]; omega
        · have hnx : ∀ ty, (Instr.next (.pointer (some ⟨N, 0, none⟩)) true ty).run Tryz.prog wr = _ := fun ty => run_next_end_at wr N set j ty hi1 hlt
          have HX : Hid (hasRune set.data.toList c = x) := by
            refine Lib.hid ?_
            rw [← hq.out, show set.data.toList.drop j = [] from List.drop_eq_nil_of_le (by have := size_data set; omega)]
            simp [hasRune]
          cases x
          · have HF := Lib.hid (HR.out.2 HX.out)
            go_wp2
            go_ret
            exact ⟨ret_string (by rw [← hh.out, HF.out, toList_toArray]), hb⟩
          · have HF := Lib.hid (HR.out.1 HX.out).1
            have hone : (t.size : Int) - (wd : Int) = ((t.size - wd : Nat) : Int) := by omega
            have hle : t.size - wd ≤ t.size := by omega
            go_wp2
            go_roundw
            case rel =>
              refine ⟨t.extract 0 (t.size - wd), ?_, ?_, hb, Lib.hid ?_⟩
              · first | rfl | (simp; done)
              · rw [ByteArray.size_extract]; omega
              · rw [take_ba, ← hh.out, HF.out, size_data]
            case measure =>
              have hx : (t.extract 0 (t.size - wd)).size < t.size := by rw [ByteArray.size_extract]; omega
              exact hx
    · have hz : t.size = 0 := by omega
      go_wp2
      go_ret
      refine ⟨ret_string ?_, hb⟩
      have ht : t.data.toList = [] := List.length_eq_zero_iff.1 (by rw [size_data]; exact hz)
      rw [← hh.out, ht, rtrim_nil, ← ht, toList_toArray]
end Go.Proofs.YtgdambmineeboaaGreatDoor.Runes
