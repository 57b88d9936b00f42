/- Plain facts about bytes and runes (no program in sight): where a text has a byte of an ASCII set; a text without such bytes at its ends. -/
import Derived.Lib.DecodeN
import Derived.Lib.TrimU
import Derived.Lib.TrimUEq
import Derived.Laws.RangeAny
namespace Go.Proofs.YtleadeaahlmmiaaGreatDoor.Text
open Go.Lib

/-- Does a list have a byte of a set? -/
def hasL (l set : List UInt8) : Bool := l.any fun c => set.contains c
/-- Without the bytes of a set ahead. -/
def ltrim (set l : List UInt8) : List UInt8 := l.dropWhile fun c => set.contains c
/-- Without the bytes of a set behind. -/
def rtrim (set l : List UInt8) : List UInt8 := (ltrim set l.reverse).reverse
def btrim (set l : List UInt8) : List UInt8 := rtrim set (ltrim set l)

def Ascii (l : List UInt8) : Prop := ∀ c ∈ l, c.toNat < 128

theorem size_data (s : ByteArray) : s.data.toList.length = s.size := by simp

/-- Of a byte above 127: the rune is above 127, its bytes are, and they lie in the text. -/
theorem decodeN_high (n b0 b1 b2 b3 : Nat) (hn : 0 < n) (h0 : 128 ≤ b0) :
    128 ≤ (decodeN n b0 b1 b2 b3).1 ∧ (decodeN n b0 b1 b2 b3).2 ≤ n ∧ (1 < (decodeN n b0 b1 b2 b3).2 → 128 ≤ b1) ∧ (2 < (decodeN n b0 b1 b2 b3).2 → 128 ≤ b2) ∧ (3 < (decodeN n b0 b1 b2 b3).2 → 128 ≤ b3) ∧ (decodeN n b0 b1 b2 b3).2 ≤ 4 := by
  unfold decodeN
  repeat' split
  all_goals (simp only; refine ⟨?_, ?_, ?_, ?_, ?_, ?_⟩ <;> omega)

theorem high_bytes (s : ByteArray) (pos : Nat) (h : pos < s.size) (ha : 128 ≤ (s.data.toList.getD pos 0).toNat) :
    128 ≤ (Utf8.decode s pos).1 ∧ pos + (Utf8.decode s pos).2 ≤ s.size ∧ ∀ j, j < (Utf8.decode s pos).2 → 128 ≤ (s.data.toList.getD (pos + j) 0).toNat := by
  rw [decode_N]
  have hs := size_data s
  obtain ⟨h1, h2, h3, h4, h5, h6⟩ := decodeN_high (s.data.toList.length - pos) (s.data.toList.getD pos 0).toNat (s.data.toList.getD (pos + 1) 0).toNat (s.data.toList.getD (pos + 2) 0).toNat (s.data.toList.getD (pos + 3) 0).toNat (by omega) ha
  refine ⟨h1, by omega, fun j hj => ?_⟩
  rcases j with _ | _ | _ | _ | j
  · exact ha
  · exact h3 (by omega)
  · exact h4 (by omega)
  · exact h5 (by omega)
  · omega

theorem low_bytes (s : ByteArray) (pos : Nat) (ha : (s.data.toList.getD pos 0).toNat < 128) : Utf8.decode s pos = ((s.data.toList.getD pos 0).toNat, 1) := by
  rw [decode_N]
  unfold decodeN
  rw [if_pos ha]

theorem drop_cons (l : List UInt8) (p : Nat) (h : p < l.length) : l.drop p = l.getD p 0 :: l.drop (p + 1) := by
  rw [List.drop_eq_getElem_cons h]
  simp [List.getD, h]

theorem not_in (set : List UInt8) (hs : Ascii set) (c : UInt8) (h : 128 ≤ c.toNat) : set.contains c = false := by
  rw [List.contains_eq_any_beq]
  rw [Bool.eq_false_iff]
  intro hc
  rw [List.any_eq_true] at hc
  obtain ⟨x, hx, he⟩ := hc
  have := hs x hx
  have : c = x := by simpa using he
  subst this
  omega

/-- A run of bytes above 127 is passed over. -/
theorem hasL_skip (l set : List UInt8) (hs : Ascii set) : ∀ (w p : Nat), p + w ≤ l.length → (∀ j, j < w → 128 ≤ (l.getD (p + j) 0).toNat) → hasL (l.drop p) set = hasL (l.drop (p + w)) set
  | 0, p, _, _ => rfl
  | w + 1, p, h, hb => by
    rw [drop_cons l p (by omega)]
    have h0 := not_in set hs (l.getD p 0) (hb 0 (by omega))
    have ih := hasL_skip l set hs w (p + 1) (by omega) (fun j hj => by have := hb (j + 1) (by omega); rwa [show p + (j + 1) = p + 1 + j from by omega] at this)
    rw [show p + (w + 1) = p + 1 + w from by omega, ← ih]
    show (set.contains (l.getD p 0) || hasL (l.drop (p + 1)) set) = _
    rw [h0, Bool.false_or]

/-- Is a rune among the bytes of a set? -/
def hasRune (set : List UInt8) (c : Nat) : Bool := set.any fun d => d.toNat == c

theorem hasRune_byte (set : List UInt8) (c : UInt8) : hasRune set c.toNat = set.contains c := by
  unfold hasRune
  rw [List.contains_eq_any_beq]
  congr 1
  funext d
  rw [Bool.eq_iff_iff]
  simp only [beq_iff_eq]
  constructor
  · intro h; exact (UInt8.toNat_inj.1 h).symm
  · intro h; rw [h]
theorem hasRune_high (set : List UInt8) (hs : Ascii set) (c : Nat) (h : 128 ≤ c) : hasRune set c = false := by
  unfold hasRune
  rw [Bool.eq_false_iff]
  intro hc
  rw [List.any_eq_true] at hc
  obtain ⟨x, hx, he⟩ := hc
  have := hs x hx
  have : x.toNat = c := by simpa using he
  omega

/-- One round of 'for _, c := range s': what it finds, and what is left. -/
theorem round_has (s : ByteArray) (set : List UInt8) (hs : Ascii set) (pos : Nat) (h : pos < s.size) :
    hasL (s.data.toList.drop pos) set = (hasRune set (Utf8.decode s pos).1 || hasL (s.data.toList.drop (pos + (Utf8.decode s pos).2)) set) ∧ pos + (Utf8.decode s pos).2 ≤ s.size := by
  have hsz := size_data s
  by_cases ha : (s.data.toList.getD pos 0).toNat < 128
  · rw [low_bytes s pos ha]
    simp only [hasRune_byte]
    refine ⟨?_, by omega⟩
    rw [drop_cons _ pos (by omega)]
    rfl
  · obtain ⟨h1, h2, h3⟩ := high_bytes s pos h (by omega)
    refine ⟨?_, h2⟩
    rw [hasRune_high set hs _ h1, Bool.false_or]
    exact hasL_skip _ set hs _ pos (by omega) h3

/-- One round of cutLeft. -/
theorem round_left (s : ByteArray) (set : List UInt8) (hs : Ascii set) (pos : Nat) (h : pos < s.size) :
    (hasRune set (Utf8.decode s pos).1 = true → ltrim set (s.data.toList.drop pos) = ltrim set (s.data.toList.drop (pos + (Utf8.decode s pos).2)) ∧ (Utf8.decode s pos).2 = 1) ∧
    (hasRune set (Utf8.decode s pos).1 = false → ltrim set (s.data.toList.drop pos) = s.data.toList.drop pos) := by
  have hsz := size_data s
  by_cases ha : (s.data.toList.getD pos 0).toNat < 128
  · rw [low_bytes s pos ha]
    simp only [hasRune_byte]
    rw [drop_cons _ pos (by omega)]
    refine ⟨fun hc => ⟨?_, by first | rfl | trivial⟩, fun hc => ?_⟩
    · simp only [ltrim, List.dropWhile_cons, hc, if_true]
    · simp only [ltrim, List.dropWhile_cons, hc, Bool.false_eq_true, if_false]
  · obtain ⟨h1, h2, h3⟩ := high_bytes s pos h (by omega)
    rw [hasRune_high set hs _ h1]
    refine ⟨fun hc => by simp at hc, fun _ => ?_⟩
    rw [drop_cons _ pos (by omega)]
    simp only [ltrim, List.dropWhile_cons, not_in set hs (s.data.toList.getD pos 0) (by omega), Bool.false_eq_true, if_false]

theorem rtrim_snoc (set l : List UInt8) (c : UInt8) : rtrim set (l ++ [c]) = if set.contains c = true then rtrim set l else l ++ [c] := by
  unfold rtrim ltrim
  rw [List.reverse_append]
  simp only [List.reverse_cons, List.reverse_nil, List.nil_append, List.singleton_append, List.dropWhile_cons]
  split <;> simp
theorem rtrim_nil (set : List UInt8) : rtrim set [] = [] := rfl

/-- One round of cutRight. -/
theorem round_right (l set : List UInt8) (hs : Ascii set) (h : 0 < l.length) :
    (hasRune set (decodeLastL l).1 = true → rtrim set l = rtrim set (l.take (l.length - (decodeLastL l).2)) ∧ (decodeLastL l).2 = 1) ∧
    (hasRune set (decodeLastL l).1 = false → rtrim set l = l) := by
  have hne : l ≠ [] := List.length_pos_iff.1 h
  obtain ⟨t, b, rfl⟩ : ∃ t b, l = t ++ [b] := ⟨l.dropLast, l.getLast hne, (List.dropLast_concat_getLast hne).symm⟩
  by_cases hb : b.toNat < 128
  · have hd : decodeLastL (t ++ [b]) = (b.toNat, 1) := by
      unfold decodeLastL
      simp [hb]
    rw [hd]
    simp only [hasRune_byte, rtrim_snoc]
    refine ⟨fun hc => ⟨?_, by first | rfl | trivial⟩, fun hc => ?_⟩
    · rw [if_pos hc]; simp
    · rw [if_neg (by rw [hc]; simp)]
  · have h1 : 128 ≤ (decodeLastL (t ++ [b])).1 := by
      have hc := last_cases (t ++ [b]) (t ++ [b]).length h (Nat.le_refl _)
      have hg : ((t ++ [b]).getD ((t ++ [b]).length - 1) 0) = b := by simp
      rw [hg] at hc
      have e0 : (t ++ [b]).take (t ++ [b]).length = t ++ [b] := List.take_length
      rw [e0] at hc
      rcases hc with ⟨h1, _⟩ | ⟨_, h2⟩ | ⟨_, st, hst, h2, h3⟩
      · omega
      · rw [h2]; decide
      · rw [h2]
        have hlen : (t ++ [b]).length = t.length + 1 := by simp
        by_cases h0 : (((t ++ [b]).drop st).getD 0 0).toNat < 128
        · rw [decodeL_N] at h3
          have e1 : (decodeN ((t ++ [b]).drop st).length (((t ++ [b]).drop st).getD 0 0).toNat (((t ++ [b]).drop st).getD 1 0).toNat (((t ++ [b]).drop st).getD 2 0).toNat (((t ++ [b]).drop st).getD 3 0).toNat).2 = 1 := by
            unfold decodeN
            rw [if_pos h0]
          rw [e1] at h3
          have e2 : st = t.length := by omega
          subst e2
          rw [List.drop_left] at h0
          simp at h0
          omega
        · rw [decodeL_N]
          exact (decodeN_high _ _ _ _ _ (by rw [List.length_drop]; omega) (by omega)).1
    rw [hasRune_high set hs _ h1]
    refine ⟨fun hc => by simp at hc, fun _ => ?_⟩
    rw [rtrim_snoc, not_in set hs b (by omega)]
    simp
/-- One round of 'for _, d := range set'. -/
theorem round_rune (set : ByteArray) (ha : Ascii set.data.toList) (c j : Nat) (h : j < set.size) :
    hasRune (set.data.toList.drop j) c = ((Utf8.decode set j).1 == c || hasRune (set.data.toList.drop (j + (Utf8.decode set j).2)) c) ∧ (Utf8.decode set j).2 = 1 := by
  have hsz := size_data set
  have hlow : (set.data.toList.getD j 0).toNat < 128 := ha _ (by
    have : j < set.data.toList.length := by omega
    rw [List.getD_eq_getElem?_getD, List.getElem?_eq_getElem this]
    exact List.getElem_mem this)
  rw [low_bytes set j hlow]
  refine ⟨?_, rfl⟩
  rw [drop_cons _ j (by omega)]
  rfl
end Go.Proofs.YtleadeaahlmmiaaGreatDoor.Text
