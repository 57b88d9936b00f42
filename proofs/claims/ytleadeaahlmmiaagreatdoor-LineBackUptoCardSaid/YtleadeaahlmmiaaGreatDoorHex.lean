/- Numbers to the base 16, plainly. -/
import Derived.Lib.DecodeN
namespace Go.Proofs.YtleadeaahlmmiaaGreatDoor.Text

/-! ### numbers to the base 16 -/
def hexDigits : List UInt8 := [48, 49, 50, 51, 52, 53, 54, 55, 56, 57, 65, 66, 67, 68, 69, 70]
def hexDigit (d : Nat) : UInt8 := hexDigits.getD d 0
/-- The i lowest digits. -/
def lowHex : Nat → Nat → List UInt8
  | 0, _ => []
  | i + 1, p => lowHex i (p / 16) ++ [hexDigit (p % 16)]
/-- How many digits a number below 16^6 has. -/
def nd (p : Nat) : Nat := if p < 16 then 1 else if p < 256 then 2 else if p < 4096 then 3 else if p < 65536 then 4 else if p < 1048576 then 5 else 6
def hexL (p : Nat) : List UInt8 := lowHex (max 4 (nd p)) p

theorem lowHex_length : ∀ i p, (lowHex i p).length = i
  | 0, _ => rfl
  | i + 1, p => by simp [lowHex, lowHex_length i]
theorem lowHex_cons : ∀ i p, lowHex (i + 1) p = hexDigit (p / 16 ^ i % 16) :: lowHex i p
  | 0, p => by simp [lowHex]
  | i + 1, p => by
    rw [lowHex, lowHex_cons i (p / 16), lowHex]
    rw [Nat.div_div_eq_div_mul, show 16 * 16 ^ i = 16 ^ (i + 1) from by rw [Nat.pow_succ, Nat.mul_comm]]
    rfl
theorem lowHex_pad : ∀ j i p, p / 16 ^ i = 0 → lowHex (i + j) p = List.replicate j 48 ++ lowHex i p
  | 0, i, p, _ => rfl
  | j + 1, i, p, h => by
    rw [← Nat.add_assoc, lowHex_cons, lowHex_pad j i p h]
    have h0 : p / 16 ^ (i + j) = 0 := by
      rw [Nat.pow_add, ← Nat.div_div_eq_div_mul, h, Nat.zero_div]
    rw [h0]
    rfl
theorem nd_le (p : Nat) : 1 ≤ nd p ∧ nd p ≤ 6 := by unfold nd; constructor <;> (repeat' split) <;> omega
theorem nd_zero (p : Nat) (h : p < 16777216) : p / 16 ^ nd p = 0 := by
  unfold nd
  repeat' split
  all_goals (simp only [Nat.reducePow]; omega)
theorem nd_pos (p i : Nat) (h : p < 16777216) (hi : 4 ≤ i) (h6 : i ≤ 6) : 0 < p / 16 ^ i ↔ i < nd p := by
  have : i = 4 ∨ i = 5 ∨ i = 6 := by omega
  unfold nd
  rcases this with rfl | rfl | rfl <;> (simp only [Nat.reducePow]; repeat' split) <;> omega
theorem hexL_eq (p : Nat) (h : p < 16777216) : hexL p = List.replicate (4 - nd p) 48 ++ lowHex (nd p) p := by
  unfold hexL
  rw [show max 4 (nd p) = nd p + (4 - nd p) from by omega]
  exact lowHex_pad _ _ _ (nd_zero p h)
theorem digit_cut : ∀ d : Nat, d < 16 → ((⟨#[48, 49, 50, 51, 52, 53, 54, 55, 56, 57, 65, 66, 67, 68, 69, 70]⟩ : ByteArray).extract d (d + 1)).data.toList = [hexDigit d] := by decide +kernel
end Go.Proofs.YtleadeaahlmmiaaGreatDoor.Text
