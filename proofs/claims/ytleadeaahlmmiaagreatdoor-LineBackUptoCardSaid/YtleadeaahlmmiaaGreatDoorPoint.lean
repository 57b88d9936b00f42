/- The walks of octet.Digit, Number and line.Point, of what a number is told in. -/
import Derived.Test.YtleadeaahlmmiaaGreatDoorGiven
import Derived.Laws.Externs
namespace Go.Proofs.YtleadeaahlmmiaaGreatDoor.Point
open Go.RowKit Go.Lib Go.Proofs.YtleadeaahlmmiaaGreatDoor.Text Go.Proofs.YtleadeaahlmmiaaGreatDoor.Runes Go.Proofs.YtleadeaahlmmiaaGreatDoor.Print Go.Proofs.YtleadeaahlmmiaaGreatDoor.RefNine Go.Proofs.YtleadeaahlmmiaaGreatDoor.Format

theorem idx36 : ∀ d : Nat, d < 16 → Lib.indexByte ([48, 49, 50, 51, 52, 53, 54, 55, 56, 57, 97, 98, 99, 100, 101, 102, 103, 104, 105, 106, 107, 108, 109, 110, 111, 112, 113, 114, 115, 116, 117, 118, 119, 120, 121, 122] : List UInt8) (loDigit d) = (d : Int) := by decide +kernel

theorem class_low (b : Int) (w : World) (h0 : 48 ≤ b) (h1 : b ≤ 57) : Calls Tryz.prog 76 #[.int .u8 b] w fun e w' => e = .returned (.int .i64 9) ∧ w = w' := by
  go_enter Tryz.func76, Tryz.ntmps76
  go_wp2
  go_ret
  exact ⟨rfl, rfl⟩
theorem class_up (b : Int) (w : World) (h0 : 65 ≤ b) (h1 : b ≤ 70) : Calls Tryz.prog 76 #[.int .u8 b] w fun e w' => e = .returned (.int .i64 10) ∧ w = w' := by
  go_enter Tryz.func76, Tryz.ntmps76
  go_wp2
  go_ret
  exact ⟨rfl, rfl⟩

theorem lo_char : ∀ d : Nat, d < 16 → ((((loDigit d).toNat : Nat) : Int)).toNat.toUInt8 = loDigit d := by decide +kernel
theorem lo_num : ∀ d : Nat, d < 16 → ((loDigit d).toNat : Int) = if d < 10 then (d : Int) + 48 else (d : Int) + 87 := by decide +kernel
theorem up_num : ∀ d : Nat, d < 16 → ((Text.hexDigit d).toNat : Int) = if d < 10 then (d : Int) + 48 else (d : Int) + 55 := by decide +kernel

theorem index_any (d : Nat) (c : Int) (w : World) (h : d < 16) (hc : c = ((loDigit d).toNat : Int)) :
    Calls Tryz.prog 77 #[.string ⟨#[48, 49, 50, 51, 52, 53, 54, 55, 56, 57, 97, 98, 99, 100, 101, 102, 103, 104, 105, 106, 107, 108, 109, 110, 111, 112, 113, 114, 115, 116, 117, 118, 119, 120, 121, 122]⟩, .int .u8 c] w fun e w' => e = .returned (.int .i64 d) ∧ w = w' := by
  refine (Tryz.strings_IndexByte _ c w).mono ?_
  rintro e w' ⟨rfl, rfl⟩
  subst hc
  rw [lo_char d h]
  exact ⟨congrArg (fun z => Ending.returned (.int .i64 z)) (idx36 d h), rfl⟩

theorem digit_low (d : Nat) (w : World) (h : d < 10) : Calls Tryz.prog 49 #[.int .u8 ((d : Int) + 48), .int .i64 16] w fun e w' => e = .returned (.int .i64 d) ∧ w = w' := by
  have hC := Lib.hid (fun W => class_low ((d : Int) + 48) W (by omega) (by omega))
  have hI := Lib.hid (fun W => index_any d ((d : Int) + 48) W (by omega) (by rw [lo_num d (by omega), if_pos h]))
  have e1 : (bits BinOp.and IntKind.i64 9 2 != 0) = false := by decide +kernel
  go_enter Tryz.func49, Tryz.ntmps49
  go_wp2_with (first | (go_at_call 76; refine (hC.out _).mono ?_; rintro e w1 ⟨rfl, rfl⟩) | (go_at_call 77; refine (hI.out _).mono ?_; rintro e w1 ⟨rfl, rfl⟩))
  go_ret
  exact ⟨rfl, rfl⟩
theorem digit_up (d : Nat) (w : World) (h0 : 10 ≤ d) (h : d < 16) : Calls Tryz.prog 49 #[.int .u8 ((d : Int) + 55), .int .i64 16] w fun e w' => e = .returned (.int .i64 d) ∧ w = w' := by
  have hC := Lib.hid (fun W => class_up ((d : Int) + 55) W (by omega) (by omega))
  have hI := Lib.hid (fun W => index_any d ((d : Int) + 55 + 32) W (by omega) (by rw [lo_num d (by omega), if_neg (by omega)]; omega))
  have e1 : (bits BinOp.and IntKind.i64 10 2 != 0) = true := by decide +kernel
  go_enter Tryz.func49, Tryz.ntmps49
  go_wp2_with (first | (go_at_call 76; refine (hC.out _).mono ?_; rintro e w1 ⟨rfl, rfl⟩) | (go_at_call 77; refine (hI.out _).mono ?_; rintro e w1 ⟨rfl, rfl⟩))
  go_ret
  exact ⟨rfl, rfl⟩
theorem digit_any (d : Nat) (w : World) (h : d < 16) : Calls Tryz.prog 49 #[.int .u8 ((Text.hexDigit d).toNat : Int), .int .i64 16] w fun e w' => e = .returned (.int .i64 d) ∧ w = w' := by
  rw [up_num d h]
  split
  · exact digit_low d w (by omega)
  · exact digit_up d w (by omega) h

theorem lowHex_at : ∀ (k n i : Nat), i < k → (lowHex k n)[i]? = some (Text.hexDigit (n / 16 ^ (k - 1 - i) % 16))
  | 0, _, _, h => by omega
  | k + 1, n, 0, _ => by rw [lowHex_cons]; rfl
  | k + 1, n, i + 1, h => by
    rw [lowHex_cons, List.getElem?_cons_succ, lowHex_at k n i (by omega)]
    rw [show k + 1 - 1 - (i + 1) = k - 1 - i from by omega]
theorem hex_step (n k i : Nat) (h : i < k) : n / 16 ^ (k - i) * 16 + n / 16 ^ (k - 1 - i) % 16 = n / 16 ^ (k - (i + 1)) := by
  rw [show k - (i + 1) = k - 1 - i from by omega, show k - i = (k - 1 - i) + 1 from by omega, Nat.pow_succ, ← Nat.div_div_eq_div_mul]
  omega

theorem add64_any (x y : Int) (W : World) (hx : 0 ≤ x) (hy : 0 ≤ y) (h : x + y < 4294967296) :
    (callFunc 51 #[.int .u64 x, .int .u64 y, .int .u64 0]).run Tryz.prog W = .ok (.value (.tuple #[.int .u64 (x + y), .int .u64 0])) W := by
  rw [run_callFunc_extern Tryz.func51 (by kernel_rfl) (by kernel_rfl) (by kernel_rfl) (e := add64Entry) (by kernel_rfl), run_add64 x y 0 hx hy (by omega) (by omega)]
  simp only [Result.andThen]
  rw [show (x + y + 0) % 18446744073709551616 = x + y from by omega, show (x + y + 0) / 18446744073709551616 = 0 from by omega]

set_option maxRecDepth 100000 in
set_option maxHeartbeats 1000000 in
theorem number_any (s : ByteArray) (k n : Nat) (w : World) (hs : s.data.toList = lowHex k n) (h1 : 1 ≤ k) (h6 : k ≤ 6) (hn : n < 16777216) (hk : n / 16 ^ k = 0) :
    Calls Tryz.prog 28 #[.string s, .int .i64 16] w fun e w' => e = .returned (.tuple #[.int .u64 n, .int .i64 0, .int .i64 0]) ∧ w = w' := by
  have hsz : s.size = k := by rw [← size_data, hs, lowHex_length]
  have e0 : s.toList.isEmpty = false := by
    rw [ByteArray.toList_eq, List.isEmpty_eq_false_iff]
    intro h
    rw [← size_data, h] at hsz
    simp at hsz
    omega
  have hS := Lib.hid hs
  have hZ := Lib.hid hsz
  have hb : s.size ≤ 6 := by omega
  clear hs hsz
  go_enter Tryz.func28, Tryz.ntmps28
  go_wp2
  go_loopw [7, 8, 27] (fun a b c w' => ∃ i m : Nat, c = .int .i64 i ∧ a = .int .u64 m ∧ b = .bool false ∧ i ≤ s.size ∧ m < 16777216 ∧ Hid (m = n / 16 ^ (k - i)) ∧ w = w') (fun _ _ c _ => s.size - (intOf c).toNat)
  case atStart => exact ⟨0, 0, rfl, rfl, rfl, Nat.zero_le _, by omega, Lib.hid (by rw [Nat.sub_zero, hk]), rfl⟩
  case round =>
    obtain ⟨i, m, rfl, rfl, rfl, hi, hm, hmn, rfl⟩ := hrel
    by_cases hlt : i < s.size
    · have hik : i < k := by rw [hZ.out] at hlt; exact hlt
      have hbyte : s[i] = Text.hexDigit (n / 16 ^ (k - 1 - i) % 16) := by
        have h := lowHex_at k n i hik
        rw [← hS.out] at h
        rw [← RefNine.getD_at s i hlt, List.getD_eq_getElem?_getD, h]
        rfl
      have hd : n / 16 ^ (k - 1 - i) % 16 < 16 := Nat.mod_lt _ (by decide)
      have hstep := hex_step n k i hik
      have hD : ∀ W, Calls Tryz.prog 49 #[.int .u8 (s[i].toNat : Int), .int .i64 16] W fun e w' => e = .returned (.int .i64 ((n / 16 ^ (k - 1 - i) % 16 : Nat) : Int)) ∧ W = w' := fun W => by
        rw [hbyte]
        exact digit_any _ W hd
      have HD := Lib.hid hD
      have hle : n / 16 ^ (k - (i + 1)) ≤ n := Nat.div_le_self _ _
      rw [← hmn.out] at hstep
      have HST := Lib.hid hstep
      generalize n / 16 ^ (k - 1 - i) % 16 = d at *
      have hM : ∀ W, Calls Tryz.prog 50 #[.int .u64 m, .int .u64 16] W fun e w' => e = .returned (.tuple #[.int .u64 0, .int .u64 ((m : Int) * 16)]) ∧ W = w' := fun W => by
        refine (Tryz.bits_Mul64 m 16 (by omega) (by decide) W).mono ?_
        rintro e w' ⟨rfl, rfl⟩
        rw [show m * 16 / 18446744073709551616 = 0 from by omega, show m * 16 % 18446744073709551616 = m * 16 from by omega]
        exact ⟨rfl, rfl⟩
      have HM := Lib.hid hM
      have hA := fun W => add64_any ((m : Int) * 16) d W (by omega) (by omega) (by omega)
      clear hD hbyte hstep hM
      go_wp2_with (first | (go_at_call 49; refine (HD.out _).mono ?_; rintro e w1 ⟨rfl, rfl⟩) | (go_at_call 50; refine (HM.out _).mono ?_; rintro e w1 ⟨rfl, rfl⟩))
      go_roundw
      case rel => exact ⟨i + 1, m * 16 + d, by go_num, by go_num, rfl, by omega, by rw [HST.out]; omega, Lib.hid HST.out, trivial⟩
      case measure => simp [intOf]; omega
    · have HE : Hid (m = n) := Lib.hid (by rw [hmn.out, show k - i = 0 from by rw [hZ.out] at hlt; omega]; simp)
      go_wp2
      go_ret3
      exact ⟨by rw [HE.out]; rfl, rfl⟩

theorem point_any (s : ByteArray) (n : Nat) (w : World) (hs : s.data.toList = hexL n) (hn : n ≤ 1114111) :
    Calls Tryz.prog 13 #[.string s] w fun e w' => e = .returned (.tuple #[.int .i32 n, .int .i64 0]) ∧ w = w' := by
  have hnd := nd_le n
  have hsz : s.size = max 4 (nd n) := by rw [← size_data, hs]; unfold hexL; rw [lowHex_length]
  have hz : n / 16 ^ max 4 (nd n) = 0 := by
    rw [show max 4 (nd n) = nd n + (4 - nd n) from by omega, Nat.pow_add, ← Nat.div_div_eq_div_mul, nd_zero n (by omega), Nat.zero_div]
  have HC := Lib.hid (number_any s (max 4 (nd n)) n w hs (by omega) (by omega) (by omega) hz)
  have b1 : (4 : Int) ≤ (s.size : Int) := by omega
  have b2 : (s.size : Int) ≤ 6 := by omega
  clear hs hsz hz
  go_enter Tryz.func13, Tryz.ntmps13
  go_wp2_with (go_at_call 28; refine HC.out.mono ?_; rintro e w1 ⟨rfl, rfl⟩)
  go_ret2
  exact ⟨rfl, rfl⟩

theorem hex65 : (⟨#[48, 48, 52, 49]⟩ : ByteArray).data.toList = hexL 65 := by decide +kernel

theorem awake_any (w : World) : Calls Tryz.prog 4 #[] w fun e w' => e = .returned (.bool true) ∧ w = w' := by
  have HC := Lib.hid (point_any ⟨#[48, 48, 52, 49]⟩ 65 w hex65 (by decide))
  go_enter Tryz.func4, Tryz.ntmps4
  go_wp2_with (go_at_call 13; refine HC.out.mono ?_; rintro e w1 ⟨rfl, rfl⟩)
  go_ret
  exact ⟨rfl, rfl⟩
end Go.Proofs.YtleadeaahlmmiaaGreatDoor.Point
