/- strconv.FormatInt at base 16, of numbers below 16^6. -/
import Derived.Test.YtleadeaahlmmiaaGreatDoorRefPrint
import Derived.Laws.IdiomStrings
import Derived.Lib.Walk
import Derived.Lib.ItoaMem
import Derived.Laws.BitsLemmas
import Derived.Laws.Bits64b
namespace Go.Proofs.YtleadeaahlmmiaaGreatDoor.Format
open Go.RowKit Go.Lib Go.Proofs.YtleadeaahlmmiaaGreatDoor.Text Go.Proofs.YtleadeaahlmmiaaGreatDoor.Runes Go.Proofs.YtleadeaahlmmiaaGreatDoor.Print Go.Proofs.YtleadeaahlmmiaaGreatDoor.RefNine Go.Proofs.YtleadeaahlmmiaaGreatDoor.RefPrint

def loDigits : List UInt8 := [48, 49, 50, 51, 52, 53, 54, 55, 56, 57, 97, 98, 99, 100, 101, 102]
def loDigit (d : Nat) : UInt8 := loDigits.getD d 0
def lowLo : Nat → Nat → List UInt8
  | 0, _ => []
  | i + 1, p => lowLo i (p / 16) ++ [loDigit (p % 16)]

theorem tz_any (w : World) (h : w.cell? ⟨6, 15, none⟩ = some (.int .u8 4)) :
    Calls Tryz.prog 98 #[.int .u64 16] w fun e w' => e = .returned (.int .i64 4) ∧ w = w' := by
  go_enter Tryz.func98, Tryz.ntmps98
  have e1 : bits BinOp.and IntKind.u64 16 (IntKind.u64.wrap (-16)) = 16 := by decide +kernel
  have e2 : IntKind.u64.wrap (16 * 285870213051353865) = 4573923408821661840 := by decide +kernel
  go_wp2
  go_ret
  exact ⟨rfl, rfl⟩

theorem pow2_any (w : World) :
    Calls Tryz.prog 97 #[.int .i64 16] w fun e w' => e = .returned (.bool true) ∧ w = w' := by
  have e1 : bits BinOp.and IntKind.i64 16 15 = 0 := by decide +kernel
  go_enter Tryz.func97, Tryz.ntmps97
  go_wp2
  go_ret
  exact ⟨rfl, rfl⟩

theorem block_lt {w : World} {b : Nat} {o : Obj} (h : w.heap[b]? = some o) : b < w.heap.size := (Array.getElem?_eq_some_iff.1 h).1
theorem block_cell {w : World} {b i : Nat} {cs : Array Value} {t : TypeId} (h : w.heap[b]? = some (.cells cs t (0, 0))) : w.cell? ⟨b, i, none⟩ = cs[i]? := by simp [World.cell?, h]
theorem block_free {w : World} {b i : Nat} {cs : Array Value} {t : TypeId} (h : w.heap[b]? = some (.cells cs t (0, 0))) : w.frozen? ⟨b, i, none⟩ = false := by simp [World.frozen?, h]
theorem block_set {w : World} {b i : Nat} {v : Value} {cs : Array Value} {t : TypeId} (h : w.heap[b]? = some (.cells cs t (0, 0))) :
    (w.setCell ⟨b, i, none⟩ v).heap[b]? = some (.cells (cs.setIfInBounds i v) t (0, 0)) := by
  have hlt := block_lt h
  have h' : w.heap[b] = .cells cs t (0, 0) := by simpa [Array.getElem?_eq_getElem hlt] using h
  show (w.heap.modify b _)[b]? = _
  rw [Array.getElem?_eq_getElem (by simpa using hlt), Array.getElem_modify_self, h']
  rfl

theorem lowLo_length : ∀ i p, (lowLo i p).length = i
  | 0, _ => rfl
  | i + 1, p => by simp [lowLo, lowLo_length i]
theorem lowLo_cons : ∀ i p, lowLo (i + 1) p = loDigit (p / 16 ^ i % 16) :: lowLo i p
  | 0, p => by simp [lowLo]
  | i + 1, p => by
    rw [lowLo, lowLo_cons i (p / 16), lowLo]
    rw [Nat.div_div_eq_div_mul, show 16 * 16 ^ i = 16 ^ (i + 1) from by rw [Nat.pow_succ, Nat.mul_comm]]
    rfl
/-- The cells of a row, from the end, hold the lowest digits. -/
def Tail (cs : Array Value) (k p : Nat) : Prop := cs.size = 65 ∧ ∀ (j : Nat) b, (lowLo k p)[j]? = some b → cs[65 - k + j]? = some (.int .u8 (b.toNat : Int))
theorem Tail.step {cs : Array Value} {k p : Nat} (h : Tail cs k p) (hk : k < 65) (d : Int) (hd : d = ((loDigit (p / 16 ^ k % 16)).toNat : Int)) : Tail (cs.setIfInBounds (64 - k) (.int .u8 d)) (k + 1) p := by
  refine ⟨by rw [Array.size_setIfInBounds]; exact h.1, fun j b hj => ?_⟩
  rw [lowLo_cons] at hj
  cases j with
  | zero =>
    simp only [List.getElem?_cons_zero, Option.some.injEq] at hj
    subst hj
    rw [show 65 - (k + 1) + 0 = 64 - k from by omega, Array.getElem?_setIfInBounds_self_of_lt (by rw [h.1]; omega), hd]
  | succ j =>
    rw [List.getElem?_cons_succ] at hj
    rw [Array.getElem?_setIfInBounds_ne (by omega), show 65 - (k + 1) + (j + 1) = 65 - k + j from by omega]
    exact h.2 j b hj
theorem lo_byte : ∀ d : Nat, d < 16 → (⟨#[48, 49, 50, 51, 52, 53, 54, 55, 56, 57, 97, 98, 99, 100, 101, 102, 103, 104, 105, 106, 107, 108, 109, 110, 111, 112, 113, 114, 115, 116, 117, 118, 119, 120, 121, 122]⟩ : ByteArray).data.toList.getD d 0 = loDigit d := by decide +kernel

theorem lo_at (d : Nat) (h : d < (⟨#[48, 49, 50, 51, 52, 53, 54, 55, 56, 57, 97, 98, 99, 100, 101, 102, 103, 104, 105, 106, 107, 108, 109, 110, 111, 112, 113, 114, 115, 116, 117, 118, 119, 120, 121, 122]⟩ : ByteArray).size) (h16 : d < 16) : (⟨#[48, 49, 50, 51, 52, 53, 54, 55, 56, 57, 97, 98, 99, 100, 101, 102, 103, 104, 105, 106, 107, 108, 109, 110, 111, 112, 113, 114, 115, 116, 117, 118, 119, 120, 121, 122]⟩ : ByteArray)[d]'h = loDigit d := by
  rw [← RefNine.getD_at _ d h]
  exact lo_byte d h16
theorem store_tail {w : World} {b : Nat} {cs : Array Value} {t : TypeId} {k p : Nat} {d : Int} (hh : w.heap[b]? = some (.cells cs t (0, 0))) (ht : Tail cs k p) (hk : k < 65) (hd : d = ((loDigit (p / 16 ^ k % 16)).toNat : Int)) :
    ∃ cs', (w.setCell ⟨b, 65 - k - 1, none⟩ (.int .u8 d)).heap[b]? = some (.cells cs' t (0, 0)) ∧ Tail cs' (k + 1) p := by
  refine ⟨_, block_set hh, ?_⟩
  rw [show 65 - k - 1 = 64 - k from by omega]
  exact ht.step hk d hd
theorem nd_more (p k : Nat) (hp : p < 16777216) (hk : k < 6) (h : 16 ≤ p / 16 ^ k) : k + 1 < nd p := by
  have : k = 0 ∨ k = 1 ∨ k = 2 ∨ k = 3 ∨ k = 4 ∨ k = 5 := by omega
  unfold nd
  rcases this with rfl | rfl | rfl | rfl | rfl | rfl <;> (simp only [Nat.reducePow] at h; repeat' split) <;> omega
theorem nd_last (p k : Nat) (hp : p < 16777216) (hk : k < nd p) (h : ¬ 16 ≤ p / 16 ^ k) : k + 1 = nd p := by
  have := nd_le p
  have h6 : k = 0 ∨ k = 1 ∨ k = 2 ∨ k = 3 ∨ k = 4 ∨ k = 5 := by omega
  unfold nd at *
  rcases h6 with rfl | rfl | rfl | rfl | rfl | rfl <;> (simp only [Nat.reducePow] at h) <;> (repeat' split at hk) <;> (repeat' split) <;> omega

set_option maxRecDepth 100000 in
set_option maxHeartbeats 1000000 in
theorem formatBits_any (p : Nat) (w : World) (hp : p < 16777216) (h : w.cell? ⟨6, 15, none⟩ = some (.int .u8 4)) (hB : 6 < w.heap.size) :
    Calls Tryz.prog 73 #[.slice none 0 0, .int .u64 p, .int .i64 16, .bool false, .bool false] w fun e w' => e = .returned (.tuple #[.slice none 0 0, .string ⟨(lowLo (nd p) p).toArray⟩]) ∧ Below w.heap.size w w' := by
  go_enter Tryz.func73, Tryz.ntmps73
  have hz : ∀ o, (w.alloc o).cell? ⟨6, 15, none⟩ = some (.int .u8 4) := fun o => (World.cell?_alloc_lt (w := w) (o := o) (a := ⟨6, 15, none⟩) hB).trans h
  have HZ := Lib.hid hz
  clear hz
  go_wp2_with (go_at_call 97; refine (pow2_any _).mono ?_; rintro e w1 ⟨rfl, rfl⟩)
  refine (tz_any _ (HZ.out _)).mono ?_
  rintro e w1 ⟨rfl, rfl⟩
  go_wp2_with fail
  have hz : (w.alloc (.cells Tryz.zeroCells126 126 (0, 0))).heap[w.heap.size]? = some (.cells Tryz.zeroCells126 126 (0, 0)) := heap_alloc_new _ _
  have hn := nd_le p
  go_loopw [1, 13] (fun a b w' => ∃ (k q : Nat) (cs : Array Value), a = .int .u64 q ∧ b = .int .i64 ((65 - k : Nat) : Int) ∧ k < nd p ∧ q < 16777216 ∧ Hid (q = p / 16 ^ k) ∧ w'.heap[w.heap.size]? = some (.cells cs 126 (0, 0)) ∧ Tail cs k p ∧ Below w.heap.size w w') (fun a _ _ => (intOf a).toNat)
  case atStart => exact ⟨0, p, _, rfl, rfl, by omega, hp, Lib.hid (by simp), hz, ⟨Tryz.zeroCells126_size, fun j b hj => by simp [lowLo] at hj⟩, (Below.refl _ _).alloc (Nat.le_refl _) _⟩
  case round =>
    obtain ⟨k, q, cs, rfl, rfl, hk, hq, hqp, hh, ht, hb⟩ := hrel
    have hcell : wr.cell? ⟨w.heap.size, 65 - k - 1, none⟩ = some (cs[65 - k - 1]'(by rw [ht.1]; omega)) := (block_cell hh).trans (Array.getElem?_eq_getElem _)
    have hfree : wr.frozen? ⟨w.heap.size, 65 - k - 1, none⟩ = false := block_free hh
    have HH := Lib.hid hh
    clear hh hz
    by_cases hc : 16 ≤ q
    · have e1 : bits BinOp.and IntKind.u64 (q : Int) 15 = ((q % 16 : Nat) : Int) := by
        rw [← Nat.and_two_pow_sub_one_eq_mod q 4]
        exact bits_and_u64_nat q 15 (by omega) (by decide)
      have hmod : q % 16 < 16 := Nat.mod_lt _ (by decide)
      have hk1 : k + 1 < nd p := nd_more p k hp (by omega) (by rw [← hqp.out]; exact hc)
      go_wp2
      go_roundw
      case rel =>
        obtain ⟨cs', h1, h2⟩ := store_tail HH.out ht (by omega) (congrArg (fun c : UInt8 => (c.toNat : Int)) ((lo_at (q % 16) (by have : (⟨#[48, 49, 50, 51, 52, 53, 54, 55, 56, 57, 97, 98, 99, 100, 101, 102, 103, 104, 105, 106, 107, 108, 109, 110, 111, 112, 113, 114, 115, 116, 117, 118, 119, 120, 121, 122]⟩ : ByteArray).size = 36 := rfl; omega) hmod).trans (by rw [hqp.out])))
        exact ⟨k + 1, q / 16, cs', by go_num, by congr 1; omega, hk1, by omega, Lib.hid (by rw [hqp.out, Nat.div_div_eq_div_mul, Nat.pow_succ]), h1, h2, hb.setCell (Nat.le_refl _) _⟩
      case measure => simp [intOf]; omega
    · have hk1 : k + 1 = nd p := nd_last p k hp hk (by rw [← hqp.out]; exact hc)
      have hq36 : q < (⟨#[48, 49, 50, 51, 52, 53, 54, 55, 56, 57, 97, 98, 99, 100, 101, 102, 103, 104, 105, 106, 107, 108, 109, 110, 111, 112, 113, 114, 115, 116, 117, 118, 119, 120, 121, 122]⟩ : ByteArray).size := by have : (⟨#[48, 49, 50, 51, 52, 53, 54, 55, 56, 57, 97, 98, 99, 100, 101, 102, 103, 104, 105, 106, 107, 108, 109, 110, 111, 112, 113, 114, 115, 116, 117, 118, 119, 120, 121, 122]⟩ : ByteArray).size = 36 := rfl; omega
      have hal : Tryz.prog.arrayLen 126 = 65 := by kernel_rfl
      have hsl : ∀ W, (Instr.sliceAt 126 (.pointer (some ⟨w.heap.size, 0, none⟩)) (some (.int .i64 (((65 - k : Nat) : Int) - 1))) none none).run Tryz.prog W = .ok (.slice (some ⟨w.heap.size, 65 - k - 1, none⟩) (k + 1) (k + 1)) W := fun W => by
        rw [run_sliceAt_array_l W 126 ⟨w.heap.size, 0, none⟩ (by kernel_rfl) .i64 (((65 - k : Nat) : Int) - 1) (by omega) (by rw [hal]; omega)]
        go_simp
        omega
      have hcv : (convert 65 9 (.slice (some ⟨w.heap.size, 65 - k - 1, none⟩) (k + 1) (k + 1))).run Tryz.prog (wr.setCell ⟨w.heap.size, 65 - k - 1, none⟩ (.int .u8 (((⟨#[48, 49, 50, 51, 52, 53, 54, 55, 56, 57, 97, 98, 99, 100, 101, 102, 103, 104, 105, 106, 107, 108, 109, 110, 111, 112, 113, 114, 115, 116, 117, 118, 119, 120, 121, 122]⟩ : ByteArray)[q]'hq36).toNat : Int))) =
          .ok (.string ⟨(lowLo (nd p) p).toArray⟩) (wr.setCell ⟨w.heap.size, 65 - k - 1, none⟩ (.int .u8 (((⟨#[48, 49, 50, 51, 52, 53, 54, 55, 56, 57, 97, 98, 99, 100, 101, 102, 103, 104, 105, 106, 107, 108, 109, 110, 111, 112, 113, 114, 115, 116, 117, 118, 119, 120, 121, 122]⟩ : ByteArray)[q]'hq36).toNat : Int))) := by
        obtain ⟨cs', h1, h2⟩ := store_tail HH.out ht (by omega) (congrArg (fun c : UInt8 => (c.toNat : Int)) ((lo_at q hq36 (by omega)).trans (by rw [← hqp.out, Nat.mod_eq_of_lt (by omega)])))
        have h := run_convert_bytes_back (P := Tryz.prog) (wr.setCell ⟨w.heap.size, 65 - k - 1, none⟩ (.int .u8 (((⟨#[48, 49, 50, 51, 52, 53, 54, 55, 56, 57, 97, 98, 99, 100, 101, 102, 103, 104, 105, 106, 107, 108, 109, 110, 111, 112, 113, 114, 115, 116, 117, 118, 119, 120, 121, 122]⟩ : ByteArray)[q]'hq36).toNat : Int))) 65 9 5 ⟨w.heap.size, 65 - k - 1, none⟩ (k + 1) (lowLo (k + 1) p) Tryz.underlying65 Tryz.underlying5 Tryz.underlying9 (fun j hj => by
          rw [Lib.add_plain, block_cell h1, show 65 - k - 1 + j = 65 - (k + 1) + j from by omega]
          exact h2.2 j _ (List.getElem?_eq_getElem hj))
        rw [lowLo_length] at h
        rw [← hk1]
        exact h
      have HK := Lib.hid hk1
      clear hk1 hal
      go_wp2
      go_ret2
      exact ⟨rfl, hb.setCell (Nat.le_refl _) _⟩

theorem formatInt_any (p : Nat) (w : World) (hp : p < 16777216) (h : w.cell? ⟨6, 15, none⟩ = some (.int .u8 4)) (hB : 6 < w.heap.size) :
    Calls Tryz.prog 43 #[.int .i64 p, .int .i64 16] w fun e w' => e = .returned (.string ⟨(lowLo (nd p) p).toArray⟩) ∧ Below w.heap.size w w' := by
  have HC := Lib.hid (formatBits_any p w hp h hB)
  have hd : decide ((p : Int) < 0) = false := by simp
  clear h
  go_enter Tryz.func43, Tryz.ntmps43
  go_wp2_with (go_at_call 73; refine HC.out.mono ?_; rintro e w1 ⟨rfl, hb⟩)
  go_ret
  exact ⟨rfl, hb⟩

theorem formatInt_pub (p : Nat) (w : World) (hp : p < 16777216) (h : w.cell? ⟨6, 15, none⟩ = some (.int .u8 4)) (hB : 6 < w.heap.size) :
    Calls Tryz.prog 24 #[.int .i64 p, .int .i64 16] w fun e w' => e = .returned (.string ⟨(lowLo (nd p) p).toArray⟩) ∧ Below w.heap.size w w' := by
  have HC := Lib.hid (formatInt_any p w hp h hB)
  clear h
  go_enter Tryz.func24, Tryz.ntmps24
  go_wp2_with (go_at_call 43; refine HC.out.mono ?_; rintro e w1 ⟨rfl, hb⟩)
  go_ret
  exact ⟨rfl, hb⟩
end Go.Proofs.YtleadeaahlmmiaaGreatDoor.Format
