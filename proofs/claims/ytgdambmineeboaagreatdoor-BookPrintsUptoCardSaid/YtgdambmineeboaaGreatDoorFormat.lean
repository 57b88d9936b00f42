/- Numbers to the base 16, plainly. -/
import Derived.Lib.DecodeN
import Derived.Test.YtgdambmineeboaaGreatDoorPrint
import Derived.Deep.QuietTactic
import Derived.BigQuiet
import Derived.Laws.IdiomStrings
import Derived.Lib.Walk
import Derived.Lib.ItoaMem
import Derived.Laws.BitsLemmas
import Derived.Laws.Bits64b
set_option linter.unusedSimpArgs false
set_option linter.unusedVariables false
namespace Go.Proofs.YtgdambmineeboaaGreatDoor.Text

/-! ### numbers to the base 16 -/
def hexDigits : List UInt8 := [48, 49, 50, 51, 52, 53, 54, 55, 56, 57, 65, 66, 67, 68, 69, 70]
def hexDigit (d : Nat) : UInt8 := hexDigits.getD d 0
/-- The i lowest digits. -/
def lowHex : Nat → Nat → List UInt8
  | 0, _ => []
  | i + 1, p => lowHex i (p / 16) ++ [hexDigit (p % 16)]
/-- How many digits a number below 16^6 has. -/
def nd (p : Nat) : Nat := if p < 16 then 1 else if p < 256 then 2 else if p < 4096 then 3 else if p < 65536 then 4 else if p < 1048576 then 5 else 6
def hexL (p : Nat) : List UInt8 := lowHex (max 4 (nd p)) p

theorem lowHex_length : ∀ i p, (lowHex i p).length = i
  | 0, _ => rfl
  | i + 1, p => by simp [lowHex, lowHex_length i]
theorem lowHex_cons : ∀ i p, lowHex (i + 1) p = hexDigit (p / 16 ^ i % 16) :: lowHex i p
  | 0, p => by simp [lowHex]
  | i + 1, p => by
    rw [lowHex, lowHex_cons i (p / 16), lowHex]
    rw [Nat.div_div_eq_div_mul, show 16 * 16 ^ i = 16 ^ (i + 1) from by rw [Nat.pow_succ, Nat.mul_comm]]
    rfl
theorem lowHex_pad : ∀ j i p, p / 16 ^ i = 0 → lowHex (i + j) p = List.replicate j 48 ++ lowHex i p
  | 0, i, p, _ => rfl
  | j + 1, i, p, h => by
    rw [← Nat.add_assoc, lowHex_cons, lowHex_pad j i p h]
    have h0 : p / 16 ^ (i + j) = 0 := by
      rw [Nat.pow_add, ← Nat.div_div_eq_div_mul, h, Nat.zero_div]
    rw [h0]
    rfl
theorem nd_le (p : Nat) : 1 ≤ nd p ∧ nd p ≤ 6 := by unfold nd; constructor <;> (repeat' split) <;> omega
theorem nd_zero (p : Nat) (h : p < 16777216) : p / 16 ^ nd p = 0 := by
  unfold nd
  repeat' split
  all_goals (simp only [Nat.reducePow]; omega)
theorem nd_pos (p i : Nat) (h : p < 16777216) (hi : 4 ≤ i) (h6 : i ≤ 6) : 0 < p / 16 ^ i ↔ i < nd p := by
  have : i = 4 ∨ i = 5 ∨ i = 6 := by omega
  unfold nd
  rcases this with rfl | rfl | rfl <;> (simp only [Nat.reducePow]; repeat' split) <;> omega
theorem hexL_eq (p : Nat) (h : p < 16777216) : hexL p = List.replicate (4 - nd p) 48 ++ lowHex (nd p) p := by
  unfold hexL
  rw [show max 4 (nd p) = nd p + (4 - nd p) from by omega]
  exact lowHex_pad _ _ _ (nd_zero p h)
theorem digit_cut : ∀ d : Nat, d < 16 → ((⟨#[48, 49, 50, 51, 52, 53, 54, 55, 56, 57, 65, 66, 67, 68, 69, 70]⟩ : ByteArray).extract d (d + 1)).data.toList = [hexDigit d] := by decide +kernel
end Go.Proofs.YtgdambmineeboaaGreatDoor.Text

/- Plain facts about code points told in digits; a list of code points in memory. -/
namespace Go.Proofs.YtgdambmineeboaaGreatDoor.RefNine
open Go.RowKit Go.Lib Go.Proofs.YtgdambmineeboaaGreatDoor.Text Go.Proofs.YtgdambmineeboaaGreatDoor.Runes Go.Proofs.YtgdambmineeboaaGreatDoor.Print

def Quiet (w w' : World) : Prop := ∃ n, w' = w.drewN n
theorem Quiet.refl (w : World) : Quiet w w := ⟨0, rfl⟩
theorem Quiet.more {w w' : World} (h : Quiet w w') (n : Nat) : Quiet w (w'.drewN n) := by
  obtain ⟨m, rfl⟩ := h
  exact ⟨m + n, by rw [World.drewN_drewN]⟩
theorem Quiet.trans {w w' w'' : World} (h : Quiet w w') (h2 : Quiet w' w'') : Quiet w w'' := by
  obtain ⟨m, rfl⟩ := h2
  exact h.more m

theorem getD_at (s : ByteArray) (i : Nat) (h : i < s.size) : s.data.toList.getD i 0 = s[i] := by
  have : i < s.data.toList.length := by rw [size_data]; exact h
  rw [List.getD_eq_getElem?_getD, List.getElem?_eq_getElem this]
  rfl

theorem take_data (s : ByteArray) (p : Nat) : (s.extract 0 p).data.toList = s.data.toList.take p := by rw [take_ba]
theorem contains_blank (c : UInt8) : ([32, 9] : List UInt8).contains c = ((c.toNat : Int) == 32 || (c.toNat : Int) == 9) := by
  rw [Bool.eq_iff_iff]
  simp only [List.contains_cons, List.contains_nil, Bool.or_false, Bool.or_eq_true, beq_iff_eq]
  constructor
  · rintro (rfl | rfl)
    · exact .inl rfl
    · exact .inr rfl
  · rintro (h | h)
    · exact .inl (UInt8.toNat_inj.1 (by show c.toNat = 32; omega))
    · exact .inr (UInt8.toNat_inj.1 (by show c.toNat = 9; omega))

theorem right_cases (r : ByteArray) : (∃ (h' : r.size - 1 < r.size), ((r[r.size - 1].toNat : Int) == 32) = true ∧ rtrim [32, 9] r.data.toList = rtrim [32, 9] (r.data.toList.take (r.size - 1))) ∨ (∃ (h' : r.size - 1 < r.size), ((r[r.size - 1].toNat : Int) == 32) = false ∧ ((r[r.size - 1].toNat : Int) == 9) = true ∧ rtrim [32, 9] r.data.toList = rtrim [32, 9] (r.data.toList.take (r.size - 1)))
            ∨ (∃ (h' : r.size - 1 < r.size), ((r[r.size - 1].toNat : Int) == 32) = false ∧ ((r[r.size - 1].toNat : Int) == 9) = false ∧ rtrim [32, 9] r.data.toList = r.data.toList) ∨ (r.size ≤ 0 ∧ rtrim [32, 9] r.data.toList = r.data.toList) := by
  by_cases hp : 0 < r.size
  · have h' : r.size - 1 < r.size := by omega
    have hd : r.data.toList = r.data.toList.take (r.size - 1) ++ [r[r.size - 1]] := by
      rw [← getD_at r (r.size - 1) h']
      have h2 : r.size - 1 < r.data.toList.length := by rw [size_data]; exact h'
      have := List.take_append_getElem h2
      rw [List.getD_eq_getElem?_getD, List.getElem?_eq_getElem h2]
      simp only [Option.getD_some]
      rw [this, List.take_of_length_le (by rw [size_data]; omega)]
    have hl := rtrim_snoc [32, 9] (r.data.toList.take (r.size - 1)) r[r.size - 1]
    rw [← hd, contains_blank] at hl
    by_cases h1 : ((r[r.size - 1].toNat : Int) == 32) = true
    · exact .inl ⟨h', h1, by rw [hl, h1]; rfl⟩
    · have h1' := Bool.eq_false_iff.2 h1
      by_cases h2 : ((r[r.size - 1].toNat : Int) == 9) = true
      · exact .inr (.inl ⟨h', h1', h2, by rw [hl, h1', h2]; rfl⟩)
      · exact .inr (.inr (.inl ⟨h', h1', Bool.eq_false_iff.2 h2, by rw [hl, h1', Bool.eq_false_iff.2 h2]; rfl⟩))
  · refine .inr (.inr (.inr ⟨by omega, ?_⟩))
    rw [List.length_eq_zero_iff.1 (by rw [size_data]; omega : r.data.toList.length = 0)]
    rfl

/-- A slice of runes in memory. -/
def Rs (w : World) (a : Option Addr) (l : List Int) : Prop :=
  l = [] ∨ ∃ bk o, a = some ⟨bk, o, none⟩ ∧ bk < w.heap.size ∧ ∀ (j : Nat) x, l[j]? = some x → w.cell? ⟨bk, o + j, none⟩ = some (.int .i32 x)
theorem Rs.below {w w' : World} {a : Option Addr} {l : List Int} (h : Rs w a l) (hb : Below w.heap.size w w') : Rs w' a l := by
  rcases h with h | ⟨bk, o, h1, h2, h3⟩
  · exact .inl h
  · exact .inr ⟨bk, o, h1, Nat.lt_of_lt_of_le h2 hb.size, fun j x hx => (hb.cell (p := ⟨bk, o + j, none⟩) h2).trans (h3 j x hx)⟩
theorem Quiet.below {w w' : World} (h : Quiet w w') : Below w.heap.size w w' := by
  obtain ⟨n, rfl⟩ := h
  exact ⟨rfl, rfl, rfl, Nat.le_refl _, fun i _ => rfl⟩

def badRune (x : Int) : Bool := decide (x < 0) || decide (x > 1114111)
def tellText (l : List Int) : List UInt8 := Lib.join (l.map fun x => hexL x.toNat) [32]
def TellPost (l : List Int) (R : World → World → Prop) (w : World) (e : Ending) (w' : World) : Prop :=
  e = .returned (if l.any badRune then .tuple #[.string ⟨#[]⟩, .int .i64 90] else .tuple #[.string ⟨(tellText l).toArray⟩, .int .i64 0]) ∧ R w w'

theorem any_bad (l : List Int) (i : Nat) (x : Int) (h : l[i]? = some x) (hb : badRune x = true) : l.any badRune = true :=
  List.any_eq_true.2 ⟨x, List.mem_of_getElem? h, hb⟩
theorem take_snoc' {α : Type} (l : List α) (i : Nat) (x : α) (h : l[i]? = some x) : l.take (i + 1) = l.take i ++ [x] := by
  obtain ⟨hlt, rfl⟩ := List.getElem?_eq_some_iff.1 h
  rw [List.take_append_getElem hlt]
theorem join_snoc (xs : List (List UInt8)) (x sep : List UInt8) : Lib.join (xs ++ [x]) sep = if xs = [] then x else Lib.join xs sep ++ sep ++ x := by
  cases xs with
  | nil => simp [Lib.join_one]
  | cons y r =>
    rw [if_neg (by simp), List.cons_append, Lib.join_cons, Lib.join_cons]
    simp [Lib.joinTail]

end Go.Proofs.YtgdambmineeboaaGreatDoor.RefNine

/- Plain facts about joined texts. -/
namespace Go.Proofs.YtgdambmineeboaaGreatDoor.RefPrint
open Go.RowKit Go.Lib Go.Proofs.YtgdambmineeboaaGreatDoor.Text Go.Proofs.YtgdambmineeboaaGreatDoor.Runes Go.Proofs.YtgdambmineeboaaGreatDoor.Print Go.Proofs.YtgdambmineeboaaGreatDoor.RefNine

theorem below_quiet {B : Nat} {w w' : World} (h : Below B w w') (n : Nat) : Below B w (w'.drewN n) := h.trans ⟨rfl, rfl, rfl, Nat.le_refl _, fun _ _ => rfl⟩

theorem join_append_le (sep : List UInt8) : ∀ (ys xs : List (List UInt8)), (Lib.join xs sep).length ≤ (Lib.join (xs ++ ys) sep).length
  | [], xs => by simp
  | y :: ys, xs => by
    have h1 := join_append_le sep ys (xs ++ [y])
    rw [List.append_assoc] at h1
    refine Nat.le_trans ?_ h1
    rw [join_snoc]
    split
    · rename_i h; subst h; simp [Lib.join_nil]
    · simp only [List.length_append]; omega
theorem join_take_le (l : List ByteArray) (sep : List UInt8) (i : Nat) : (Lib.join ((l.take i).map (·.data.toList)) sep).length ≤ (Lib.join (l.map (·.data.toList)) sep).length := by
  have := join_append_le sep ((l.drop i).map (·.data.toList)) ((l.take i).map (·.data.toList))
  rwa [← List.map_append, List.take_append_drop] at this
theorem join_step (l : List ByteArray) (sep : List UInt8) (i : Nat) (y : ByteArray) (h : l[i]? = some y) :
    Lib.join ((l.take (i + 1)).map (·.data.toList)) sep = if i = 0 then y.data.toList else Lib.join ((l.take i).map (·.data.toList)) sep ++ sep ++ y.data.toList := by
  rw [take_snoc' l i y h, List.map_append, List.map_cons, List.map_nil, join_snoc]
  by_cases h0 : i = 0
  · subst h0; simp
  · rw [if_neg h0, if_neg]
    intro h1
    have h2 : (l.take i).length = 0 := by rw [List.map_eq_nil_iff.1 h1]; rfl
    have h3 := (List.getElem?_eq_some_iff.1 h).1
    rw [List.length_take] at h2
    omega
theorem bad_at (l : List ByteArray) (i : Nat) (y : ByteArray) (h : l[i]? = some y) (hb : plainB [10, 13, 59, 35] y.data.toList = false) : badField l = true :=
  List.any_eq_true.2 ⟨y, List.mem_of_getElem? h, by simp only [hb]; rfl⟩
theorem bad_step (l : List ByteArray) (i : Nat) (y : ByteArray) (h : l[i]? = some y) (hb : plainB [10, 13, 59, 35] y.data.toList = true) (h0 : badField (l.take i) = false) : badField (l.take (i + 1)) = false := by
  unfold badField at *
  rw [take_snoc' l i y h, List.any_append, h0]
  simp [hb]
/-- A boxed line, behind draws. -/
theorem boxed_drawn (w : World) (cs : Array Value) (T : TypeId) (n : Nat) (i : Nat) (v : Value) (h : cs[i]? = some v) : ((w.alloc (.cells cs T (0, 0))).drewN n).cell? ⟨w.heap.size, i, none⟩ = some v := by
  rw [World.cell?_drewN, World.cell?_alloc_new]
  exact h

end Go.Proofs.YtgdambmineeboaaGreatDoor.RefPrint

/- strconv.FormatInt at base 16, of numbers below 16^6. -/
namespace Go.Proofs.YtgdambmineeboaaGreatDoor.Format
open Go.RowKit Go.Lib Go.Proofs.YtgdambmineeboaaGreatDoor.Text Go.Proofs.YtgdambmineeboaaGreatDoor.Runes Go.Proofs.YtgdambmineeboaaGreatDoor.Print Go.Proofs.YtgdambmineeboaaGreatDoor.RefNine Go.Proofs.YtgdambmineeboaaGreatDoor.RefPrint

def loDigits : List UInt8 := [48, 49, 50, 51, 52, 53, 54, 55, 56, 57, 97, 98, 99, 100, 101, 102]
def loDigit (d : Nat) : UInt8 := loDigits.getD d 0
def lowLo : Nat → Nat → List UInt8
  | 0, _ => []
  | i + 1, p => lowLo i (p / 16) ++ [loDigit (p % 16)]

theorem tz_any (w : World) (h : w.cell? ⟨6, 15, none⟩ = some (.int .u8 4)) :
    Calls Tryz.prog 199 #[.int .u64 16] w fun e w' => e = .returned (.int .i64 4) ∧ w = w' := by
  go_enter Tryz.func199, Tryz.ntmps199
  have e1 : bits BinOp.and IntKind.u64 16 (IntKind.u64.wrap (-16)) = 16 := by decide +kernel
  have e2 : IntKind.u64.wrap (16 * 285870213051353865) = 4573923408821661840 := by decide +kernel
  go_wp2
  go_ret
  exact ⟨rfl, rfl⟩

theorem pow2_any (w : World) :
    Calls Tryz.prog 198 #[.int .i64 16] w fun e w' => e = .returned (.bool true) ∧ w = w' := by
  have e1 : bits BinOp.and IntKind.i64 16 15 = 0 := by decide +kernel
  go_enter Tryz.func198, Tryz.ntmps198
  go_wp2
  go_ret
  exact ⟨rfl, rfl⟩

theorem block_lt {w : World} {b : Nat} {o : Obj} (h : w.heap[b]? = some o) : b < w.heap.size := (Array.getElem?_eq_some_iff.1 h).1
theorem block_cell {w : World} {b i : Nat} {cs : Array Value} {t : TypeId} (h : w.heap[b]? = some (.cells cs t (0, 0))) : w.cell? ⟨b, i, none⟩ = cs[i]? := by simp [World.cell?, h]
theorem block_free {w : World} {b i : Nat} {cs : Array Value} {t : TypeId} (h : w.heap[b]? = some (.cells cs t (0, 0))) : w.frozen? ⟨b, i, none⟩ = false := by simp [World.frozen?, h]
theorem block_set {w : World} {b i : Nat} {v : Value} {cs : Array Value} {t : TypeId} (h : w.heap[b]? = some (.cells cs t (0, 0))) :
    (w.setCell ⟨b, i, none⟩ v).heap[b]? = some (.cells (cs.setIfInBounds i v) t (0, 0)) := by
  have hlt := block_lt h
  have h' : w.heap[b] = .cells cs t (0, 0) := by simpa [Array.getElem?_eq_getElem hlt] using h
  show (w.heap.modify b _)[b]? = _
  rw [Array.getElem?_eq_getElem (by simpa using hlt), Array.getElem_modify_self, h']
  rfl

theorem lowLo_length : ∀ i p, (lowLo i p).length = i
  | 0, _ => rfl
  | i + 1, p => by simp [lowLo, lowLo_length i]
theorem lowLo_cons : ∀ i p, lowLo (i + 1) p = loDigit (p / 16 ^ i % 16) :: lowLo i p
  | 0, p => by simp [lowLo]
  | i + 1, p => by
    rw [lowLo, lowLo_cons i (p / 16), lowLo]
    rw [Nat.div_div_eq_div_mul, show 16 * 16 ^ i = 16 ^ (i + 1) from by rw [Nat.pow_succ, Nat.mul_comm]]
    rfl
/-- The cells of a row, from the end, hold the lowest digits. -/
def Tail (cs : Array Value) (k p : Nat) : Prop := cs.size = 65 ∧ ∀ (j : Nat) b, (lowLo k p)[j]? = some b → cs[65 - k + j]? = some (.int .u8 (b.toNat : Int))
theorem Tail.step {cs : Array Value} {k p : Nat} (h : Tail cs k p) (hk : k < 65) (d : Int) (hd : d = ((loDigit (p / 16 ^ k % 16)).toNat : Int)) : Tail (cs.setIfInBounds (64 - k) (.int .u8 d)) (k + 1) p := by
  refine ⟨by rw [Array.size_setIfInBounds]; exact h.1, fun j b hj => ?_⟩
  rw [lowLo_cons] at hj
  cases j with
  | zero =>
    simp only [List.getElem?_cons_zero, Option.some.injEq] at hj
    subst hj
    rw [show 65 - (k + 1) + 0 = 64 - k from by omega, Array.getElem?_setIfInBounds_self_of_lt (by rw [h.1]; omega), hd]
  | succ j =>
    rw [List.getElem?_cons_succ] at hj
    rw [Array.getElem?_setIfInBounds_ne (by omega), show 65 - (k + 1) + (j + 1) = 65 - k + j from by omega]
    exact h.2 j b hj
theorem lo_byte : ∀ d : Nat, d < 16 → (⟨#[48, 49, 50, 51, 52, 53, 54, 55, 56, 57, 97, 98, 99, 100, 101, 102, 103, 104, 105, 106, 107, 108, 109, 110, 111, 112, 113, 114, 115, 116, 117, 118, 119, 120, 121, 122]⟩ : ByteArray).data.toList.getD d 0 = loDigit d := by decide +kernel

theorem lo_at (d : Nat) (h : d < (⟨#[48, 49, 50, 51, 52, 53, 54, 55, 56, 57, 97, 98, 99, 100, 101, 102, 103, 104, 105, 106, 107, 108, 109, 110, 111, 112, 113, 114, 115, 116, 117, 118, 119, 120, 121, 122]⟩ : ByteArray).size) (h16 : d < 16) : (⟨#[48, 49, 50, 51, 52, 53, 54, 55, 56, 57, 97, 98, 99, 100, 101, 102, 103, 104, 105, 106, 107, 108, 109, 110, 111, 112, 113, 114, 115, 116, 117, 118, 119, 120, 121, 122]⟩ : ByteArray)[d]'h = loDigit d := by
  rw [← RefNine.getD_at _ d h]
  exact lo_byte d h16
theorem store_tail {w : World} {b : Nat} {cs : Array Value} {t : TypeId} {k p : Nat} {d : Int} (hh : w.heap[b]? = some (.cells cs t (0, 0))) (ht : Tail cs k p) (hk : k < 65) (hd : d = ((loDigit (p / 16 ^ k % 16)).toNat : Int)) :
    ∃ cs', (w.setCell ⟨b, 65 - k - 1, none⟩ (.int .u8 d)).heap[b]? = some (.cells cs' t (0, 0)) ∧ Tail cs' (k + 1) p := by
  refine ⟨_, block_set hh, ?_⟩
  rw [show 65 - k - 1 = 64 - k from by omega]
  exact ht.step hk d hd
theorem nd_more (p k : Nat) (hp : p < 16777216) (hk : k < 6) (h : 16 ≤ p / 16 ^ k) : k + 1 < nd p := by
  have : k = 0 ∨ k = 1 ∨ k = 2 ∨ k = 3 ∨ k = 4 ∨ k = 5 := by omega
  unfold nd
  rcases this with rfl | rfl | rfl | rfl | rfl | rfl <;> (simp only [Nat.reducePow] at h; repeat' split) <;> omega
theorem nd_last (p k : Nat) (hp : p < 16777216) (hk : k < nd p) (h : ¬ 16 ≤ p / 16 ^ k) : k + 1 = nd p := by
  have := nd_le p
  have h6 : k = 0 ∨ k = 1 ∨ k = 2 ∨ k = 3 ∨ k = 4 ∨ k = 5 := by omega
  unfold nd at *
  rcases h6 with rfl | rfl | rfl | rfl | rfl | rfl <;> (simp only [Nat.reducePow] at h) <;> (repeat' split at hk) <;> (repeat' split) <;> omega

set_option maxRecDepth 100000 in
set_option maxHeartbeats 1000000 in
theorem formatBits_any (p : Nat) (w : World) (hp : p < 16777216) (h : w.cell? ⟨6, 15, none⟩ = some (.int .u8 4)) (hB : 6 < w.heap.size) :
    Calls Tryz.prog 170 #[.slice none 0 0, .int .u64 p, .int .i64 16, .bool false, .bool false] w fun e w' => e = .returned (.tuple #[.slice none 0 0, .string ⟨(lowLo (nd p) p).toArray⟩]) ∧ Below w.heap.size w w' := by
  go_enter Tryz.func170, Tryz.ntmps170
  have hz : ∀ o, (w.alloc o).cell? ⟨6, 15, none⟩ = some (.int .u8 4) := fun o => (World.cell?_alloc_lt (w := w) (o := o) (a := ⟨6, 15, none⟩) hB).trans h
  have HZ := Lib.hid hz
  clear hz
  go_wp2_with (go_at_call 198; refine (pow2_any _).mono ?_; rintro e w1 ⟨rfl, rfl⟩)
  refine (tz_any _ (HZ.out _)).mono ?_
  rintro e w1 ⟨rfl, rfl⟩
  go_wp2_with fail
  have hz : (w.alloc (.cells Tryz.zeroCells237 237 (0, 0))).heap[w.heap.size]? = some (.cells Tryz.zeroCells237 237 (0, 0)) := heap_alloc_new _ _
  have hn := nd_le p
  go_loopw [1, 13] (fun a b w' => ∃ (k q : Nat) (cs : Array Value), a = .int .u64 q ∧ b = .int .i64 ((65 - k : Nat) : Int) ∧ k < nd p ∧ q < 16777216 ∧ Hid (q = p / 16 ^ k) ∧ w'.heap[w.heap.size]? = some (.cells cs 237 (0, 0)) ∧ Tail cs k p ∧ Below w.heap.size w w') (fun a _ _ => (intOf a).toNat)
  case atStart => exact ⟨0, p, _, rfl, rfl, by omega, hp, Lib.hid (by simp), hz, ⟨Tryz.zeroCells237_size, fun j b hj => by simp [lowLo] at hj⟩, (Below.refl _ _).alloc (Nat.le_refl _) _⟩
  case round =>
    obtain ⟨k, q, cs, rfl, rfl, hk, hq, hqp, hh, ht, hb⟩ := hrel
    have hcell : wr.cell? ⟨w.heap.size, 65 - k - 1, none⟩ = some (cs[65 - k - 1]'(by rw [ht.1]; omega)) := (block_cell hh).trans (Array.getElem?_eq_getElem _)
    have hfree : wr.frozen? ⟨w.heap.size, 65 - k - 1, none⟩ = false := block_free hh
    have HH := Lib.hid hh
    clear hh hz
    by_cases hc : 16 ≤ q
    · have e1 : bits BinOp.and IntKind.u64 (q : Int) 15 = ((q % 16 : Nat) : Int) := by
        rw [← Nat.and_two_pow_sub_one_eq_mod q 4]
        exact bits_and_u64_nat q 15 (by omega) (by decide)
      have hmod : q % 16 < 16 := Nat.mod_lt _ (by decide)
      have hk1 : k + 1 < nd p := nd_more p k hp (by omega) (by rw [← hqp.out]; exact hc)
      go_wp2
      go_roundw
      case rel =>
        obtain ⟨cs', h1, h2⟩ := store_tail HH.out ht (by omega) (congrArg (fun c : UInt8 => (c.toNat : Int)) ((lo_at (q % 16) (by have : (⟨#[48, 49, 50, 51, 52, 53, 54, 55, 56, 57, 97, 98, 99, 100, 101, 102, 103, 104, 105, 106, 107, 108, 109, 110, 111, 112, 113, 114, 115, 116, 117, 118, 119, 120, 121, 122]⟩ : ByteArray).size = 36 := rfl; omega) hmod).trans (by rw [hqp.out])))
        exact ⟨k + 1, q / 16, cs', by go_num, by congr 1; omega, hk1, by omega, Lib.hid (by rw [hqp.out, Nat.div_div_eq_div_mul, Nat.pow_succ]), h1, h2, hb.setCell (Nat.le_refl _) _⟩
      case measure => simp [intOf]; omega
    · have hk1 : k + 1 = nd p := nd_last p k hp hk (by rw [← hqp.out]; exact hc)
      have hq36 : q < (⟨#[48, 49, 50, 51, 52, 53, 54, 55, 56, 57, 97, 98, 99, 100, 101, 102, 103, 104, 105, 106, 107, 108, 109, 110, 111, 112, 113, 114, 115, 116, 117, 118, 119, 120, 121, 122]⟩ : ByteArray).size := by have : (⟨#[48, 49, 50, 51, 52, 53, 54, 55, 56, 57, 97, 98, 99, 100, 101, 102, 103, 104, 105, 106, 107, 108, 109, 110, 111, 112, 113, 114, 115, 116, 117, 118, 119, 120, 121, 122]⟩ : ByteArray).size = 36 := rfl; omega
      have hal : Tryz.prog.arrayLen 237 = 65 := by kernel_rfl
      have hsl : ∀ W, (Instr.sliceAt 237 (.pointer (some ⟨w.heap.size, 0, none⟩)) (some (.int .i64 (((65 - k : Nat) : Int) - 1))) none none).run Tryz.prog W = .ok (.slice (some ⟨w.heap.size, 65 - k - 1, none⟩) (k + 1) (k + 1)) W := fun W => by
        rw [run_sliceAt_array_l W 237 ⟨w.heap.size, 0, none⟩ (by kernel_rfl) .i64 (((65 - k : Nat) : Int) - 1) (by omega) (by rw [hal]; omega)]
        go_simp
        omega
      have hcv : (convert 57 9 (.slice (some ⟨w.heap.size, 65 - k - 1, none⟩) (k + 1) (k + 1))).run Tryz.prog (wr.setCell ⟨w.heap.size, 65 - k - 1, none⟩ (.int .u8 (((⟨#[48, 49, 50, 51, 52, 53, 54, 55, 56, 57, 97, 98, 99, 100, 101, 102, 103, 104, 105, 106, 107, 108, 109, 110, 111, 112, 113, 114, 115, 116, 117, 118, 119, 120, 121, 122]⟩ : ByteArray)[q]'hq36).toNat : Int))) =
          .ok (.string ⟨(lowLo (nd p) p).toArray⟩) (wr.setCell ⟨w.heap.size, 65 - k - 1, none⟩ (.int .u8 (((⟨#[48, 49, 50, 51, 52, 53, 54, 55, 56, 57, 97, 98, 99, 100, 101, 102, 103, 104, 105, 106, 107, 108, 109, 110, 111, 112, 113, 114, 115, 116, 117, 118, 119, 120, 121, 122]⟩ : ByteArray)[q]'hq36).toNat : Int))) := by
        obtain ⟨cs', h1, h2⟩ := store_tail HH.out ht (by omega) (congrArg (fun c : UInt8 => (c.toNat : Int)) ((lo_at q hq36 (by omega)).trans (by rw [← hqp.out, Nat.mod_eq_of_lt (by omega)])))
        have h := run_convert_bytes_back (P := Tryz.prog) (wr.setCell ⟨w.heap.size, 65 - k - 1, none⟩ (.int .u8 (((⟨#[48, 49, 50, 51, 52, 53, 54, 55, 56, 57, 97, 98, 99, 100, 101, 102, 103, 104, 105, 106, 107, 108, 109, 110, 111, 112, 113, 114, 115, 116, 117, 118, 119, 120, 121, 122]⟩ : ByteArray)[q]'hq36).toNat : Int))) 57 9 5 ⟨w.heap.size, 65 - k - 1, none⟩ (k + 1) (lowLo (k + 1) p) Tryz.underlying57 Tryz.underlying5 Tryz.underlying9 (fun j hj => by
          rw [Lib.add_plain, block_cell h1, show 65 - k - 1 + j = 65 - (k + 1) + j from by omega]
          exact h2.2 j _ (List.getElem?_eq_getElem hj))
        rw [lowLo_length] at h
        rw [← hk1]
        exact h
      have HK := Lib.hid hk1
      clear hk1 hal
      go_wp2
      go_ret2
      exact ⟨rfl, hb.setCell (Nat.le_refl _) _⟩

theorem formatInt_any (p : Nat) (w : World) (hp : p < 16777216) (h : w.cell? ⟨6, 15, none⟩ = some (.int .u8 4)) (hB : 6 < w.heap.size) :
    Calls Tryz.prog 131 #[.int .i64 p, .int .i64 16] w fun e w' => e = .returned (.string ⟨(lowLo (nd p) p).toArray⟩) ∧ Below w.heap.size w w' := by
  have HC := Lib.hid (formatBits_any p w hp h hB)
  have hd : decide ((p : Int) < 0) = false := by simp
  clear h
  go_enter Tryz.func131, Tryz.ntmps131
  go_wp2_with (go_at_call 170; refine HC.out.mono ?_; rintro e w1 ⟨rfl, hb⟩)
  go_ret
  exact ⟨rfl, hb⟩

theorem formatInt_pub (p : Nat) (w : World) (hp : p < 16777216) (h : w.cell? ⟨6, 15, none⟩ = some (.int .u8 4)) (hB : 6 < w.heap.size) :
    Calls Tryz.prog 73 #[.int .i64 p, .int .i64 16] w fun e w' => e = .returned (.string ⟨(lowLo (nd p) p).toArray⟩) ∧ Below w.heap.size w w' := by
  have HC := Lib.hid (formatInt_any p w hp h hB)
  clear h
  go_enter Tryz.func73, Tryz.ntmps73
  go_wp2_with (go_at_call 131; refine HC.out.mono ?_; rintro e w1 ⟨rfl, hb⟩)
  go_ret
  exact ⟨rfl, hb⟩
end Go.Proofs.YtgdambmineeboaaGreatDoor.Format
