/- The walks of what book.Print tells numbers by. -/
import Derived.Test.YtgdambmineeboaaGreatDoorBVals
import Derived.Test.YtgdambmineeboaaGreatDoorBCheckAll
import Derived.Lib.ItoaMem
import Derived.Lib.AppendIntMem
import Derived.Lib.LaidTab
import Derived.Test.YtgdambmineeboaaGreatDoorBRefText
set_option linter.unusedSimpArgs false
set_option linter.unusedVariables false
namespace Go.Proofs.YtgdambmineeboaaGreatDoor.Tells10
open Go.RowKit Go.Lib Go.Proofs.YtgdambmineeboaaGreatDoor.Text Go.Proofs.YtgdambmineeboaaGreatDoor.Runes Go.Proofs.YtgdambmineeboaaGreatDoor.Print Go.Proofs.YtgdambmineeboaaGreatDoor.RefNine Go.Proofs.YtgdambmineeboaaGreatDoor.RefPrint Go.Proofs.YtgdambmineeboaaGreatDoor.Format Go.Proofs.YtgdambmineeboaaGreatDoor.Tell Go.Proofs.YtgdambmineeboaaGreatDoor.Given Go.Proofs.YtgdambmineeboaaGreatDoor.Mem Go.Proofs.YtgdambmineeboaaGreatDoor.Book Go.Proofs.YtgdambmineeboaaGreatDoor.Told Go.Proofs.YtgdambmineeboaaGreatDoor.Listed Go.Proofs.YtgdambmineeboaaGreatDoor.Lines10 Go.Proofs.YtgdambmineeboaaGreatDoor.Dirs Go.Proofs.YtgdambmineeboaaGreatDoor.Apart Go.Proofs.YtgdambmineeboaaGreatDoor.Put Go.Proofs.YtgdambmineeboaaGreatDoor.Vals10
/-- The table of powers of ten is laid. -/
def Tens (w : World) : Prop := Lib.TabIs Tryz.prog w "internal/strconv.uint64pow10" .u64 Lib.pow10Tab
theorem Tens.below {w w' : World} (h : Tens w) (hb : Below w.heap.size w w') : Tens w' := by
  have hg : Tryz.prog.globalNamed "internal/strconv.uint64pow10" = some 1 := by kernel_rfl
  unfold Tens Lib.TabIs World.var? at h ⊢
  rw [hg] at h ⊢
  simp only [Option.bind_some] at h ⊢
  have hlt : (1 : Nat) < w.heap.size := by
    rcases Nat.lt_or_ge 1 w.heap.size with h' | h'
    · exact h'
    · rw [Array.getElem?_eq_none h'] at h; cases h
  rw [hb.block 1 hlt]
  exact h
theorem number_any (n : Nat) (w : World) (hn : n < 1000) (hT : Tens w) : Calls Tryz.prog 22 #[.int .i64 n] w fun e w' => e = .returned (.string ⟨(Lib.decDigits n).toArray⟩) ∧ Below w.heap.size w w' := by
  have HC : Hid (Calls Tryz.prog 79 #[.int .i64 n] w fun e w' => e = .returned (.string ⟨(Lib.decDigits n).toArray⟩) ∧ Below w.heap.size w w') := Lib.hid (by
    refine (Tryz.strconv_Itoa n (by omega) (by omega) w hT).mono ?_
    rintro e w' ⟨rfl, k, os, rfl⟩
    rw [Lib.itoa_nonneg]
    exact ⟨rfl, Lib.below_grow _ _ (Nat.le_refl _) _ _⟩)
  clear hT
  go_enter Tryz.func22, Tryz.ntmps22
  go_wp2_with (go_at_call 79; refine HC.out.mono ?_; rintro e w1 ⟨rfl, hb1⟩)
  go_ret
  exact ⟨rfl, hb1⟩
theorem dirName_any (n : Nat) (s : ByteArray) (w : World) (hs : dirs[n]? = some s) : Calls Tryz.prog 23 #[.int .i64 n] w fun e w' => e = .returned (.string s) ∧ Below w.heap.size w w' := by
  have hn : n < 23 := (List.getElem?_eq_some_iff.1 hs).1
  have HS := Lib.hid hs
  clear hs
  go_enter Tryz.func23, Tryz.ntmps23
  go_wp2_with fail
  refine (dirs_any _).mono ?_
  rintro e w1 ⟨da, dc, rfl, hds, hb1, hdc⟩
  rcases hds with h0 | ⟨bk, o, rfl, hbk, hc⟩
  · exact absurd h0 (by decide)
  have hcell := hc n s HS.out
  clear hc
  have hb2 : Below w.heap.size w w1 := by first | exact hb1 | exact ((Below.refl _ _).drew).trans hb1
  go_wp2_with fail
  go_ret
  exact ⟨rfl, hb2⟩
theorem joinName_any (n : Nat) (s : ByteArray) (w : World) (hs : joins[n]? = some s) : Calls Tryz.prog 25 #[.int .i64 n] w fun e w' => e = .returned (.string s) ∧ Below w.heap.size w w' := by
  have hn : n < 6 := (List.getElem?_eq_some_iff.1 hs).1
  have HS := Lib.hid hs
  clear hs
  go_enter Tryz.func25, Tryz.ntmps25
  go_wp2_with fail
  refine (joins_any _).mono ?_
  rintro e w1 ⟨da, dc, rfl, hds, hb1, hdc⟩
  rcases hds with h0 | ⟨bk, o, rfl, hbk, hc⟩
  · exact absurd h0 (by decide)
  have hcell := hc n s HS.out
  clear hc
  have hb2 : Below w.heap.size w w1 := by first | exact hb1 | exact ((Below.refl _ _).drew).trans hb1
  go_wp2_with fail
  go_ret
  exact ⟨rfl, hb2⟩
theorem scriptName_any (l : List ByteArray) (na : Option Addr) (nc BB n : Nat) (s : ByteArray) (w : World) (hn : n < 100000) (hs : l[n]? = some s) (hS : Strs w na l) (k0 : w.cell? ⟨BB, 0, none⟩ = some (.slice na l.length nc)) :
    Calls Tryz.prog 27 #[.int .i64 ((n : Int) + 1), .pointer (some ⟨BB, 0, none⟩)] w fun e w' => e = .returned (.string s) ∧ Below w.heap.size w w' := by
  have hlt : n < l.length := (List.getElem?_eq_some_iff.1 hs).1
  rcases hS with h0 | ⟨bk, o, rfl, hbk, hc⟩
  · rw [h0] at hlt; simp at hlt
  have hcell := hc n s hs
  have e1 : IntKind.i64.wrap ((n : Int) + 1 - 1) = n := by rw [show (n : Int) + 1 - 1 = n from by omega]; exact IntWalk.i64_in _ (by omega)
  have e2 : (n : Int) + 1 - 1 = n := by omega
  clear hc hs
  go_enter Tryz.func27, Tryz.ntmps27
  go_wp2_with fail
  go_ret
  exact ⟨rfl, Below.refl _ _⟩
end Go.Proofs.YtgdambmineeboaaGreatDoor.Tells10

/- Plainly: the program's lines are the reference's; how long a book's text is. -/
namespace Go.Proofs.YtgdambmineeboaaGreatDoor.Texts10
open Go.RowKit Go.Lib Go.Proofs.YtgdambmineeboaaGreatDoor.Text Go.Proofs.YtgdambmineeboaaGreatDoor.Runes Go.Proofs.YtgdambmineeboaaGreatDoor.Print Go.Proofs.YtgdambmineeboaaGreatDoor.RefNine Go.Proofs.YtgdambmineeboaaGreatDoor.RefPrint Go.Proofs.YtgdambmineeboaaGreatDoor.Format Go.Proofs.YtgdambmineeboaaGreatDoor.Tell Go.Proofs.YtgdambmineeboaaGreatDoor.Given Go.Proofs.YtgdambmineeboaaGreatDoor.Mem Go.Proofs.YtgdambmineeboaaGreatDoor.Book Go.Proofs.YtgdambmineeboaaGreatDoor.Told Go.Proofs.YtgdambmineeboaaGreatDoor.Listed Go.Proofs.YtgdambmineeboaaGreatDoor.Lines10 Go.Proofs.YtgdambmineeboaaGreatDoor.Dirs Go.Proofs.YtgdambmineeboaaGreatDoor.Apart Go.Proofs.YtgdambmineeboaaGreatDoor.Put Go.Proofs.YtgdambmineeboaaGreatDoor.Vals10 Go.Proofs.YtgdambmineeboaaGreatDoor.Tells10 Go.Proofs.YtgdambmineeboaaGreatDoor.RefText
theorem sta_line (x : Val) : lineL (stN x.n) x.a x.b none = staT x := by unfold lineL staT moreL; simp
theorem spn_line (K : List UInt8) (x : Spn) : lineL K x.a x.b none = spnT K x := by unfold lineL spnT moreL; simp
theorem val_line (K : List UInt8) (tell : Int → List UInt8) (x : Val) (m : ByteArray) (h : m.data.toList = tell x.n) : lineL K x.a x.b (some m) = valT K tell x := by unfold lineL valT moreL; simp [h]
theorem tail_tell : ∀ (l : List Int), l ≠ [] → tailT l = 32 :: tellText l
  | [], h => absurd rfl h
  | [x], _ => by simp [tailT, tellText, Lib.join]
  | x :: y :: r, _ => by
    have ih := tail_tell (y :: r) (by simp)
    unfold tailT at ih ⊢
    rw [List.flatMap_cons, ih]
    simp [tellText, Lib.join]
theorem chr_line (K : List UInt8) (x : Chr) (h : x.is ≠ []) : chrT K x = listT K x := by
  unfold chrT lineL listT moreL
  rw [tail_tell x.is h]
  simp
theorem flat_congr {α : Type} {f g : α → List UInt8} {l : List α} (h : ∀ x ∈ l, f x = g x) : l.flatMap f = l.flatMap g := by
  induction l with
  | nil => rfl
  | cons x r ih => rw [List.flatMap_cons, List.flatMap_cons, h x (List.mem_cons_self ..), ih (fun y hy => h y (List.mem_cons_of_mem _ hy))]
theorem tell_ok {l : List Chr} (h : OkChrs l) : ∀ x ∈ l, Sp x.a x.b ∧ TellOk x.is := fun x hx => by
  obtain ⟨a, b, c, d⟩ := h.2 x hx
  refine ⟨a, c, ?_⟩
  rw [List.any_eq_false]
  intro p hp
  have := scalar_pts (d p hp)
  unfold badRune
  simp
  omega
theorem ne_of {l : List Chr} (h : OkChrs l) : ∀ x ∈ l, x.is ≠ [] := fun x hx e => by
  have := (h.2 x hx).2.1
  rw [e] at this
  simp at this
theorem chrs_text {K : List UInt8} {l : List Chr} (h : OkChrs l) : l.flatMap (chrT K) = l.flatMap (listT K) := flat_congr fun x hx => chr_line K x (ne_of h x hx)
theorem part_le {B : Mem.Book} (G : Lines10.Good B) : ∀ k, (RefText.part B k).length ≤ 13107200 := by
  have key : ∀ {α : Type} (f : α → List UInt8) (l : List α), l.length ≤ 65536 → (∀ x ∈ l, (f x).length ≤ 200) → (l.flatMap f).length ≤ 13107200 := fun f l hl h => by
    have := Listed.flatMap_le f 200 l h
    omega
  have hch : ∀ {K : List UInt8} {l : List Chr}, K.length ≤ 16 → OkChrs l → (l.flatMap (listT K)).length ≤ 13107200 := fun {K l} hK h => key _ l h.1 fun x hx => by
    obtain ⟨_, _, c, _⟩ := h.2 x hx
    have h1 := atL_le x.a x.b
    have h2 := tailT_le x.is
    unfold listT
    simp
    omega
  have hsm : ∀ {l : List ByteArray} (n : Nat), (∀ s ∈ l, s.size ≤ 100) → (nameAt l n).length ≤ 100 := fun {l} n h => by
    unfold nameAt
    rw [List.getD_eq_getElem?_getD]
    cases hx : l[(n : Int).toNat]? with
    | none => decide
    | some s => have := h s (List.mem_of_getElem? hx); rw [← size_data] at this; exact this
  intro k
  match k with
  | 0 => exact key _ _ G.s.1 fun x _ => staT_le x
  | 1 => exact hch (by decide) G.m
  | 2 => exact key _ _ G.k.1 fun x hx => valT_le _ _ x (by decide) (by obtain ⟨_, h1, h2⟩ := G.k.2 x hx; have := dec_le x.n.toNat (by omega); rw [← size_data] at this; exact this)
  | 3 => exact hch (by decide) G.d
  | 4 => exact key _ _ G.x.1 fun x _ => spnT_le _ x (by decide)
  | 5 => exact key _ _ G.b.1 fun x hx => valT_le _ _ x (by decide) (by obtain ⟨_, h1, h2⟩ := G.b.2 x hx; have := hsm x.n.toNat dirs_small; rwa [Int.toNat_of_nonneg (by omega)] at this)
  | 6 => exact key _ _ G.j.1 fun x hx => valT_le _ _ x (by decide) (by obtain ⟨_, h1, h2⟩ := G.j.2 x hx; have := hsm x.n.toNat joins_small; rwa [Int.toNat_of_nonneg (by omega)] at this)
  | 7 => exact key _ _ G.q.1 fun x _ => spnT_le _ x (by decide)
  | 8 => exact key _ _ G.r.1 fun x hx => valT_le _ _ x (by decide) (by
      obtain ⟨_, h1, h2⟩ := G.r.2 x hx
      have := hsm (x.n - 1).toNat (l := B.names) (fun s hs => by obtain ⟨i, hi⟩ := List.getElem?_of_mem hs; exact name_small G.n hi)
      rwa [Int.toNat_of_nonneg (by omega)] at this)
  | 9 => exact hch (by decide) G.l
  | k + 10 => exact Nat.zero_le _
theorem txt_le {B : Mem.Book} (G : Lines10.Good B) : ∀ k, (txt B k).length ≤ 13107200 * k
  | 0 => Nat.le_refl _
  | k + 1 => by
    have h1 := txt_le G k
    have h2 := part_le G k
    show (txt B k ++ RefText.part B k).length ≤ _
    rw [List.length_append]
    omega
end Go.Proofs.YtgdambmineeboaaGreatDoor.Texts10
