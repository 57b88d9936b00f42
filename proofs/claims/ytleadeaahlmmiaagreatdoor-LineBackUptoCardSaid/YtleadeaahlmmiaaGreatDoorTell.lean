/- The walk of line.Tell. -/
import Derived.Test.YtleadeaahlmmiaaGreatDoorFormat
import Derived.OwnWalk
import Derived.Laws.OwnMore
namespace Go.Proofs.YtleadeaahlmmiaaGreatDoor.Tell
open Go.RowKit Go.Lib Go.Proofs.YtleadeaahlmmiaaGreatDoor.Text Go.Proofs.YtleadeaahlmmiaaGreatDoor.Runes Go.Proofs.YtleadeaahlmmiaaGreatDoor.Print Go.Proofs.YtleadeaahlmmiaaGreatDoor.RefNine Go.Proofs.YtleadeaahlmmiaaGreatDoor.RefPrint Go.Proofs.YtleadeaahlmmiaaGreatDoor.Format

theorem own_below {w w' : World} {base : Nat} {e : TypeId} {size : Nat} {v : Value} {n : Nat} {xs : List Value} (h : w.ownsRow base e size v n xs) (hb : Below w.heap.size w w') : w'.ownsRow base e size v n xs :=
  h.kept (row := none) ⟨hb.os, hb.tape, hb.output, hb.size, fun k hk _ => hb.block k hk⟩ (by cases v.ownBlock <;> simp)

theorem up_digit : ∀ d : Nat, d < 16 → Lib.upperB (loDigit d) = Text.hexDigit d := by decide +kernel
theorem lo_small : ∀ d : Nat, d < 16 → (loDigit d).toNat < 128 := by decide +kernel
theorem up_low : ∀ i p, Lib.toUpperA (lowLo i p) = lowHex i p
  | 0, _ => rfl
  | i + 1, p => by
    rw [lowLo, lowHex, ← up_low i, ← up_digit _ (Nat.mod_lt p (by decide))]
    simp [Lib.toUpperA]
theorem lo_ascii : ∀ i p, ∀ c ∈ lowLo i p, c.toNat < 128
  | 0, _, c, h => by simp [lowLo] at h
  | i + 1, p, c, h => by
    rw [lowLo, List.mem_append] at h
    rcases h with h | h
    · exact lo_ascii i _ c h
    · simp only [List.mem_singleton] at h
      subst h
      exact lo_small _ (Nat.mod_lt p (by decide))

theorem rep48 : ∀ k, Lib.repeatL [48] k = List.replicate k 48 := fun k => by
  induction k with
  | zero => rfl
  | succ k ih => rw [Lib.repeatL, ih]; rfl

def Tabs (w : World) : Prop := Lib.Utf8Tabs 3 4 w ∧ w.cell? ⟨6, 15, none⟩ = some (.int .u8 4) ∧ 6 < w.heap.size
theorem Tabs.below {w w' : World} (h : Tabs w) (hb : Below w.heap.size w w') : Tabs w' :=
  ⟨Utf8Tabs_below h.1 hb, (hb.cell (p := ⟨6, 15, none⟩) h.2.2).trans h.2.1, Nat.lt_of_lt_of_le h.2.2 hb.size⟩

theorem info_str : (Tryz.prog.info? 9).map (fun i => (i.zero, i.size, i.bytes)) = some (some (.string ⟨#[]⟩), 1, 16) := by kernel_rfl

def padS (x : Int) : ByteArray := ⟨(hexL x.toNat).toArray⟩
def padded (l : List Int) : List Value := l.map fun x => Value.string (padS x)
theorem padded_snoc (l : List Int) (i n : Nat) (h : l[i]? = some (n : Int)) : padded (l.take (i + 1)) = padded (l.take i) ++ [Value.string ⟨(hexL n).toArray⟩] := by
  rw [take_snoc' l i _ h]
  simp [padded, padS]
theorem padded_at (l : List Int) (j : Nat) (x : ByteArray) (h : (l.map padS)[j]? = some x) : (padded l)[j]? = some (.string x) := by
  unfold padded
  rw [List.getElem?_map] at h ⊢
  cases hl : l[j]? with
  | none => rw [hl] at h; cases h
  | some y => rw [hl] at h; cases h; rfl
theorem tell_join (l : List Int) : Lib.join ((l.map padS).map (·.data.toList)) [32] = tellText l := by
  unfold tellText
  rw [List.map_map]
  rfl
theorem tell_len (l : List Int) (hb : l.any badRune = false) : (tellText l).length ≤ 7 * l.length := by
  suffices h : ∀ i, i ≤ l.length → (tellText (l.take i)).length ≤ 7 * i by
    have := h l.length (Nat.le_refl _)
    rwa [List.take_length] at this
  intro i
  induction i with
  | zero => intro _; exact Nat.le_refl _
  | succ i ih =>
    intro hi
    have hx : l[i]? = some l[i] := List.getElem?_eq_getElem (by omega)
    have hbx : badRune l[i] = false := by
      have := List.any_eq_false.1 hb l[i] (List.getElem_mem _)
      simpa using this
    have h6 : (hexL (l[i]).toNat).length ≤ 6 := by
      unfold hexL
      rw [lowHex_length]
      have := nd_le (l[i]).toNat
      omega
    have ih := ih (by omega)
    have e1 : tellText (l.take (i + 1)) = if (l.take i).map (fun x => hexL x.toNat) = [] then hexL (l[i]).toNat else tellText (l.take i) ++ [32] ++ hexL (l[i]).toNat := by
      rw [take_snoc' l i _ hx]
      unfold tellText
      rw [List.map_append, List.map_cons, List.map_nil, join_snoc]
    rw [e1]
    split
    · omega
    · simp only [List.length_append, List.length_singleton]
      omega

set_option maxRecDepth 100000 in
set_option maxHeartbeats 2000000 in
theorem tell_any (a : Option Addr) (l : List Int) (c : Nat) (w : World) (hl : l.length ≤ 1048576) (hR : Rs w a l) (hT : Tabs w) :
    Calls Tryz.prog 10 #[.slice a l.length c] w (TellPost l (fun w w' => Below w.heap.size w w') w) := by
  have HR := Lib.hid hR
  have HT := Lib.hid hT
  clear hR hT
  obtain ⟨i0, hi, hz0, hz1, hz2⟩ := info_parts info_str
  go_enter Tryz.func10, Tryz.ntmps10
  go_wp2
  go_loopw [4, 10] (fun b v w' => ∃ (i : Nat), v = .int .i64 i ∧ i ≤ l.length ∧ w'.ownsRow w.heap.size 9 1 b i (padded (l.take i)) ∧ Hid ((l.take i).any badRune = false) ∧ Below w.heap.size w w') (fun _ v _ => l.length - (intOf v).toNat)
  case atStart => exact ⟨0, rfl, Nat.zero_le _, World.ownsRow_nil _ _ _ _, Lib.hid rfl, Below.refl _ _⟩
  case round =>
    obtain ⟨i, rfl, hi', hown, hbad, hb⟩ := hrel
    by_cases hlt : i < l.length
    · obtain ⟨x, hx⟩ : ∃ x, l[i]? = some x := ⟨_, List.getElem?_eq_getElem hlt⟩
      rcases HR.out.below hb with h0 | ⟨bk, of, rfl, hbk, hc⟩
      · exact absurd (by rw [h0]; rfl : l.length = 0) (by omega)
      have hcell := hc i x hx
      have HX := Lib.hid hx
      clear hc hx hbk
      have hcases : (x < 0) ∨ (¬ x < 0 ∧ 1114111 < x) ∨ (¬ x < 0 ∧ ¬ 1114111 < x) := by omega
      rcases hcases with h1 | ⟨h1, h2⟩ | ⟨h1, h2⟩
      · have HB := Lib.hid (any_bad l i x HX.out (by simp [badRune, h1]))
        go_wp2
        go_ret2
        exact ⟨by rw [HB.out]; rfl, hb⟩
      · have HB := Lib.hid (any_bad l i x HX.out (by simp [badRune, h2]))
        go_wp2
        go_ret2
        exact ⟨by rw [HB.out]; rfl, hb⟩
      · obtain ⟨n, rfl⟩ := Int.eq_ofNat_of_zero_le (by omega : 0 ≤ x)
        have HB : Hid ((l.take (i + 1)).any badRune = false) := Lib.hid (by
          rw [take_snoc' l i _ HX.out, List.any_append, hbad.out]
          simp [badRune, h1, h2])
        have hnd := nd_le n
        have hF := formatInt_pub n wr (by omega) (HT.out.below hb).2.1 (HT.out.below hb).2.2
        have hU : ∀ W, Calls Tryz.prog 23 #[.string ⟨(lowLo (nd n) n).toArray⟩] W fun e w' => e = .returned (.string ⟨(lowHex (nd n) n).toArray⟩) ∧ Below W.heap.size W w' := fun W => by
          rw [← up_low]
          exact Tryz.strings_ToUpper_ascii ⟨(lowLo (nd n) n).toArray⟩ W (by rw [← size_data]; simp only [lowLo_length]; omega) (fun j b hj => lo_ascii _ _ b (List.mem_of_getElem? hj))
        have hR := fun W => Tryz.strings_Repeat ⟨#[48]⟩ (4 - nd n) W (by omega) (by rw [show (⟨#[48]⟩ : ByteArray).size = 1 from rfl]; omega)
        have hlh := lowHex_length (nd n) n
        have hrl : (Lib.repeatL [48] (4 - nd n)).length ≤ 4 := by rw [rep48, List.length_replicate]; omega
        have hfin : Lib.repeatL [48] (4 - nd n) ++ lowHex (nd n) n = hexL n := by rw [rep48, hexL_eq n (by omega)]
        have harg : max 0 (4 - ((lowHex (nd n) n).length : Int)) = ((4 - nd n : Nat) : Int) := by rw [hlh]; omega
        have hb6 : (lowHex (nd n) n).length ≤ 6 := by omega
        have HF := Lib.hid hF
        have HU := Lib.hid hU
        have HP : Hid (∀ W, Calls Tryz.prog 25 #[.string ⟨#[48]⟩, .int .i64 ((4 - nd n : Nat) : Int)] W fun e w' => e = .returned (.string ⟨(Lib.repeatL [48] (4 - nd n)).toArray⟩) ∧ Below W.heap.size W w') := Lib.hid hR
        have HFIN := Lib.hid hfin
        have HARG := Lib.hid harg
        clear hF hU hR hlh hfin harg
        generalize Lib.repeatL [48] (4 - nd n) = rp at *
        generalize lowHex (nd n) n = lh at *
        go_wp2_with fail
        refine HF.out.mono ?_
        rintro e w1 ⟨rfl, hb1⟩
        go_wp2_with fail
        refine (HU.out _).mono ?_
        rintro e w2 ⟨rfl, hb2⟩
        go_wp2_with fail
        rw [HARG.out]
        refine (HP.out _).mono ?_
        rintro e w3 ⟨rfl, hb3⟩
        have hown3 := own_below (own_below (own_below hown hb1) hb2) hb3
        have hbw3 : Below w.heap.size w w3 := hb.trans ((hb1.mono hb.size).trans ((hb2.mono (Nat.le_trans hb.size hb1.size)).trans (hb3.mono (Nat.le_trans hb.size (Nat.le_trans hb1.size hb2.size)))))
        clear hown hb hb1 hb2 hb3
        go_wp2_with (at_builtin; refine wpList_append_own _ rfl _ _ 22 rfl w.heap.size 9 i0 (.string ⟨#[]⟩) 1 16 Tryz.underlying22 hi hz0 hz1 hz2 rfl (by decide) _ _ _ rfl (hown3.alloc _) ⟨w3.heap.size, 0, none⟩ 1 1 [.string (⟨rp.toArray⟩ ++ ⟨lh.toArray⟩)] rfl rfl ?c1 ?c2 ?c3 ?c4 ?c5 ?_)
        case c1 => intro j u hu; cases j with | zero => cases hu; rw [Lib.add_plain]; exact World.cell?_alloc_new _ _ _ _ | succ j => cases hu
        case c2 => intro u hu; simp only [List.mem_singleton] at hu; subst hu; rfl
        case c3 => unfold maxLen; omega
        case c4 => omega
        case c5 => have := hbw3.size; simp; omega
        intro v' w4 hown4 hgrow hv'
        have hbw4 : Below w.heap.size w w4 := (hbw3.alloc hbw3.size _).grown hgrow (by have := hbw3.size; simp; omega) (fun k hk => (hown3.lt k hk).1)
        have hown5 : w4.ownsRow w.heap.size 9 1 v' (i + 1) (padded (l.take (i + 1))) := by
          rw [padded_snoc l i n HX.out, ← HFIN.out]
          exact hown4
        clear hown4 hgrow hown3 hbw3 hv'
        go_wp2
        go_roundw
        case rel => exact ⟨i + 1, by go_num, by omega, hown5, HB, hbw4⟩
        case measure => simp [intOf]; omega
    · have HB : Hid (l.any badRune = false) := Lib.hid (by rw [← hbad.out, List.take_of_length_le (by omega)])
      obtain rfl : i = l.length := by omega
      rw [List.take_length] at hown
      have hlen := tell_len l HB.out
      rcases hown.2 with ⟨rfl, h0⟩ | ⟨g, cap, cur, rfl, hg, hcur, hnc, hcm, hcs, htk⟩
      · have hl0 : l = [] := List.length_eq_zero_iff.1 h0
        subst hl0
        go_wp2_with fail
        refine (Tryz.strings_Join_none none 0 ⟨#[32]⟩ _).mono ?_
        rintro e w1 ⟨rfl, rfl⟩
        go_wp2_with fail
        go_ret2
        exact ⟨rfl, hb⟩
      · have hjo : Calls Tryz.prog 17 #[.slice (some ⟨g, 0, none⟩) l.length cap, .string ⟨#[32]⟩] wr fun e w' => e = .returned (.string ⟨(tellText l).toArray⟩) ∧ Below wr.heap.size wr w' := by
          have := Tryz.strings_Join g 0 cap (l.map padS) ⟨#[32]⟩ wr (fun j x hx => by
            have hc := hown.cells (g := g) rfl j (.string x) (padded_at l j x hx)
            rw [Lib.add_plain, Nat.zero_add] at hc
            rw [Nat.zero_add]
            exact hc) (block_lt hcur) (by rw [List.length_map]; omega) (by rw [List.length_map]; exact hnc) (by rw [show (⟨#[32]⟩ : ByteArray).data.toList = [32] from rfl, tell_join]; omega)
          rw [show (⟨#[32]⟩ : ByteArray).data.toList = [32] from rfl, tell_join, List.length_map] at this
          exact this
        have HJ := Lib.hid hjo
        clear hjo hown htk hcur hcs
        go_wp2_with fail
        refine HJ.out.mono ?_
        rintro e w1 ⟨rfl, hb1⟩
        go_wp2_with fail
        go_ret2
        exact ⟨by rw [HB.out]; rfl, hb.trans (hb1.mono hb.size)⟩
end Go.Proofs.YtleadeaahlmmiaaGreatDoor.Tell
