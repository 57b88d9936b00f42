/- The walks of the document's side of layer 9: has, bare, Hex, Print, Tell. -/
import Derived.Test.YtleadeaahlmmiaaGreatDoorPrint
import Derived.Test.YtleadeaahlmmiaaGreatDoorHex
import Derived.Deep.QuietTactic
import Derived.BigQuiet
namespace Go.Proofs.YtleadeaahlmmiaaGreatDoor.RefNine
open Go.RowKit Go.Lib Go.Proofs.YtleadeaahlmmiaaGreatDoor.Text Go.Proofs.YtleadeaahlmmiaaGreatDoor.Runes Go.Proofs.YtleadeaahlmmiaaGreatDoor.Print

def Quiet (w w' : World) : Prop := ∃ n, w' = w.drewN n
theorem Quiet.refl (w : World) : Quiet w w := ⟨0, rfl⟩
theorem Quiet.more {w w' : World} (h : Quiet w w') (n : Nat) : Quiet w (w'.drewN n) := by
  obtain ⟨m, rfl⟩ := h
  exact ⟨m + n, by rw [World.drewN_drewN]⟩
theorem Quiet.trans {w w' w'' : World} (h : Quiet w w') (h2 : Quiet w' w'') : Quiet w w'' := by
  obtain ⟨m, rfl⟩ := h2
  exact h.more m

theorem getD_at (s : ByteArray) (i : Nat) (h : i < s.size) : s.data.toList.getD i 0 = s[i] := by
  have : i < s.data.toList.length := by rw [size_data]; exact h
  rw [List.getD_eq_getElem?_getD, List.getElem?_eq_getElem this]
  rfl

set_option maxHeartbeats 1000000 in
theorem has_any (s set : ByteArray) (w : World) (hs : s.size ≤ 140737488351232) (ht : set.size ≤ 140737488351232) :
    Calls Tryz.prog 18 #[.string s, .string set] w fun e w' => e = .returned (.bool (hasL s.data.toList set.data.toList)) ∧ Quiet w w' := by
  go_enter Tryz.func18, Tryz.ntmps18
  go_wp2
  go_loopw [5] (fun v w' => ∃ i : Nat, v = .int .i64 i ∧ i ≤ s.size ∧ Quiet w w' ∧ Hid (hasL (s.data.toList.drop i) set.data.toList = hasL s.data.toList set.data.toList)) (fun v _ => s.size - (intOf v).toNat)
  case atStart => exact ⟨0, rfl, Nat.zero_le _, Quiet.refl _, Lib.hid rfl⟩
  case round =>
    obtain ⟨wo, rfl⟩ : ∃ wo : World, wo = wr := ⟨_, rfl⟩
    obtain ⟨i, rfl, hi, hq, hh⟩ := hrel
    by_cases hlt : i < s.size
    · have HD := Lib.hid (drop_cons s.data.toList i (by rw [size_data]; exact hlt))
      have HG := Lib.hid (getD_at s i hlt)
      go_wp2
      go_loopw [6] (fun v w' => ∃ j : Nat, v = .int .i64 j ∧ j ≤ set.size ∧ Quiet w w' ∧ Hid (hasRune (set.data.toList.drop j) (s[i].toNat) = hasRune set.data.toList (s[i].toNat))) (fun v _ => set.size - (intOf v).toNat)
      case atStart => exact ⟨0, rfl, Nat.zero_le _, hq, Lib.hid rfl⟩
      case round =>
        clear hq
        obtain ⟨j, rfl, hj, hq, hk⟩ := hrel
        by_cases hlt2 : j < set.size
        · have HD2 := Lib.hid (drop_cons set.data.toList j (by rw [size_data]; exact hlt2))
          have HG2 := Lib.hid (getD_at set j hlt2)
          have i1 : (0 : Int) ≤ (i : Int) := by omega
          have i2 : (i : Int) < (s.size : Int) := by omega
          have j1 : (0 : Int) ≤ (j : Int) := by omega
          have j2 : (j : Int) < (set.size : Int) := by omega
          go_wp2
          go_quiet (fail)
          go_wp2
          · have h := ‹((s[i].toNat : Int) == (set[j].toNat : Int)) = true›
            go_ret
            refine ⟨?_, hq.more _⟩
            have e1 : s[i].toNat = set[j].toNat := by have := beq_iff_eq.1 h; omega
            have e2 : hasRune set.data.toList s[i].toNat = true := by
              rw [← hk.out, HD2.out, HG2.out, e1]
              simp [hasRune]
            rw [← hh.out, HD.out, HG.out]
            rw [hasRune_byte] at e2
            show _ = Ending.returned (.bool (set.data.toList.contains s[i] || _))
            rw [e2]
            rfl
          · have h := ‹((s[i].toNat : Int) == (set[j].toNat : Int)) = false›
            go_roundw
            case rel =>
              refine ⟨j + 1, by go_num, by omega, hq.more _, Lib.hid ?_⟩
              rw [← hk.out, HD2.out, HG2.out]
              have e1 : (set[j].toNat == s[i].toNat) = false := by
                have := beq_eq_false_iff_ne.1 h
                rw [beq_eq_false_iff_ne]
                omega
              show _ = (set[j].toNat == s[i].toNat || _)
              rw [e1, Bool.false_or]
              rfl
            case measure => simp [intOf]; omega
        · have e2 : Hid (set.data.toList.contains s[i] = false) := Lib.hid (by
            rw [← hasRune_byte, ← hk.out, show set.data.toList.drop j = [] from List.drop_eq_nil_of_le (by rw [size_data]; omega)]
            rfl)
          go_wp2
          go_roundw
          case rel =>
            refine ⟨i + 1, by go_num, by omega, hq, Lib.hid ?_⟩
            rw [← hh.out, HD.out, HG.out]
            show _ = (set.data.toList.contains s[i] || _)
            rw [e2.out, Bool.false_or]
            rfl
          case measure => simp [intOf]; omega
    · go_wp2
      go_ret
      refine ⟨?_, hq⟩
      rw [← hh.out, List.drop_eq_nil_of_le (by rw [size_data]; omega)]
      rfl

theorem take_data (s : ByteArray) (p : Nat) : (s.extract 0 p).data.toList = s.data.toList.take p := by rw [take_ba]
theorem contains_blank (c : UInt8) : ([32, 9] : List UInt8).contains c = ((c.toNat : Int) == 32 || (c.toNat : Int) == 9) := by
  rw [Bool.eq_iff_iff]
  simp only [List.contains_cons, List.contains_nil, Bool.or_false, Bool.or_eq_true, beq_iff_eq]
  constructor
  · rintro (rfl | rfl)
    · exact .inl rfl
    · exact .inr rfl
  · rintro (h | h)
    · exact .inl (UInt8.toNat_inj.1 (by show c.toNat = 32; omega))
    · exact .inr (UInt8.toNat_inj.1 (by show c.toNat = 9; omega))

theorem right_cases (r : ByteArray) : (∃ (h' : r.size - 1 < r.size), ((r[r.size - 1].toNat : Int) == 32) = true ∧ rtrim [32, 9] r.data.toList = rtrim [32, 9] (r.data.toList.take (r.size - 1))) ∨ (∃ (h' : r.size - 1 < r.size), ((r[r.size - 1].toNat : Int) == 32) = false ∧ ((r[r.size - 1].toNat : Int) == 9) = true ∧ rtrim [32, 9] r.data.toList = rtrim [32, 9] (r.data.toList.take (r.size - 1)))
            ∨ (∃ (h' : r.size - 1 < r.size), ((r[r.size - 1].toNat : Int) == 32) = false ∧ ((r[r.size - 1].toNat : Int) == 9) = false ∧ rtrim [32, 9] r.data.toList = r.data.toList) ∨ (r.size ≤ 0 ∧ rtrim [32, 9] r.data.toList = r.data.toList) := by
  by_cases hp : 0 < r.size
  · have h' : r.size - 1 < r.size := by omega
    have hd : r.data.toList = r.data.toList.take (r.size - 1) ++ [r[r.size - 1]] := by
      rw [← getD_at r (r.size - 1) h']
      have h2 : r.size - 1 < r.data.toList.length := by rw [size_data]; exact h'
      have := List.take_append_getElem h2
      rw [List.getD_eq_getElem?_getD, List.getElem?_eq_getElem h2]
      simp only [Option.getD_some]
      rw [this, List.take_of_length_le (by rw [size_data]; omega)]
    have hl := rtrim_snoc [32, 9] (r.data.toList.take (r.size - 1)) r[r.size - 1]
    rw [← hd, contains_blank] at hl
    by_cases h1 : ((r[r.size - 1].toNat : Int) == 32) = true
    · exact .inl ⟨h', h1, by rw [hl, h1]; rfl⟩
    · have h1' := Bool.eq_false_iff.2 h1
      by_cases h2 : ((r[r.size - 1].toNat : Int) == 9) = true
      · exact .inr (.inl ⟨h', h1', h2, by rw [hl, h1', h2]; rfl⟩)
      · exact .inr (.inr (.inl ⟨h', h1', Bool.eq_false_iff.2 h2, by rw [hl, h1', Bool.eq_false_iff.2 h2]; rfl⟩))
  · refine .inr (.inr (.inr ⟨by omega, ?_⟩))
    rw [List.length_eq_zero_iff.1 (by rw [size_data]; omega : r.data.toList.length = 0)]
    rfl

set_option maxHeartbeats 1000000 in
theorem bare_any (s : ByteArray) (w : World) (hs : s.size ≤ 140737488351232) :
    Calls Tryz.prog 19 #[.string s] w fun e w' => e = .returned (.string ⟨(btrim [32, 9] s.data.toList).toArray⟩) ∧ Quiet w w' := by
  go_enter Tryz.func19, Tryz.ntmps19
  go_wp2
  go_loopw [0] (fun v w' => ∃ t : ByteArray, v = .string t ∧ t.size ≤ 140737488351232 ∧ Quiet w w' ∧ Hid (ltrim [32, 9] t.data.toList = ltrim [32, 9] s.data.toList)) (fun v _ => strLen v)
  case atStart => exact ⟨s, rfl, hs, Quiet.refl _, Lib.hid rfl⟩
  case round =>
    obtain ⟨t, rfl, hts, hq, hh⟩ := hrel
    have hcases : (∃ hp : 0 < t.size, ((t[0].toNat : Int) == 32) = true ∧ ltrim [32, 9] t.data.toList = ltrim [32, 9] (t.data.toList.drop 1)) ∨ (∃ hp : 0 < t.size, ((t[0].toNat : Int) == 32) = false ∧ ((t[0].toNat : Int) == 9) = true ∧ ltrim [32, 9] t.data.toList = ltrim [32, 9] (t.data.toList.drop 1))
        ∨ (∃ hp : 0 < t.size, ((t[0].toNat : Int) == 32) = false ∧ ((t[0].toNat : Int) == 9) = false ∧ ltrim [32, 9] t.data.toList = t.data.toList) ∨ (t.size ≤ 0 ∧ ltrim [32, 9] t.data.toList = t.data.toList) := by
      by_cases hp : 0 < t.size
      · have hd := drop_cons t.data.toList 0 (by rw [size_data]; exact hp)
        rw [List.drop_zero, getD_at t 0 hp] at hd
        have hl : ltrim [32, 9] t.data.toList = if ([32, 9] : List UInt8).contains t[0] = true then ltrim [32, 9] (t.data.toList.drop 1) else t.data.toList := by
          rw [hd]
          simp only [ltrim, List.dropWhile_cons, List.drop_succ_cons, List.drop_zero]
        rw [contains_blank] at hl
        by_cases h1 : ((t[0].toNat : Int) == 32) = true
        · exact .inl ⟨hp, h1, by rw [hl, h1]; rfl⟩
        · have h1' := Bool.eq_false_iff.2 h1
          by_cases h2 : ((t[0].toNat : Int) == 9) = true
          · exact .inr (.inl ⟨hp, h1', h2, by rw [hl, h1', h2]; rfl⟩)
          · exact .inr (.inr (.inl ⟨hp, h1', Bool.eq_false_iff.2 h2, by rw [hl, h1', Bool.eq_false_iff.2 h2]; rfl⟩))
      · refine .inr (.inr (.inr ⟨by omega, ?_⟩))
        rw [List.length_eq_zero_iff.1 (by rw [size_data]; omega : t.data.toList.length = 0)]
        rfl
    rcases hcases with ⟨hp, e1, e3⟩ | ⟨hp, e1, e2, e3⟩ | ⟨hp, e1, e2, e3⟩ | ⟨hp, e3⟩
    · have HX := Lib.hid e3
      have j1 : (0 : Int) < (t.size : Int) := by omega
      clear e3
      go_wp2
      go_roundw
      case rel => exact ⟨t.extract 1 t.size, rfl, by rw [ByteArray.size_extract]; omega, hq, Lib.hid (by rw [extract_to_end, ← HX.out, hh.out])⟩
      case measure =>
        have hx : (t.extract 1 t.size).size < t.size := by rw [ByteArray.size_extract]; omega
        exact hx
    · have HX := Lib.hid e3
      have j1 : (0 : Int) < (t.size : Int) := by omega
      clear e3
      go_wp2
      go_roundw
      case rel => exact ⟨t.extract 1 t.size, rfl, by rw [ByteArray.size_extract]; omega, hq, Lib.hid (by rw [extract_to_end, ← HX.out, hh.out])⟩
      case measure =>
        have hx : (t.extract 1 t.size).size < t.size := by rw [ByteArray.size_extract]; omega
        exact hx
    all_goals
      have HXT : Hid (t.data.toList = ltrim [32, 9] s.data.toList) := Lib.hid (e3.symm.trans hh.out)
      have j1 := hp
      clear e3
      go_wp2
      go_loopw [0] (fun v w' => ∃ r : ByteArray, v = .string r ∧ r.size ≤ 140737488351232 ∧ Quiet w w' ∧ Hid (rtrim [32, 9] r.data.toList = rtrim [32, 9] t.data.toList)) (fun v _ => strLen v)
      case atStart => exact ⟨t, rfl, hts, hq, Lib.hid rfl⟩
      case round =>
        clear hq j1
        obtain ⟨r, rfl, hrs, hq, hk⟩ := hrel
        have hcases : (∃ (h' : r.size - 1 < r.size), ((r[r.size - 1].toNat : Int) == 32) = true ∧ rtrim [32, 9] r.data.toList = rtrim [32, 9] (r.data.toList.take (r.size - 1))) ∨ (∃ (h' : r.size - 1 < r.size), ((r[r.size - 1].toNat : Int) == 32) = false ∧ ((r[r.size - 1].toNat : Int) == 9) = true ∧ rtrim [32, 9] r.data.toList = rtrim [32, 9] (r.data.toList.take (r.size - 1)))
            ∨ (∃ (h' : r.size - 1 < r.size), ((r[r.size - 1].toNat : Int) == 32) = false ∧ ((r[r.size - 1].toNat : Int) == 9) = false ∧ rtrim [32, 9] r.data.toList = r.data.toList) ∨ (r.size ≤ 0 ∧ rtrim [32, 9] r.data.toList = r.data.toList) := right_cases r
        rcases hcases with ⟨h', e1, e3⟩ | ⟨h', e1, e2, e3⟩ | ⟨h', e1, e2, e3⟩ | ⟨hp, e3⟩
        · have HX := Lib.hid e3
          have j1 : (0 : Int) < (r.size : Int) := by omega
          have j2 : 1 ≤ r.size := by omega
          clear e3
          go_wp2
          go_roundw
          case rel => exact ⟨r.extract 0 (r.size - 1), rfl, by rw [ByteArray.size_extract]; omega, hq, Lib.hid (by rw [take_data, ← HX.out, hk.out])⟩
          case measure =>
            have hx : (r.extract 0 (r.size - 1)).size < r.size := by rw [ByteArray.size_extract]; omega
            exact hx
        · have HX := Lib.hid e3
          have j1 : (0 : Int) < (r.size : Int) := by omega
          have j2 : 1 ≤ r.size := by omega
          clear e3
          go_wp2
          go_roundw
          case rel => exact ⟨r.extract 0 (r.size - 1), rfl, by rw [ByteArray.size_extract]; omega, hq, Lib.hid (by rw [take_data, ← HX.out, hk.out])⟩
          case measure =>
            have hx : (r.extract 0 (r.size - 1)).size < r.size := by rw [ByteArray.size_extract]; omega
            exact hx
        · have HX := Lib.hid e3
          have j1 : (0 : Int) < (r.size : Int) := by omega
          have j2 : 1 ≤ r.size := by omega
          clear e3
          go_wp2
          go_ret
          exact ⟨ret_string (by unfold btrim; rw [← HXT.out, ← hk.out, HX.out, toList_toArray]), hq⟩
        · have HX := Lib.hid e3
          clear e3
          go_wp2
          go_ret
          exact ⟨ret_string (by unfold btrim; rw [← HXT.out, ← hk.out, HX.out, toList_toArray]), hq⟩

set_option maxHeartbeats 1000000 in
theorem hex_any (p : Nat) (w : World) (hp : p < 16777216) :
    Calls Tryz.prog 26 #[.int .i32 p] w fun e w' => e = .returned (.string ⟨(hexL p).toArray⟩) ∧ Quiet w w' := by
  have hnd := nd_le p
  go_enter Tryz.func26, Tryz.ntmps26
  go_wp2
  go_loopw [0, 3, 4] (fun a b c w' => ∃ (i q : Nat) (o : ByteArray), c = .int .i64 i ∧ a = .int .i32 q ∧ b = .string o ∧ i ≤ max 4 (nd p) ∧ q < 16777216 ∧ o.size ≤ 6 ∧ Hid (q = p / 16 ^ i) ∧ Hid (o.data.toList = lowHex i p) ∧ Quiet w w') (fun _ _ c _ => 6 - (intOf c).toNat)
  case atStart => exact ⟨0, p, ⟨#[]⟩, rfl, rfl, rfl, Nat.zero_le _, hp, by decide, Lib.hid (by simp), Lib.hid rfl, Quiet.refl _⟩
  case round =>
    obtain ⟨i, q, o, rfl, rfl, rfl, hi, hq, ho, hqp, hop, hqu⟩ := hrel
    have hstep : ∀ (_ : i < max 4 (nd p)), Hid ((((⟨#[48, 49, 50, 51, 52, 53, 54, 55, 56, 57, 65, 66, 67, 68, 69, 70]⟩ : ByteArray).extract (q % 16) (q % 16 + 1)) ++ o).data.toList = lowHex (i + 1) p ∧ q / 16 = p / 16 ^ (i + 1)) := fun _ => Lib.hid (by
      rw [Go.Joins.data_append, digit_cut _ (Nat.mod_lt _ (by decide)), lowHex_cons, hop.out, ← hqp.out]
      exact ⟨rfl, by rw [hqp.out, Nat.div_div_eq_div_mul, Nat.pow_succ]⟩)
    have hpos : 4 ≤ i → (0 < q ↔ i < nd p) := fun h => by rw [hqp.out]; exact nd_pos p i hp h (by omega)
    have hcases : i < 4 ∨ (¬ i < 4 ∧ 0 < q) ∨ (¬ i < 4 ∧ ¬ 0 < q) := by omega
    rcases hcases with h4 | ⟨h4, hq0⟩ | ⟨h4, hq0⟩
    · have HS := hstep (by omega)
      have hsz : (o.size : Int) ≤ 6 := by omega
      clear hstep hpos
      go_wp2
      go_roundw
      case rel => exact ⟨i + 1, q / 16, _, by go_num, by go_num, rfl, by omega, by omega, by rw [← size_data, HS.out.1, lowHex_length]; omega, Lib.hid HS.out.2, Lib.hid HS.out.1, hqu⟩
      case measure => simp [intOf]; omega
    · have h5 := (hpos (by omega)).1 hq0
      have HS := hstep (by omega)
      clear hstep hpos
      go_wp2
      go_roundw
      case rel => exact ⟨i + 1, q / 16, _, by go_num, by go_num, rfl, by omega, by omega, by rw [← size_data, HS.out.1, lowHex_length]; omega, Lib.hid HS.out.2, Lib.hid HS.out.1, hqu⟩
      case measure => simp [intOf]; omega
    · have h5 : ¬ i < nd p := fun h => hq0 ((hpos (by omega)).2 h)
      have HE : Hid (i = max 4 (nd p)) := Lib.hid (by omega)
      clear hstep hpos
      go_wp2
      go_ret
      exact ⟨ret_string (by unfold hexL; rw [← HE.out, ← hop.out, toList_toArray]), hqu⟩

/-- A slice of runes in memory. -/
def Rs (w : World) (a : Option Addr) (l : List Int) : Prop :=
  l = [] ∨ ∃ bk o, a = some ⟨bk, o, none⟩ ∧ bk < w.heap.size ∧ ∀ (j : Nat) x, l[j]? = some x → w.cell? ⟨bk, o + j, none⟩ = some (.int .i32 x)
theorem Rs.below {w w' : World} {a : Option Addr} {l : List Int} (h : Rs w a l) (hb : Below w.heap.size w w') : Rs w' a l := by
  rcases h with h | ⟨bk, o, h1, h2, h3⟩
  · exact .inl h
  · exact .inr ⟨bk, o, h1, Nat.lt_of_lt_of_le h2 hb.size, fun j x hx => (hb.cell (p := ⟨bk, o + j, none⟩) h2).trans (h3 j x hx)⟩
theorem Quiet.below {w w' : World} (h : Quiet w w') : Below w.heap.size w w' := by
  obtain ⟨n, rfl⟩ := h
  exact ⟨rfl, rfl, rfl, Nat.le_refl _, fun i _ => rfl⟩

def badRune (x : Int) : Bool := decide (x < 0) || decide (x > 1114111)
def tellText (l : List Int) : List UInt8 := Lib.join (l.map fun x => hexL x.toNat) [32]
def TellPost (l : List Int) (R : World → World → Prop) (w : World) (e : Ending) (w' : World) : Prop :=
  e = .returned (if l.any badRune then .tuple #[.string ⟨#[]⟩, .int .i64 90] else .tuple #[.string ⟨(tellText l).toArray⟩, .int .i64 0]) ∧ R w w'

theorem any_bad (l : List Int) (i : Nat) (x : Int) (h : l[i]? = some x) (hb : badRune x = true) : l.any badRune = true :=
  List.any_eq_true.2 ⟨x, List.mem_of_getElem? h, hb⟩
theorem take_snoc' {α : Type} (l : List α) (i : Nat) (x : α) (h : l[i]? = some x) : l.take (i + 1) = l.take i ++ [x] := by
  obtain ⟨hlt, rfl⟩ := List.getElem?_eq_some_iff.1 h
  rw [List.take_append_getElem hlt]
theorem join_snoc (xs : List (List UInt8)) (x sep : List UInt8) : Lib.join (xs ++ [x]) sep = if xs = [] then x else Lib.join xs sep ++ sep ++ x := by
  cases xs with
  | nil => simp [Lib.join_one]
  | cons y r =>
    rw [if_neg (by simp), List.cons_append, Lib.join_cons, Lib.join_cons]
    simp [Lib.joinTail]

set_option maxHeartbeats 1000000 in
theorem refTell_any (a : Option Addr) (l : List Int) (c : Nat) (w : World) (hl : l.length ≤ 35184372087808) (hR : Rs w a l) :
    Calls Tryz.prog 11 #[.slice a l.length c] w (TellPost l Quiet w) := by
  have HR := Lib.hid hR
  clear hR
  go_enter Tryz.func11, Tryz.ntmps11
  go_wp2
  go_loopw [4, 5] (fun b v w' => ∃ (i : Nat) (o : ByteArray), v = .int .i64 i ∧ b = .string o ∧ i ≤ l.length ∧ o.size ≤ 7 * i ∧ Hid (o.data.toList = tellText (l.take i)) ∧ Hid ((l.take i).any badRune = false) ∧ Quiet w w') (fun _ v _ => l.length - (intOf v).toNat)
  case atStart => exact ⟨0, ⟨#[]⟩, rfl, rfl, Nat.zero_le _, by decide, Lib.hid rfl, Lib.hid rfl, Quiet.refl _⟩
  case round =>
    obtain ⟨i, o, rfl, rfl, hi, ho, hot, hbad, hq⟩ := hrel
    by_cases hlt : i < l.length
    · obtain ⟨x, hx⟩ : ∃ x, l[i]? = some x := ⟨_, List.getElem?_eq_getElem hlt⟩
      rcases HR.out.below hq.below with h0 | ⟨bk, of, rfl, hbk, hc⟩
      · exact absurd (by rw [h0]; rfl : l.length = 0) (by omega)
      have hcell := hc i x hx
      have HX := Lib.hid hx
      clear hc hx hbk
      have hcases : (x < 0) ∨ (¬ x < 0 ∧ 1114111 < x) ∨ (¬ x < 0 ∧ ¬ 1114111 < x) := by omega
      rcases hcases with h1 | ⟨h1, h2⟩ | ⟨h1, h2⟩
      · have HB := Lib.hid (any_bad l i x HX.out (by simp [badRune, h1]))
        go_wp2
        go_ret2
        exact ⟨by rw [HB.out]; rfl, hq⟩
      · have HB := Lib.hid (any_bad l i x HX.out (by simp [badRune, h2]))
        go_wp2
        go_ret2
        exact ⟨by rw [HB.out]; rfl, hq⟩
      · obtain ⟨n, rfl⟩ := Int.eq_ofNat_of_zero_le (by omega : 0 ≤ x)
        have HB : Hid ((l.take (i + 1)).any badRune = false) := Lib.hid (by
          rw [take_snoc' l i _ HX.out, List.any_append, hbad.out]
          simp [badRune, h1, h2])
        have HT : Hid (tellText (l.take (i + 1)) = if i = 0 then hexL n else tellText (l.take i) ++ [32] ++ hexL n) := Lib.hid (by
          rw [take_snoc' l i _ HX.out]
          unfold tellText
          rw [List.map_append, List.map_cons, List.map_nil, join_snoc]
          by_cases h0 : i = 0
          · subst h0; simp
          · rw [if_neg h0, if_neg (by
              intro h
              have : (l.take i).length = 0 := by rw [List.map_eq_nil_iff.1 h]; rfl
              rw [List.length_take] at this
              omega)]
            simp)
        have hC := fun W => hex_any n W (by omega)
        have hxl : (hexL n).length ≤ 6 := by unfold hexL; rw [lowHex_length]; have := nd_le n; omega
        generalize hexL n = hx at *
        have hxs : (⟨hx.toArray⟩ : ByteArray).size ≤ 6 := by rw [← size_data]; exact hxl
        have HC := Lib.hid hC
        have hos : (o.size : Int) ≤ 7 * (i : Int) := by omega
        clear hC
        by_cases h0 : i = 0
        · have HT2 : Hid (tellText (l.take (i + 1)) = o.data.toList ++ hx) := Lib.hid (by rw [HT.out, if_pos h0, hot.out, h0]; rfl)
          have e0 : ¬ (i : Int) > 0 := by omega
          clear h0
          go_wp2_with (go_at_call 26; refine (HC.out _).mono ?_; rintro e w1 ⟨rfl, hq1⟩)
          go_roundw
          case rel => exact ⟨i + 1, _, by go_num, rfl, by omega, by have h32 : (⟨#[32]⟩ : ByteArray).size = 1 := rfl; simp only [ByteArray.size_append]; omega, Lib.hid (by rw [HT2.out]; simp only [Go.Joins.data_append]), HB, hq.trans hq1⟩
          case measure => simp [intOf]; omega
        · have HT2 : Hid (tellText (l.take (i + 1)) = (o.data.toList ++ [32]) ++ hx) := Lib.hid (by rw [HT.out, if_neg h0, hot.out])
          have e0 : (i : Int) > 0 := by omega
          clear h0
          go_wp2_with (go_at_call 26; refine (HC.out _).mono ?_; rintro e w1 ⟨rfl, hq1⟩)
          go_roundw
          case rel => exact ⟨i + 1, _, by go_num, rfl, by omega, by have h32 : (⟨#[32]⟩ : ByteArray).size = 1 := rfl; simp only [ByteArray.size_append]; omega, Lib.hid (by rw [HT2.out]; simp only [Go.Joins.data_append]), HB, hq.trans hq1⟩
          case measure => simp [intOf]; omega
    · have HB : Hid (l.any badRune = false) := Lib.hid (by rw [← hbad.out, List.take_of_length_le (by omega)])
      have HT : Hid (tellText l = o.data.toList) := Lib.hid (by rw [hot.out, List.take_of_length_le (by omega)])
      go_wp2
      go_ret2
      exact ⟨by rw [HB.out, HT.out, toList_toArray]; rfl, hq⟩
end Go.Proofs.YtleadeaahlmmiaaGreatDoor.RefNine
