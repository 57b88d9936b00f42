/- The walk of the reference's named. -/
import Derived.Test.YtgdambmineeboaaGreatDoorBMany
import Derived.Lib.ConvBytes
import Derived.Laws.BitsAllLaws
import Derived.Outline
set_option linter.unusedSimpArgs false
set_option linter.unusedVariables false
namespace Go.Proofs.YtgdambmineeboaaGreatDoor.Names
open Go.RowKit Go.Lib Go.Proofs.YtgdambmineeboaaGreatDoor.Text Go.Proofs.YtgdambmineeboaaGreatDoor.Runes Go.Proofs.YtgdambmineeboaaGreatDoor.Print Go.Proofs.YtgdambmineeboaaGreatDoor.RefNine Go.Proofs.YtgdambmineeboaaGreatDoor.RefPrint Go.Proofs.YtgdambmineeboaaGreatDoor.Format Go.Proofs.YtgdambmineeboaaGreatDoor.Tell Go.Proofs.YtgdambmineeboaaGreatDoor.Given Go.Proofs.YtgdambmineeboaaGreatDoor.Mem Go.Proofs.YtgdambmineeboaaGreatDoor.Pred

def letterB (c : UInt8) : Bool := (decide (97 ≤ c.toNat) && decide (c.toNat ≤ 122)) || (decide (65 ≤ c.toNat) && decide (c.toNat ≤ 90))
def nameB (s : ByteArray) : Bool := decide (1 ≤ s.size) && decide (s.size ≤ 32) && s.data.toList.all letterB
theorem letters_at (s : ByteArray) (i : Nat) (h : i < s.size) (hb : letterB s[i] = false) : s.data.toList.all letterB = false :=
  List.all_eq_false.2 ⟨s[i], by rw [← RefNine.getD_at s i h, List.getD_eq_getElem?_getD, List.getElem?_eq_getElem (by rw [size_data]; exact h)]; exact List.getElem_mem _, by rw [hb]; decide⟩
theorem letters_all (s : ByteArray) (h : ∀ i (hi : i < s.size), letterB s[i] = true) : s.data.toList.all letterB = true := by
  rw [List.all_eq_true]
  intro x hx
  obtain ⟨i, hi⟩ := List.getElem?_of_mem hx
  have hlt := (List.getElem?_eq_some_iff.1 hi).1
  rw [size_data] at hlt
  have := h i hlt
  rw [← RefNine.getD_at s i hlt, List.getD_eq_getElem?_getD, hi] at this
  exact this

set_option maxRecDepth 100000 in
set_option maxHeartbeats 1000000 in
theorem named_any (s : ByteArray) (w : World) (hs : s.size ≤ 1048576) : Calls Tryz.prog 141 #[.string s] w fun e w' => e = .returned (.bool (nameB s)) ∧ w = w' := by
  by_cases h1 : s.size < 1
  · have HF : Hid (nameB s = false) := Lib.hid (by unfold nameB; rw [decide_eq_false (by omega)]; rfl)
    go_enter Tryz.func141, Tryz.ntmps141
    go_wp2
    go_ret
    exact ⟨by rw [HF.out]; rfl, rfl⟩
  by_cases h2 : 32 < s.size
  · have HF : Hid (nameB s = false) := Lib.hid (by unfold nameB; rw [decide_eq_false (show ¬ s.size ≤ 32 by omega)]; simp)
    go_enter Tryz.func141, Tryz.ntmps141
    go_wp2
    go_ret
    exact ⟨by rw [HF.out]; rfl, rfl⟩
  have HB : Hid (nameB s = s.data.toList.all letterB) := Lib.hid (by unfold nameB; rw [decide_eq_true (show 1 ≤ s.size by omega), decide_eq_true (show s.size ≤ 32 by omega)]; rfl)
  go_enter Tryz.func141, Tryz.ntmps141
  go_wp2
  go_loopw [3] (fun v w' => ∃ (i : Nat), v = .int .i64 i ∧ i ≤ s.size ∧ Hid (∀ j (hj : j < s.size), j < i → letterB s[j] = true) ∧ w = w') (fun v _ => s.size - (intOf v).toNat)
  case atStart => exact ⟨0, rfl, Nat.zero_le _, Lib.hid (fun j _ h => by omega), rfl⟩
  case round =>
    obtain ⟨i, rfl, hi, hok, rfl⟩ := hrel
    by_cases hlt : i < s.size
    · have HNO := Lib.hid (fun h => letters_at s i hlt h)
      have hcs : ((97 ≤ (s[i].toNat : Int) ∧ (s[i].toNat : Int) ≤ 122) ∧ letterB s[i] = true) ∨ (((s[i].toNat : Int) < 97 ∧ 65 ≤ (s[i].toNat : Int) ∧ (s[i].toNat : Int) ≤ 90) ∧ letterB s[i] = true) ∨
          ((s[i].toNat : Int) < 65 ∧ letterB s[i] = false) ∨ ((90 < (s[i].toNat : Int) ∧ (s[i].toNat : Int) < 97) ∧ letterB s[i] = false) ∨ (122 < (s[i].toNat : Int) ∧ letterB s[i] = false) := by
        unfold letterB
        simp only [Bool.or_eq_true, Bool.or_eq_false_iff, Bool.and_eq_true, Bool.and_eq_false_iff, decide_eq_true_eq, decide_eq_false_iff_not]
        omega
      rcases hcs with ⟨⟨a1, a2⟩, hb⟩ | ⟨⟨a1, a2, a3⟩, hb⟩ | ⟨a1, hb⟩ | ⟨⟨a1, a2⟩, hb⟩ | ⟨a1, hb⟩
      · have HL := Lib.hid hb
        clear hb HNO
        go_wp2
        go_roundw
        case rel => exact ⟨i + 1, by go_num, by omega, Lib.hid (fun j hj h => by
          by_cases e : j = i
          · subst e; exact HL.out
          · exact hok.out j hj (by omega)), trivial⟩
        case measure => simp [intOf]; omega
      · have HL := Lib.hid hb
        clear hb HNO
        go_wp2
        go_roundw
        case rel => exact ⟨i + 1, by go_num, by omega, Lib.hid (fun j hj h => by
          by_cases e : j = i
          · subst e; exact HL.out
          · exact hok.out j hj (by omega)), trivial⟩
        case measure => simp [intOf]; omega
      · have HF : Hid (nameB s = false) := Lib.hid (by rw [HB.out]; exact HNO.out hb)
        clear hb HNO HB
        go_wp2
        go_ret
        exact ⟨by rw [HF.out]; rfl, rfl⟩
      · have d1 : decide ((s[i].toNat : Int) ≤ 90) = false := decide_eq_false (by omega)
        have HF : Hid (nameB s = false) := Lib.hid (by rw [HB.out]; exact HNO.out hb)
        clear hb HNO HB
        go_wp2
        go_ret
        exact ⟨by rw [HF.out]; rfl, rfl⟩
      · have d1 : decide ((s[i].toNat : Int) ≤ 90) = false := decide_eq_false (by omega)
        have d2 : decide ((s[i].toNat : Int) ≤ 122) = false := decide_eq_false (by omega)
        have HF : Hid (nameB s = false) := Lib.hid (by rw [HB.out]; exact HNO.out hb)
        clear hb HNO HB
        go_wp2
        go_ret
        exact ⟨by rw [HF.out]; rfl, rfl⟩
    · have HT : Hid (nameB s = true) := Lib.hid (by rw [HB.out]; exact letters_all s fun j hj => hok.out j hj (by omega))
      go_wp2
      go_ret
      exact ⟨by rw [HT.out]; rfl, rfl⟩
end Go.Proofs.YtgdambmineeboaaGreatDoor.Names

/- The walk of the reference's names. -/
namespace Go.Proofs.YtgdambmineeboaaGreatDoor.NamesAll
open Go.RowKit Go.Lib Go.Proofs.YtgdambmineeboaaGreatDoor.Text Go.Proofs.YtgdambmineeboaaGreatDoor.Runes Go.Proofs.YtgdambmineeboaaGreatDoor.Print Go.Proofs.YtgdambmineeboaaGreatDoor.RefNine Go.Proofs.YtgdambmineeboaaGreatDoor.RefPrint Go.Proofs.YtgdambmineeboaaGreatDoor.Format Go.Proofs.YtgdambmineeboaaGreatDoor.Tell Go.Proofs.YtgdambmineeboaaGreatDoor.Given Go.Proofs.YtgdambmineeboaaGreatDoor.Mem Go.Proofs.YtgdambmineeboaaGreatDoor.Pred Go.Proofs.YtgdambmineeboaaGreatDoor.Names

def okName (l : List ByteArray) (i : Nat) : Prop := ∃ s, l[i]? = some s ∧ nameB s = true ∧ ∀ j t, l[j]? = some t → j < i → t.data.toList ≠ s.data.toList
/-- May a list of names be? -/
def OkNames (l : List ByteArray) : Prop := l.length ≤ 64 ∧ ∀ i, i < l.length → okName l i

set_option maxRecDepth 100000 in
set_option maxHeartbeats 1000000 in
theorem names_any (a : Option Addr) (l : List ByteArray) (c : Nat) (w : World) (hl : l.length ≤ 1048576) (hz : ∀ s ∈ l, s.size ≤ 1048576) (hcap : l.length ≤ c) (hS : Strs w a l) :
    Calls Tryz.prog 83 #[.slice a l.length c] w fun e w' => ∃ r, e = .returned (.int .i64 r) ∧ (0 ≤ r ↔ ¬ OkNames l) ∧ w = w' := by
  have HS := Lib.hid hS
  have HZ := Lib.hid hz
  clear hS hz
  by_cases hbig : 64 < l.length
  · have HF : Hid (¬ OkNames l) := Lib.hid (fun h => by have := h.1; omega)
    go_enter Tryz.func83, Tryz.ntmps83
    go_wp2
    go_ret
    exact ⟨64, rfl, ⟨fun _ => HF.out, fun _ => by omega⟩, rfl⟩
  go_enter Tryz.func83, Tryz.ntmps83
  go_wp2
  go_loopw [12] (fun v w' => ∃ (i : Nat), v = .int .i64 i ∧ i ≤ l.length ∧ Hid (∀ j, j < i → okName l j) ∧ w = w') (fun v _ => l.length - (intOf v).toNat)
  case atStart => exact ⟨0, rfl, Nat.zero_le _, Lib.hid (fun j h => by omega), rfl⟩
  case round =>
    obtain ⟨i, rfl, hi, hok, rfl⟩ := hrel
    by_cases hlt : i < l.length
    · obtain ⟨s, hs⟩ : ∃ s, l[i]? = some s := ⟨_, List.getElem?_eq_getElem hlt⟩
      rcases HS.out with h0 | ⟨bk, o, rfl, hbk, hc⟩
      · subst h0; simp at hlt
      have q0 := hc i s hs
      have HC := Lib.hid hc
      have HSS := Lib.hid hs
      have HN := Lib.hid (fun W => named_any s W (HZ.out s (List.mem_of_getElem? hs)))
      have hnm : nameB s = false → ¬ OkNames l := fun h hk => by
        obtain ⟨s', h1, h2, _⟩ := hk.2 i hlt
        rw [hs] at h1
        cases h1
        rw [h] at h2
        cases h2
      have HNM := Lib.hid hnm
      have HB : Hid (nameB s = nameB s) := Lib.hid rfl
      have HNB : ∀ b, nameB s = b → Hid (nameB s = b) := fun b h => Lib.hid h
      have hic : i ≤ c := by omega
      clear hc hs hnm
      cases hb : nameB s with
      | false =>
        rw [hb] at HN
        go_wp2_with (go_at_call 141; refine (HN.out _).mono ?_; rintro e w1 ⟨rfl, rfl⟩)
        go_ret
        exact ⟨i, rfl, ⟨fun _ => HNM.out hb, fun _ => by omega⟩, rfl⟩
      | true =>
        have HBT := Lib.hid hb
        rw [hb] at HN
        clear hb HB HNB HNM
        go_wp2_with (go_at_call 141; refine (HN.out _).mono ?_; rintro e w1 ⟨rfl, rfl⟩)
        go_loopw [25] (fun v w' => ∃ (k : Nat), v = .int .i64 k ∧ k ≤ i ∧ Hid (∀ j t, l[j]? = some t → j < k → t.data.toList ≠ s.data.toList) ∧ w = w') (fun v _ => i - (intOf v).toNat)
        case atStart => exact ⟨0, rfl, Nat.zero_le _, Lib.hid (fun j t _ h => by omega), rfl⟩
        case round =>
          obtain ⟨k, rfl, hk, hne, rfl⟩ := hrel
          by_cases hkl : k < i
          · obtain ⟨t, ht⟩ : ∃ t, l[k]? = some t := ⟨_, List.getElem?_eq_getElem (by omega)⟩
            have q1 := HC.out k t ht
            have HTT := Lib.hid ht
            clear ht
            by_cases he : t.data.toList = s.data.toList
            · have e1 : (t.toList == s.toList) = true := by rw [beq_iff_eq, ByteArray.toList_eq, ByteArray.toList_eq]; exact he
              have HF : Hid (¬ OkNames l) := Lib.hid (fun h => by
                obtain ⟨s', h1, _, h3⟩ := h.2 i hlt
                rw [HSS.out] at h1
                cases h1
                exact h3 k t HTT.out hkl he)
              clear he
              go_wp2
              go_ret
              exact ⟨i, rfl, ⟨fun _ => HF.out, fun _ => by omega⟩, rfl⟩
            · have e1 : (t.toList == s.toList) = false := by rw [beq_eq_false_iff_ne, ByteArray.toList_eq, ByteArray.toList_eq]; exact he
              have HE := Lib.hid he
              clear he
              go_wp2
              go_roundw
              case rel => exact ⟨k + 1, by go_num, by omega, Lib.hid (fun j t' h1 h2 => by
                by_cases e : j = k
                · subst e
                  rw [HTT.out] at h1
                  cases h1
                  exact HE.out
                · exact hne.out j t' h1 (by omega)), trivial⟩
              case measure => simp [intOf]; omega
          · obtain rfl : k = i := by omega
            have HO : Hid (okName l k) := Lib.hid ⟨s, HSS.out, HBT.out, hne.out⟩
            go_wp2
            go_roundw
            case rel => exact ⟨k + 1, by go_num, by omega, Lib.hid (fun j h => by
              by_cases e : j = k
              · subst e; exact HO.out
              · exact hok.out j (by omega)), trivial⟩
            case measure => simp [intOf]; omega
    · obtain rfl : i = l.length := by omega
      have HT : Hid (OkNames l) := Lib.hid ⟨by omega, hok.out⟩
      go_wp2
      go_ret
      exact ⟨-1, rfl, ⟨fun h => by omega, fun h => absurd HT.out h⟩, rfl⟩
end Go.Proofs.YtgdambmineeboaaGreatDoor.NamesAll

/- The walk of the program's isName. -/
namespace Go.Proofs.YtgdambmineeboaaGreatDoor.IsName
open Go.RowKit Go.Lib Go.Proofs.YtgdambmineeboaaGreatDoor.Text Go.Proofs.YtgdambmineeboaaGreatDoor.Runes Go.Proofs.YtgdambmineeboaaGreatDoor.Print Go.Proofs.YtgdambmineeboaaGreatDoor.RefNine Go.Proofs.YtgdambmineeboaaGreatDoor.RefPrint Go.Proofs.YtgdambmineeboaaGreatDoor.Format Go.Proofs.YtgdambmineeboaaGreatDoor.Tell Go.Proofs.YtgdambmineeboaaGreatDoor.Given Go.Proofs.YtgdambmineeboaaGreatDoor.Mem Go.Proofs.YtgdambmineeboaaGreatDoor.Pred Go.Proofs.YtgdambmineeboaaGreatDoor.Names

theorem bytes_below (w : World) (e : TypeId) (s : ByteArray) : Below w.heap.size w (bytesWorld w e s) :=
  ⟨rfl, rfl, rfl, by rw [bytesWorld_size]; omega, fun j hj => bytesWorld_at_old w e s j hj⟩
theorem or_letter : ∀ c : UInt8, letterB c = (decide (97 ≤ (c ||| 32).toNat) && decide ((c ||| 32).toNat ≤ 122)) := by
  intro c
  have : ∀ n : Fin 256, letterB (UInt8.ofNat n.val) = (decide (97 ≤ (UInt8.ofNat n.val ||| 32).toNat) && decide ((UInt8.ofNat n.val ||| 32).toNat ≤ 122)) := by decide +kernel
  have h := this ⟨c.toNat, c.toNat_lt⟩
  simpa using h
set_option maxRecDepth 100000 in
set_option maxHeartbeats 1000000 in
theorem isName_any (s : ByteArray) (w : World) (hs : s.size ≤ 1048576) : Calls Tryz.prog 118 #[.string s] w fun e w' => e = .returned (.bool (nameB s)) ∧ Below w.heap.size w w' := by
  by_cases h1 : s.size < 1
  · have HF : Hid (nameB s = false) := Lib.hid (by unfold nameB; rw [decide_eq_false (by omega)]; rfl)
    go_enter Tryz.func118, Tryz.ntmps118
    go_wp2
    go_ret
    exact ⟨by rw [HF.out]; rfl, Below.refl _ _⟩
  by_cases h2 : 32 < s.size
  · have HF : Hid (nameB s = false) := Lib.hid (by unfold nameB; rw [decide_eq_false (show ¬ s.size ≤ 32 by omega)]; simp)
    go_enter Tryz.func118, Tryz.ntmps118
    go_wp2
    go_ret
    exact ⟨by rw [HF.out]; rfl, Below.refl _ _⟩
  have HB : Hid (nameB s = s.data.toList.all letterB) := Lib.hid (by unfold nameB; rw [decide_eq_true (show 1 ≤ s.size by omega), decide_eq_true (show s.size ≤ 32 by omega)]; rfl)
  have kc := Lib.run_convert_string_bytes (P := Tryz.prog) w 9 57 5 s Tryz.underlying9 Tryz.underlying57 Tryz.underlying5
  have hcell := Lib.hid (fun (j : Nat) (hj : j < s.size) => bytesWorld_cell w 5 s j hj)
  have hbW := Lib.hid (bytes_below w 5 s)
  have hsz := bytesWorld_size w 5 s
  generalize bytesWorld w 5 s = W at *
  generalize grownCap w s.size 0 5 = cp at *
  go_enter Tryz.func118, Tryz.ntmps118
  go_wp2
  go_loopw [16] (fun v w' => ∃ (i : Nat), v = .int .i64 i ∧ i ≤ s.size ∧ Hid (∀ j (hj : j < s.size), j < i → letterB s[j] = true) ∧ W = w') (fun v _ => s.size - (intOf v).toNat)
  case atStart => exact ⟨0, rfl, Nat.zero_le _, Lib.hid (fun j _ h => by omega), rfl⟩
  case round =>
    obtain ⟨i, rfl, hi, hok, rfl⟩ := hrel
    by_cases hlt : i < s.size
    · have q0 := hcell.out i hlt
      have HNO := Lib.hid (fun h => letters_at s i hlt h)
      have e0 : (s.data.toList.getD i 0) = s[i] := RefNine.getD_at s i hlt
      rw [e0] at q0
      have hor : letterB s[i] = (decide (97 ≤ bits BinOp.or IntKind.u8 (s[i].toNat : Int) 32) && decide (bits BinOp.or IntKind.u8 (s[i].toNat : Int) 32 ≤ 122)) := by
        have e := u8_or_nat s[i].toNat 32 s[i].toNat_lt (by decide)
        rw [show ((32 : Nat) : Int) = 32 from rfl] at e
        rw [e, or_letter, UInt8.toNat_or, show (32 : UInt8).toNat = 32 from rfl]
        congr 1 <;> (congr 1; apply propext; omega)
      have hcs : (bits BinOp.or IntKind.u8 (s[i].toNat : Int) 32 < 97 ∧ letterB s[i] = false) ∨ ((¬ bits BinOp.or IntKind.u8 (s[i].toNat : Int) 32 < 97 ∧ 122 < bits BinOp.or IntKind.u8 (s[i].toNat : Int) 32) ∧ letterB s[i] = false) ∨ ((¬ bits BinOp.or IntKind.u8 (s[i].toNat : Int) 32 < 97 ∧ ¬ 122 < bits BinOp.or IntKind.u8 (s[i].toNat : Int) 32) ∧ letterB s[i] = true) := by
        rw [hor]
        simp only [Bool.and_eq_true, Bool.and_eq_false_iff, decide_eq_true_eq, decide_eq_false_iff_not]
        omega
      clear e0 hor
      rcases hcs with ⟨e1, hb⟩ | ⟨⟨e1, e2⟩, hb⟩ | ⟨⟨e1, e2⟩, hb⟩
      · have HF : Hid (nameB s = false) := Lib.hid (by rw [HB.out]; exact HNO.out hb)
        clear hb HNO HB
        go_wp2
        go_ret
        exact ⟨by rw [HF.out]; rfl, hbW.out⟩
      · have HF : Hid (nameB s = false) := Lib.hid (by rw [HB.out]; exact HNO.out hb)
        clear hb HNO HB
        go_wp2
        go_ret
        exact ⟨by rw [HF.out]; rfl, hbW.out⟩
      · have HL := Lib.hid hb
        clear hb HNO
        go_wp2
        go_roundw
        case rel => exact ⟨i + 1, by go_num, by omega, Lib.hid (fun j hj h => by
          by_cases e : j = i
          · subst e; exact HL.out
          · exact hok.out j hj (by omega)), trivial⟩
        case measure => simp [intOf]; omega
    · have HT : Hid (nameB s = true) := Lib.hid (by rw [HB.out]; exact letters_all s fun j hj => hok.out j hj (by omega))
      go_wp2
      go_ret
      exact ⟨by rw [HT.out]; rfl, hbW.out⟩
end Go.Proofs.YtgdambmineeboaaGreatDoor.IsName

/- The walk of the program's names. -/
namespace Go.Proofs.YtgdambmineeboaaGreatDoor.NamesP
open Go.RowKit Go.Lib Go.Proofs.YtgdambmineeboaaGreatDoor.Text Go.Proofs.YtgdambmineeboaaGreatDoor.Runes Go.Proofs.YtgdambmineeboaaGreatDoor.Print Go.Proofs.YtgdambmineeboaaGreatDoor.RefNine Go.Proofs.YtgdambmineeboaaGreatDoor.RefPrint Go.Proofs.YtgdambmineeboaaGreatDoor.Format Go.Proofs.YtgdambmineeboaaGreatDoor.Tell Go.Proofs.YtgdambmineeboaaGreatDoor.Given Go.Proofs.YtgdambmineeboaaGreatDoor.Mem Go.Proofs.YtgdambmineeboaaGreatDoor.Pred Go.Proofs.YtgdambmineeboaaGreatDoor.Names Go.Proofs.YtgdambmineeboaaGreatDoor.NamesAll Go.Proofs.YtgdambmineeboaaGreatDoor.IsName

theorem contains_iff (l : List ByteArray) (i : Nat) (s : ByteArray) : Lib.containsS (l.take i) s = false ↔ ∀ (j : Nat) t, l[j]? = some t → j < i → t.data.toList ≠ s.data.toList := by
  have h : Lib.containsS (l.take i) s = false ↔ ¬ s ∈ l.take i := by rw [← Lib.containsS_iff, Bool.not_eq_true]
  rw [h]
  constructor
  · intro hn j t hj hlt e
    refine hn ?_
    rw [← ba_ext e]
    exact List.mem_of_getElem? (i := j) (by rw [List.getElem?_take, if_pos hlt]; exact hj)
  · intro hn hm
    obtain ⟨j, hj⟩ := List.getElem?_of_mem hm
    have hlt : j < i := by
      have := (List.getElem?_eq_some_iff.1 hj).1
      rw [List.length_take] at this
      omega
    rw [List.getElem?_take, if_pos hlt] at hj
    exact hn j s hj hlt rfl

set_option maxRecDepth 100000 in
set_option maxHeartbeats 1000000 in
theorem namesP_any (a : Option Addr) (l : List ByteArray) (c : Nat) (w : World) (hl : l.length ≤ 1048576) (hz : ∀ s ∈ l, s.size ≤ 1048576) (hcap : l.length ≤ c) (hS : Strs w a l) :
    Calls Tryz.prog 52 #[.slice a l.length c] w fun e w' => ∃ r, e = .returned (.int .i64 r) ∧ (0 ≤ r ↔ ¬ OkNames l) ∧ Below w.heap.size w w' := by
  have HS := Lib.hid hS
  have HZ := Lib.hid hz
  clear hS hz
  by_cases hbig : 64 < l.length
  · have HF : Hid (¬ OkNames l) := Lib.hid (fun h => by have := h.1; omega)
    go_enter Tryz.func52, Tryz.ntmps52
    go_wp2_with fail
    go_ret
    exact ⟨64, rfl, ⟨fun _ => HF.out, fun _ => by omega⟩, Below.refl _ _⟩
  go_enter Tryz.func52, Tryz.ntmps52
  go_wp2_with fail
  go_loopw [10] (fun v w' => ∃ (i : Nat), v = .int .i64 i ∧ i ≤ l.length ∧ Hid (∀ j, j < i → okName l j) ∧ Below w.heap.size w w') (fun v _ => l.length - (intOf v).toNat)
  case atStart => exact ⟨0, rfl, Nat.zero_le _, Lib.hid (fun j h => by omega), Below.refl _ _⟩
  case round =>
    obtain ⟨i, rfl, hi, hok, hb⟩ := hrel
    by_cases hlt : i < l.length
    · obtain ⟨s, hs⟩ : ∃ s, l[i]? = some s := ⟨_, List.getElem?_eq_getElem hlt⟩
      rcases HS.out.below hb with h0 | ⟨bk, o, rfl, hbk, hc⟩
      · subst h0; simp at hlt
      have q0 := hc i s hs
      have HSS := Lib.hid hs
      have HN := Lib.hid (fun W => isName_any s W (HZ.out s (List.mem_of_getElem? hs)))
      have HC := Lib.hid (fun W (hW : Below wr.heap.size wr W) => Tryz.slices_Contains_string bk o i c l s W (by omega) (by omega) (fun j hj => (hW.cell (p := ⟨bk, o + j, none⟩) hbk).trans (hc j _ (by rw [List.getD_eq_getElem?_getD, List.getElem?_eq_getElem hj]; rfl))))
      have hic : i ≤ c := by omega
      clear hc hs
      have HNO : Hid (¬ okName l i → ¬ OkNames l) := Lib.hid (fun h hk => h (hk.2 i hlt))
      have HOK : Hid (okName l i ↔ nameB s = true ∧ Lib.containsS (l.take i) s = false) := Lib.hid (by
        rw [contains_iff]
        constructor
        · rintro ⟨s', h1, h2, h3⟩
          rw [HSS.out] at h1
          cases h1
          exact ⟨h2, h3⟩
        · rintro ⟨h1, h2⟩
          exact ⟨s, HSS.out, h1, h2⟩)
      generalize nameB s = b1 at *
      generalize Lib.containsS (l.take i) s = b2 at *
      cases b1 with
      | false =>
        have HF := Lib.hid (HNO.out (fun h => by have := (HOK.out.1 h).1; cases this))
        go_wp2_with (first | (go_at_call 118; refine (HN.out _).mono ?_; rintro e w1 ⟨rfl, hb1⟩))
        go_ret
        exact ⟨i, rfl, ⟨fun _ => HF.out, fun _ => by omega⟩, hb.trans (hb1.mono hb.size)⟩
      | true =>
        cases b2 with
        | true =>
          have HF := Lib.hid (HNO.out (fun h => by have := (HOK.out.1 h).2; cases this))
          go_wp2_with (first | (go_at_call 118; refine (HN.out _).mono ?_; rintro e w1 ⟨rfl, hb1⟩) | (go_at_call 119; refine (HC.out _ hb1).mono ?_; rintro e w2 ⟨rfl, rfl⟩))
          go_ret
          exact ⟨i, rfl, ⟨fun _ => HF.out, fun _ => by omega⟩, hb.trans (hb1.mono hb.size)⟩
        | false =>
          have HO := Lib.hid (HOK.out.2 ⟨rfl, rfl⟩)
          go_wp2_with (first | (go_at_call 118; refine (HN.out _).mono ?_; rintro e w1 ⟨rfl, hb1⟩) | (go_at_call 119; refine (HC.out _ hb1).mono ?_; rintro e w2 ⟨rfl, rfl⟩))
          go_roundw
          case rel => exact ⟨i + 1, by go_num, by omega, Lib.hid (fun j h => by
            by_cases e : j = i
            · subst e; exact HO.out
            · exact hok.out j (by omega)), hb.trans (hb1.mono hb.size)⟩
          case measure => simp [intOf]; omega
    · obtain rfl : i = l.length := by omega
      have HT : Hid (OkNames l) := Lib.hid ⟨by omega, hok.out⟩
      go_wp2_with fail
      go_ret
      exact ⟨-1, rfl, ⟨fun h => by omega, fun h => absurd HT.out h⟩, hb⟩
end Go.Proofs.YtgdambmineeboaaGreatDoor.NamesP
