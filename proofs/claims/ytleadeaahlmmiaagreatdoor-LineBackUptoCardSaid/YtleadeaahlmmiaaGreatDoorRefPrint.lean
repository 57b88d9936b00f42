/- The walk of the document's Print of a line. -/
import Derived.Test.YtleadeaahlmmiaaGreatDoorRefNine
namespace Go.Proofs.YtleadeaahlmmiaaGreatDoor.RefPrint
open Go.RowKit Go.Lib Go.Proofs.YtleadeaahlmmiaaGreatDoor.Text Go.Proofs.YtleadeaahlmmiaaGreatDoor.Runes Go.Proofs.YtleadeaahlmmiaaGreatDoor.Print Go.Proofs.YtleadeaahlmmiaaGreatDoor.RefNine

theorem below_quiet {B : Nat} {w w' : World} (h : Below B w w') (n : Nat) : Below B w (w'.drewN n) := h.trans ⟨rfl, rfl, rfl, Nat.le_refl _, fun _ _ => rfl⟩

theorem join_append_le (sep : List UInt8) : ∀ (ys xs : List (List UInt8)), (Lib.join xs sep).length ≤ (Lib.join (xs ++ ys) sep).length
  | [], xs => by simp
  | y :: ys, xs => by
    have h1 := join_append_le sep ys (xs ++ [y])
    rw [List.append_assoc] at h1
    refine Nat.le_trans ?_ h1
    rw [join_snoc]
    split
    · rename_i h; subst h; simp [Lib.join_nil]
    · simp only [List.length_append]; omega
theorem join_take_le (l : List ByteArray) (sep : List UInt8) (i : Nat) : (Lib.join ((l.take i).map (·.data.toList)) sep).length ≤ (Lib.join (l.map (·.data.toList)) sep).length := by
  have := join_append_le sep ((l.drop i).map (·.data.toList)) ((l.take i).map (·.data.toList))
  rwa [← List.map_append, List.take_append_drop] at this
theorem join_step (l : List ByteArray) (sep : List UInt8) (i : Nat) (y : ByteArray) (h : l[i]? = some y) :
    Lib.join ((l.take (i + 1)).map (·.data.toList)) sep = if i = 0 then y.data.toList else Lib.join ((l.take i).map (·.data.toList)) sep ++ sep ++ y.data.toList := by
  rw [take_snoc' l i y h, List.map_append, List.map_cons, List.map_nil, join_snoc]
  by_cases h0 : i = 0
  · subst h0; simp
  · rw [if_neg h0, if_neg]
    intro h1
    have h2 : (l.take i).length = 0 := by rw [List.map_eq_nil_iff.1 h1]; rfl
    have h3 := (List.getElem?_eq_some_iff.1 h).1
    rw [List.length_take] at h2
    omega
theorem bad_at (l : List ByteArray) (i : Nat) (y : ByteArray) (h : l[i]? = some y) (hb : plainB [10, 13, 59, 35] y.data.toList = false) : badField l = true :=
  List.any_eq_true.2 ⟨y, List.mem_of_getElem? h, by simp only [hb]; rfl⟩
theorem bad_step (l : List ByteArray) (i : Nat) (y : ByteArray) (h : l[i]? = some y) (hb : plainB [10, 13, 59, 35] y.data.toList = true) (h0 : badField (l.take i) = false) : badField (l.take (i + 1)) = false := by
  unfold badField at *
  rw [take_snoc' l i y h, List.any_append, h0]
  simp [hb]
/-- A boxed line, behind draws. -/
theorem boxed_drawn (w : World) (cs : Array Value) (T : TypeId) (n : Nat) (i : Nat) (v : Value) (h : cs[i]? = some v) : ((w.alloc (.cells cs T (0, 0))).drewN n).cell? ⟨w.heap.size, i, none⟩ = some v := by
  rw [World.cell?_drewN, World.cell?_alloc_new]
  exact h

set_option maxRecDepth 100000 in
set_option maxHeartbeats 2000000 in
theorem refPrint_any (num : Int) (a : Option Addr) (l : List ByteArray) (c : Nat) (note : ByteArray) (w : World) (hl : l.length ≤ 140737488351232) (hsz : ∀ s ∈ l, s.size ≤ 140737488351232) (hn : note.size ≤ 140737488351232)
    (hj : (Lib.join (l.map (·.data.toList)) [59, 32]).length ≤ 140737488355328) (hS : Strs w a l) :
    Calls Tryz.prog 6 #[.agg #[.int .i64 num, .slice a l.length c, .string note]] w (PrintPost l note w) := by
  have HS := Lib.hid hS
  have HJ := Lib.hid hj
  have HZ := Lib.hid hsz
  clear hS hj hsz
  by_cases h0 : l.length = 0
  · have hl0 : l = [] := List.length_eq_zero_iff.1 h0
    subst hl0
    go_enter Tryz.func6, Tryz.ntmps6
    go_wp2
    go_quiet (fail)
    go_wp2
    go_ret2
    exact ⟨rfl, below_quiet ((Below.refl _ _).alloc (Nat.le_refl _) _) _⟩
  · obtain ⟨x, hx⟩ : ∃ x, l[0]? = some x := ⟨_, List.getElem?_eq_getElem (by omega)⟩
    have e0 : ((l.length : Int) == 0) = false := by rw [beq_eq_false_iff_ne]; omega
    have hpos : 0 < l.length := by omega
    rcases HS.out with h00 | ⟨bk, o, rfl, hbk, hc⟩
    · exact absurd (by rw [h00]; rfl : l.length = 0) h0
    have hcell0 : w.cell? ⟨bk, o, none⟩ = some (.string x) := hc 0 x hx
    clear hc h0
    have HX := Lib.hid hx
    have hbx : ∀ (m : Nat), l.length = m → badHead l note = (m == 0 || (m == 1 && x.data.toList == []) || !plainB [10, 13] note.data.toList) := by
      intro m hm
      unfold badHead
      rw [hm, show l.headD ⟨#[]⟩ = x from by cases l with | nil => cases hx | cons y r => cases hx; rfl]
    have HB := Lib.hid hbx
    clear hx hbx
    have hha : ∀ W, Calls Tryz.prog 18 #[.string note, .string ⟨#[10, 13]⟩] W fun e w' => e = .returned (.bool (hasL note.data.toList [10, 13])) ∧ Quiet W w' := fun W => has_any note ⟨#[10, 13]⟩ W hn (by decide)
    have HHA := Lib.hid hha
    have hba : ∀ W, Calls Tryz.prog 19 #[.string note] W fun e w' => e = .returned (.string ⟨(btrim [32, 9] note.data.toList).toArray⟩) ∧ Quiet W w' := fun W => bare_any note W hn
    have HBA := Lib.hid hba
    clear hha hba
    by_cases h1 : l.length = 1 ∧ x.data.toList = []
    · have HF : Hid (badHead l note = true) := Lib.hid (by rw [HB.out 1 h1.1, h1.2]; rfl)
      have e1 : ((l.length : Int) == 1) = true := by rw [beq_iff_eq]; omega
      have e3 : x.toList = [] := by rw [ByteArray.toList_eq]; exact h1.2
      have hone : (0 : Int) < (l.length : Int) := by omega
      clear h1
      go_enter Tryz.func6, Tryz.ntmps6
      go_wp2
      go_quiet (fail)
      go_wp2
      go_ret2
      exact ⟨by rw [HF.out]; rfl, below_quiet ((Below.refl _ _).alloc (Nat.le_refl _) _) _⟩
    · have hbad : badHead l note = !plainB [10, 13] note.data.toList := by
        rw [HB.out _ rfl]
        rcases Classical.not_and_iff_not_or_not.1 h1 with h | h
        · simp [h, Nat.ne_of_gt hpos]
        · rw [show (x.data.toList == []) = false from by rw [beq_eq_false_iff_ne]; exact h]
          simp [Nat.ne_of_gt hpos]
      have HF := Lib.hid hbad
      clear hbad
      have hor : ((l.length : Int) == 1) = false ∨ (((l.length : Int) == 1) = true ∧ x.toList.isEmpty = false) := by
        by_cases h : l.length = 1
        · refine .inr ⟨by rw [beq_iff_eq]; omega, ?_⟩
          rw [ByteArray.toList_eq, List.isEmpty_eq_false_iff]
          exact fun h2 => h1 ⟨h, h2⟩
        · exact .inl (by rw [beq_eq_false_iff_ne]; omega)
      clear h1
      have hone : (0 : Int) < (l.length : Int) := by omega
      by_cases hh : hasL note.data.toList [10, 13] = true
      · rw [hh] at HHA
        have HF2 : Hid (badHead l note = true) := Lib.hid (by rw [HF.out]; unfold plainB; rw [hh]; rfl)
        clear hh
        rcases hor with e1 | ⟨e1, e2⟩
        all_goals
          go_enter Tryz.func6, Tryz.ntmps6
          go_wp2
          go_quiet ((go_at_call 18; exact Calls.quiet_of (HHA.out _)))
          go_wp2
          go_ret2
          exact ⟨by rw [HF2.out]; rfl, below_quiet ((Below.refl _ _).alloc (Nat.le_refl _) _) _⟩
      · have hh' := Bool.eq_false_iff.2 hh
        rw [hh'] at HHA
        have hpl : plainB [10, 13] note.data.toList = (btrim [32, 9] note.data.toList == note.data.toList) := by unfold plainB; rw [hh']; rfl
        have hbl : (⟨(btrim [32, 9] note.data.toList).toArray⟩ : ByteArray).toList = btrim [32, 9] note.data.toList := by rw [ByteArray.toList_eq]
        generalize btrim [32, 9] note.data.toList = bt at *
        clear hh hh'
        by_cases hbt : bt = note.data.toList
        · have e5 : (bt == note.toList) = true := by rw [ByteArray.toList_eq, beq_iff_eq]; exact hbt
          have e6 : (bt != note.toList) = false := by rw [bne, e5]; rfl
          have HF2 : Hid (badHead l note = false) := Lib.hid (by rw [HF.out, hpl, hbt]; simp)
          clear hbt hpl hbl
          rcases hor with e1 | ⟨e1, e2⟩
          all_goals
            go_enter Tryz.func6, Tryz.ntmps6
            go_wp2
            go_quiet ((first | (go_at_call 18; exact Calls.quiet_of (HHA.out _)) | (go_at_call 19; exact Calls.quiet_of (HBA.out _))))
            go_wp2
            have hb0 : Below w.heap.size w ((w.alloc (.cells #[.int .i64 num, .slice (some ⟨bk, o, none⟩) l.length c, .string note] 32 (0, 0))).drewN nq) := below_quiet ((Below.refl _ _).alloc (Nat.le_refl _) _) _
            have hc1 : _ = some (Value.slice (some ⟨bk, o, none⟩) l.length c) := boxed_drawn w #[.int .i64 num, .slice (some ⟨bk, o, none⟩) l.length c, .string note] 32 nq 1 _ rfl
            have hc2 : _ = some (Value.string note) := boxed_drawn w #[.int .i64 num, .slice (some ⟨bk, o, none⟩) l.length c, .string note] 32 nq 2 _ rfl
            have hS0 := HS.out.below hb0
            generalize (w.alloc (.cells #[.int .i64 num, .slice (some ⟨bk, o, none⟩) l.length c, .string note] 32 (0, 0))).drewN nq = W0 at *
            go_loopw [4, 5] (fun b v w' => ∃ (i : Nat) (s : ByteArray), v = .int .i64 i ∧ b = .string s ∧ i ≤ l.length ∧ s.size ≤ 140737488355328 ∧ Hid (s.data.toList = Lib.join ((l.take i).map (·.data.toList)) [59, 32]) ∧ Hid (badField (l.take i) = false) ∧ Quiet W0 w') (fun _ v _ => l.length - (intOf v).toNat)
            case atStart => exact ⟨0, ⟨#[]⟩, rfl, rfl, Nat.zero_le _, by decide, Lib.hid rfl, Lib.hid rfl, Quiet.refl _⟩
            case round =>
              obtain ⟨i, s, rfl, rfl, hi, hs, hst, hbd, m, rfl⟩ := hrel
              by_cases hlt : i < l.length
              · obtain ⟨y, hy⟩ : ∃ y, l[i]? = some y := ⟨_, List.getElem?_eq_getElem hlt⟩
                rcases hS0 with h00 | ⟨bk', o', hEq, hbk', hc'⟩
                · exact absurd (by rw [h00]; rfl : l.length = 0) (by omega)
                cases hEq
                have hcell := hc' i y hy
                have hys := HZ.out y (List.mem_of_getElem? hy)
                have HY := Lib.hid hy
                have hfa : ∀ W, Calls Tryz.prog 18 #[.string y, .string ⟨#[10, 13, 59, 35]⟩] W fun e w' => e = .returned (.bool (hasL y.data.toList [10, 13, 59, 35])) ∧ Quiet W w' := fun W => has_any y ⟨#[10, 13, 59, 35]⟩ W hys (by decide)
                have HFA := Lib.hid hfa
                have hga : ∀ W, Calls Tryz.prog 19 #[.string y] W fun e w' => e = .returned (.string ⟨(btrim [32, 9] y.data.toList).toArray⟩) ∧ Quiet W w' := fun W => bare_any y W hys
                have HGA := Lib.hid hga
                have hpy : plainB [10, 13, 59, 35] y.data.toList = (!hasL y.data.toList [10, 13, 59, 35] && (btrim [32, 9] y.data.toList == y.data.toList)) := rfl
                clear hfa hga hc' hbk' hy
                generalize hasL y.data.toList [10, 13, 59, 35] = hb at *
                generalize btrim [32, 9] y.data.toList = yt at *
                cases hb
                · by_cases hyt : yt = y.data.toList
                  · have e7 : (yt == y.toList) = true := by rw [ByteArray.toList_eq, beq_iff_eq]; exact hyt
                    have e8 : (yt != y.toList) = false := by rw [bne, e7]; rfl
                    have HP := Lib.hid (bad_step l i y HY.out (by rw [hpy, hyt]; simp) hbd.out)
                    clear hyt hpy
                    have HL := Lib.hid (Nat.le_trans (join_take_le l [59, 32] (i + 1)) HJ.out)
                    have hst' := join_step l [59, 32] i y HY.out
                    have hss : (s.size : Int) ≤ 140737488355328 := by omega
                    have hyy : (y.size : Int) ≤ 140737488351232 := by omega
                    by_cases hi0 : i = 0
                    · have HT : Hid ((s ++ y).data.toList = Lib.join ((l.take (i + 1)).map (·.data.toList)) [59, 32]) := Lib.hid (by
                        rw [hst', if_pos hi0, Go.Joins.data_append, hst.out, hi0]; rfl)
                      have e9 : ¬ (i : Int) > 0 := by omega
                      clear hi0 hst'
                      go_wp2_with (first | (go_at_call 18; refine (HFA.out _).mono ?_; rintro e w1 ⟨rfl, m1, rfl⟩) | (go_at_call 19; refine (HGA.out _).mono ?_; rintro e w2 ⟨rfl, m2, rfl⟩))
                      go_roundw
                      case rel => exact ⟨i + 1, _, by go_num, rfl, by omega, by rw [← size_data, HT.out]; exact HL.out, Lib.hid HT.out, HP, ⟨_, rfl⟩⟩
                      case measure => simp [intOf]; omega
                    · have HT : Hid ((s ++ ⟨#[59, 32]⟩ ++ y).data.toList = Lib.join ((l.take (i + 1)).map (·.data.toList)) [59, 32]) := Lib.hid (by
                        rw [hst', if_neg hi0, Go.Joins.data_append, Go.Joins.data_append, hst.out])
                      have e9 : (i : Int) > 0 := by omega
                      clear hi0 hst'
                      go_wp2_with (first | (go_at_call 18; refine (HFA.out _).mono ?_; rintro e w1 ⟨rfl, m1, rfl⟩) | (go_at_call 19; refine (HGA.out _).mono ?_; rintro e w2 ⟨rfl, m2, rfl⟩))
                      go_roundw
                      case rel => exact ⟨i + 1, _, by go_num, rfl, by omega, by rw [← size_data, HT.out]; exact HL.out, Lib.hid HT.out, HP, ⟨_, rfl⟩⟩
                      case measure => simp [intOf]; omega
                  · have e7 : (yt == y.toList) = false := by rw [ByteArray.toList_eq, beq_eq_false_iff_ne]; exact hyt
                    have e8 : (yt != y.toList) = true := by rw [bne, e7]; rfl
                    have HP := Lib.hid (bad_at l i y HY.out (by rw [hpy, beq_eq_false_iff_ne.2 hyt]; rfl))
                    clear hyt hpy
                    go_wp2_with (first | (go_at_call 18; refine (HFA.out _).mono ?_; rintro e w1 ⟨rfl, m1, rfl⟩) | (go_at_call 19; refine (HGA.out _).mono ?_; rintro e w2 ⟨rfl, m2, rfl⟩))
                    go_ret2
                    exact ⟨by rw [HF2.out, HP.out]; rfl, below_quiet hb0 _⟩
                · have HP := Lib.hid (bad_at l i y HY.out (by rw [hpy]; rfl))
                  clear hpy
                  go_wp2_with (first | (go_at_call 18; refine (HFA.out _).mono ?_; rintro e w1 ⟨rfl, m1, rfl⟩) | (go_at_call 19; refine (HGA.out _).mono ?_; rintro e w2 ⟨rfl, m2, rfl⟩))
                  go_ret2
                  exact ⟨by rw [HF2.out, HP.out]; rfl, below_quiet hb0 _⟩
              · have HB2 : Hid (badField l = false) := Lib.hid (by rw [← hbd.out, List.take_of_length_le (by omega)])
                have HT : Hid (s.data.toList = Lib.join (l.map (·.data.toList)) [59, 32]) := Lib.hid (by rw [hst.out, List.take_of_length_le (by omega)])
                have hss : (s.size : Int) ≤ 140737488355328 := by omega
                have hnn : (note.size : Int) ≤ 140737488351232 := by omega
                by_cases hnt : note.data.toList = []
                · have e9 : note.toList = [] := by rw [ByteArray.toList_eq]; exact hnt
                  have HN : Hid (lineText l note = s.data.toList ++ [10]) := Lib.hid (by unfold lineText; rw [← HT.out, noteTail, if_pos hnt, List.append_nil])
                  clear hnt
                  go_wp2
                  go_ret2
                  refine ⟨?_, below_quiet hb0 _⟩
                  show Ending.returned (.tuple #[.string (s ++ ⟨#[10]⟩), .int .i64 0]) = _
                  rw [HF2.out, HB2.out, HN.out]
                  refine congrArg (fun s => Ending.returned (.tuple #[.string s, .int .i64 0])) ?_
                  apply ba_ext
                  simp only [Go.Joins.data_append]
                · have e9 : note.toList.isEmpty = false := by rw [ByteArray.toList_eq, List.isEmpty_eq_false_iff]; exact hnt
                  have HN : Hid (lineText l note = s.data.toList ++ ([32, 35, 32] ++ note.data.toList) ++ [10]) := Lib.hid (by unfold lineText; rw [← HT.out, noteTail, if_neg hnt])
                  clear hnt
                  go_wp2
                  go_ret2
                  refine ⟨?_, below_quiet hb0 _⟩
                  show Ending.returned (.tuple #[.string (s ++ (⟨#[32, 35, 32]⟩ ++ note) ++ ⟨#[10]⟩), .int .i64 0]) = _
                  rw [HF2.out, HB2.out, HN.out]
                  refine congrArg (fun s => Ending.returned (.tuple #[.string s, .int .i64 0])) ?_
                  apply ba_ext
                  simp only [Go.Joins.data_append]
        · have e5 : (bt == note.toList) = false := by rw [ByteArray.toList_eq, beq_eq_false_iff_ne]; exact hbt
          have e6 : (bt != note.toList) = true := by rw [bne, e5]; rfl
          have HF2 : Hid (badHead l note = true) := Lib.hid (by rw [HF.out, hpl, beq_eq_false_iff_ne.2 hbt]; rfl)
          clear hbt hpl hbl
          rcases hor with e1 | ⟨e1, e2⟩
          all_goals
            go_enter Tryz.func6, Tryz.ntmps6
            go_wp2
            go_quiet ((first | (go_at_call 18; exact Calls.quiet_of (HHA.out _)) | (go_at_call 19; exact Calls.quiet_of (HBA.out _))))
            go_wp2
            go_ret2
            exact ⟨by rw [HF2.out]; rfl, below_quiet ((Below.refl _ _).alloc (Nat.le_refl _) _) _⟩
end Go.Proofs.YtleadeaahlmmiaaGreatDoor.RefPrint
