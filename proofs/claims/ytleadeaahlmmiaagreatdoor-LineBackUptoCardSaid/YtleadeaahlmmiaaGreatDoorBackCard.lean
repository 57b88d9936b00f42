/- What line.Print prints is one line, and it is read back as it was; what code points are told is read back: the statement LineBack answers true at every line and every list of runes whose readings (and those of the library's tables that are listed) are together of bulk at most 1048576. -/
import Derived.Test.YtleadeaahlmmiaaGreatDoorCards
import Derived.Test.YtleadeaahlmmiaaGreatDoorTie
import Derived.Test.YtleadeaahlmmiaaGreatDoorBack
import Derived.ProofKit
import Derived.OpenShut
import Derived.ShutString
import Derived.SliceStrings
import Derived.Lib.SmallJoins
import Derived.Deep.DeepHandedRow
import Derived.Deep.DeepWitnessRowRef
import Derived.Lib.LaidTab
import Derived.Lib.LaidU8
import Derived.PinnedBridge
import Derived.LaidMore
import Derived.Lay
import Derived.JoinedCond
import Derived.SevenTiedAt
namespace Go.Proofs.YtleadeaahlmmiaaGreatDoor.Card
open Go.ChangeShapes Go.WideShapes Go.ChangeAt Go.RowKit Go.Joins
open Go.Lib
open Go.ChangeMaps (open_string shut_string)
open Go.Proofs.YtleadeaahlmmiaaGreatDoor.Tell Go.Proofs.YtleadeaahlmmiaaGreatDoor.Print Go.Proofs.YtleadeaahlmmiaaGreatDoor.RefNine Go.Proofs.YtleadeaahlmmiaaGreatDoor.Cut Go.Proofs.YtleadeaahlmmiaaGreatDoor.Back

theorem own : ownKnob Tryz.prog.godebug = none := by kernel_rfl
theorem laidOut : laidOutB Tryz.prog = true := by kernel_rfl
theorem extra : U8Extra Tryz.prog Tryz.lays260_ren := ⟨by kernel_rfl, by kernel_rfl, by kernel_rfl, by kernel_rfl, by kernel_rfl, by kernel_rfl, by kernel_rfl⟩
theorem accept_eq : Rows.laid_unicode_utf8_acceptRanges = acceptData := by kernel_rfl
theorem first_eq : Rows.laid_unicode_utf8_first = firstData := Pinned.utf8First_eq

def deb : List Int := [0, 1, 56, 2, 57, 49, 28, 3, 61, 58, 42, 50, 38, 29, 17, 4, 62, 47, 59, 36, 45, 43, 51, 22, 53, 39, 33, 30, 24, 18, 12, 5, 63, 55, 48, 27, 60, 41, 37, 16, 46, 35, 44, 21, 52, 32, 23, 11, 54, 26, 40, 15, 34, 20, 31, 10, 25, 14, 19, 9, 13, 8, 7, 6]
theorem deb_eq : (Rows.laid_math_bits_deBruijn64tab : DataW Unit) = tabData .u8 deb := by kernel_rfl
theorem gDeb : Tryz.prog.globalNamed "math/bits.deBruijn64tab" = some 6 := by kernel_rfl
theorem tDeb : (Tryz.prog.globals[(6 : Nat)]?).map (·.type) = some 146 := by kernel_rfl

theorem tabs_of {W : World} (h : laidMetH Tryz.prog Rows.lineBackRow.laid W) : Tabs W := by
  rw [MakeChecks.laidMetH_plain _ _ _ (by kernel_rfl)] at h
  have h3 := laidMet.reads h (n := "unicode/utf8.first") (d := Rows.laid_unicode_utf8_first) (by simp [Rows.lineBackRow])
  have h4 := laidMet.reads h (n := "unicode/utf8.acceptRanges") (d := Rows.laid_unicode_utf8_acceptRanges) (by simp [Rows.lineBackRow])
  have h6 := laidMet.reads h (n := "math/bits.deBruijn64tab") (d := Rows.laid_math_bits_deBruijn64tab) (by simp [Rows.lineBackRow])
  rw [first_eq] at h3
  rw [accept_eq] at h4
  have ht := utf8Tabs_of_reads Tryz.lays260 extra h3 h4
  obtain ⟨g, t, cs, fuel, p, hg, hty, hvar, hd⟩ := h6
  obtain rfl := Option.some.inj (gDeb.symm.trans hg)
  obtain rfl := Option.some.inj (tDeb.symm.trans hty)
  rw [deb_eq] at hd
  have hcs := cells_of_tab Tryz.underlying146 Tryz.underlying5 (by kernel_rfl) (by kernel_rfl) hd
  have hc := World.var?_cell gDeb hvar 15
  rw [← Array.getElem?_toList, hcs] at hc
  exact ⟨ht, hc, World.block_lt_of_cell? W _ hc⟩

theorem quick_of {W : World} (h : W.ShapedOpen Tryz.prog) : Quick W := by
  have hc := Go.Proofs.cell_of_shapedOpen_int (zero := #[.int .i64 0]) (t := 3) h (g := 0) (of_decide_eq_true (by kernel_rfl)) (by kernel_rfl) rfl (by kernel_rfl) (by kernel_rfl) Tryz.underlying3
  exact ⟨hc, hc.elim fun m hm => World.block_lt_of_cell? W _ hm⟩
theorem cells_line : Tryz.prog.cellsOf 24 = 3 := by kernel_rfl
theorem cells_string : Tryz.prog.cellsOf 9 = 1 := by kernel_rfl
theorem cells_rune : Tryz.prog.cellsOf 21 = 1 := by kernel_rfl

/-! ### what the bound gives -/
theorem bulk_strs {H : Type} : ∀ (l : List ByteArray), Rows.uptoBulkAll (strs (H := H) l) = Lib.lens (l.map (·.data.toList)) + l.length
  | [] => rfl
  | s :: r => by
    have ih := bulk_strs (H := H) r
    show Rows.uptoBulk (.lit (.string s.data.toList)) + Rows.uptoBulkAll (strs r) = _
    rw [ih]
    simp [Rows.uptoBulk, Lib.lens]
    omega
theorem join_le (l : List ByteArray) : (Lib.join (l.map (·.data.toList)) [59, 32]).length ≤ Lib.lens (l.map (·.data.toList)) + 2 * l.length := by
  cases l with
  | nil => simp [Lib.join_nil]
  | cons s r =>
    rw [List.map_cons, Lib.join_length]
    simp
    omega
theorem size_le (l : List ByteArray) (s : ByteArray) (h : s ∈ l) : s.size ≤ Lib.lens (l.map (·.data.toList)) := by
  induction l with
  | nil => cases h
  | cons x r ih =>
    have hl : Lib.lens ((x :: r).map (·.data.toList)) = x.data.toList.length + Lib.lens (r.map (·.data.toList)) := by simp [Lib.lens]
    rw [hl]
    have e : ∀ y : ByteArray, y.data.toList.length = y.size := fun y => by rw [Array.length_toList]; rfl
    rcases List.mem_cons.1 h with rfl | h
    · have := e s; omega
    · have := ih h; have := e x; omega
theorem bulk_lits {H : Type} (k : IntKind) : ∀ (l : List Int), Rows.uptoBulkAll (lits (H := H) k l) = l.length
  | [] => rfl
  | n :: r => by
    have ih := bulk_lits (H := H) k r
    show Rows.uptoBulk (.lit (.int k n)) + Rows.uptoBulkAll (lits k r) = _
    rw [ih]
    simp [Rows.uptoBulk]
    omega

set_option maxRecDepth 100000 in
theorem contract (H : Type) (enc : TypeId × Value → H) (W : World) (base : Nat) (args : Array Value) (ds gs : List (DataW H)) (before : List MemPlace)
    (hval : ∀ (j : Nat) t v, Tryz.f3.params[j]? = some t → args[j]? = some v → Value.okWide Tryz.prog W .any base t v)
    (hW : DataW.Whole enc Tryz.prog Tryz.f3.params.toList Rows.lineBackSpec.vars false W args.toList ds gs before) (hk : Rows.uptoSmall H (ds ++ gs) = true) (hT : Tabs W) (hQ : Quick W) :
    Calls Tryz.prog 3 args W fun e W' => ∃ v, e = .returned v ∧ Rows.lineBackSpec.post enc Tryz.prog Tryz.f3 false true false false W args v W' := by
  have hW' := hW
  obtain ⟨p, q, hA0, hV, rfl, hfz, hnd⟩ := hW
  have hA : DataW.TrodAll enc Tryz.prog W 0 (fun _ => true) true Tryz.f3.params.toList args.toList ds p := hA0
  rw [Tryz.params3] at hA hval
  obtain ⟨v0, vs0, d0, ds0, p0, q0, hargs, rfl, rfl, h0, r0⟩ := trodAll_cons hA
  obtain ⟨v1, vs1, d1, ds1, p1, q1, rfl, rfl, rfl, h1, r1⟩ := trodAll_cons r0
  obtain ⟨rfl, rfl, rfl⟩ := trodAll_nil r1
  obtain rfl : args = #[v0, v1] := by cases args; simp_all
  obtain ⟨rfl, rfl⟩ := trodVars_none hV
  have lt0 : ∀ x ∈ p0, x.block < W.heap.size := by obtain ⟨m, hm⟩ := h0; exact DataW.trod_lt m _ _ _ hm
  have lt1 : ∀ x ∈ p1, x.block < W.heap.size := by obtain ⟨m, hm⟩ := h1; exact DataW.trod_lt m _ _ _ hm
  have fin : Calls Tryz.prog 3 #[v0, v1] W fun e w' => e = .returned (.bool true) ∧ Below W.heap.size W w' := by
    obtain ⟨c0, c1, c2, y0, y1, y2, n, rfl, rfl, _, hy0, hy1, hy2⟩ := open_agg3 Tryz.underlying24 (by kernel_rfl) cells_line (hval 0 24 v0 rfl rfl) h0
    obtain ⟨num, e0, rfl, _⟩ := DataW.trod_int Tryz.underlying3 hy0
    obtain ⟨note, e2, rfl, _⟩ := DataW.trod_string Tryz.underlying9 hy2
    simp only [List.cons.injEq, and_true] at e0 e2
    subst e0 e2
    have hs : ∃ (a : Option Addr) (l : List ByteArray) (c : Nat), c1 = .slice a l.length c ∧ l.length ≤ c ∧ Strs W a l ∧ (Rows.uptoBulkAll (strs (H := H) l) ≤ Rows.uptoBulk y1.1) := by
      obtain ⟨a, l0, c0, hc1⟩ := slice_form Tryz.underlying22 hy1
      obtain rfl : c1 = .slice a l0 c0 := by simpa using hc1
      rcases open_strings Tryz.underlying22 Tryz.underlying9 cells_string hy1 with ⟨hcs, hx⟩ | ⟨b, len, cap, ss, hcs, _, hl, _, hz, hx, hcell, _⟩
      · simp only [List.cons.injEq, Value.slice.injEq, and_true] at hcs
        obtain ⟨rfl, rfl, rfl⟩ := hcs
        exact ⟨none, [], 0, rfl, Nat.le_refl _, .inl rfl, Nat.zero_le _⟩
      · simp only [List.cons.injEq, Value.slice.injEq, and_true] at hcs
        obtain ⟨rfl, rfl, rfl⟩ := hcs
        have hlen : l0 ≤ ss.length := by rw [hz]; split <;> omega
        have hl' : (ss.take l0).length = l0 := by simp [hlen]
        refine ⟨some b, ss.take l0, c0, by rw [hl'], by omega, ?_, ?_⟩
        · rcases Nat.eq_zero_or_pos l0 with h | hpos
          · left; subst h; rfl
          · right
            obtain ⟨bk, o, sp⟩ := b
            obtain rfl : sp = none := by simpa [Addr.add] using World.cell?_spot (hcell 0 (by omega))
            refine ⟨bk, o, rfl, World.block_lt_of_cell? W _ (hcell 0 (by omega)), ?_⟩
            intro j x hj
            have hj' := (List.getElem?_eq_some_iff.1 hj).1
            rw [List.getElem?_take_of_lt (by omega)] at hj
            have := hcell j (by omega)
            rw [List.getD, hj] at this
            by_cases h0 : j = 0
            · subst h0; simpa [Addr.add] using this
            · simpa [Addr.add, h0] using this
        · rw [hx]
          show _ ≤ Rows.uptoBulk (.slice (strs (ss.take l0)) (strs (ss.drop l0)))
          simp only [Rows.uptoBulk]
          omega
    obtain ⟨a1, len1, cap1, rfl⟩ := okWide_slice Tryz.underlying25 (hval 1 25 v1 rfl rfl)
    have hr : ∃ (rl : List Int), len1 = rl.length ∧ Rs W a1 rl ∧ (rl.length ≤ Rows.uptoBulk d1) := by
      obtain ⟨fuel, hf⟩ := h1
      rcases open_ints Tryz.underlying25 Tryz.underlying21 cells_rune hf with ⟨hcs, hx⟩ | ⟨b, len, cap, zs, hcs, _, hl, _, hz, hx, hcell, _⟩
      · simp only [Value.cells, List.cons.injEq, Value.slice.injEq, and_true] at hcs
        obtain ⟨rfl, rfl, rfl⟩ := hcs
        exact ⟨[], rfl, .inl rfl, Nat.zero_le _⟩
      · simp only [Value.cells, List.cons.injEq, Value.slice.injEq, and_true] at hcs
        obtain ⟨rfl, rfl, rfl⟩ := hcs
        have hlen : len1 ≤ zs.length := by rw [hz]; split <;> omega
        have hl' : (zs.take len1).length = len1 := by simp [hlen]
        refine ⟨zs.take len1, by rw [hl'], ?_, ?_⟩
        · rcases Nat.eq_zero_or_pos len1 with h | hpos
          · left; subst h; rfl
          · right
            obtain ⟨bk, o, sp⟩ := b
            obtain rfl : sp = none := by simpa [Addr.add] using World.cell?_spot (hcell 0 (by omega))
            refine ⟨bk, o, rfl, World.block_lt_of_cell? W _ (hcell 0 (by omega)), ?_⟩
            intro j x hj
            have hj' := (List.getElem?_eq_some_iff.1 hj).1
            rw [List.getElem?_take_of_lt (by omega)] at hj
            have := hcell j (by omega)
            rw [List.getD, hj] at this
            by_cases h0 : j = 0
            · subst h0; simpa [Addr.add] using this
            · simpa [Addr.add, h0] using this
        · obtain rfl : d1 = _ := congrArg Prod.fst hx
          show _ ≤ Rows.uptoBulk (.slice (lits .i32 (zs.take len1)) (lits .i32 (zs.drop len1)))
          simp only [Rows.uptoBulk]
          rw [bulk_lits]
          omega
    obtain ⟨a, l, c, rfl, hcap, hS, hb0⟩ := hs
    obtain ⟨rl, rfl, hR, hb1⟩ := hr
    have hb : Rows.uptoBulkAll ([DataW.agg [(DataW.lit (.int .i64 num) : DataW H), y1.1, .lit (.string note.data.toList)], d1] ++ []) ≤ 1048576 := of_decide_eq_true hk
    simp only [List.append_nil, Rows.uptoBulkAll, Rows.uptoBulk] at hb
    rw [bulk_strs] at hb0
    have hj := join_le l
    have en : note.data.toList.length = note.size := by rw [Array.length_toList]; rfl
    exact back_any num a l c note a1 rl cap1 W (by omega) (fun s hs => by have := size_le l s hs; omega) (by omega) hcap (by omega) (by omega) hS hR hT hQ
  refine fin.mono fun e W' ⟨he, bel⟩ => ?_
  subst he
  exact ⟨_, rfl, _, _, _, [], _, [], hW', trodAll_mk1 (shut_bool Tryz.underlying4 _),
    (trodAll_cons_mk (Below.trod laidOut (by kernel_rfl) (of_decide_eq_true (by kernel_rfl)) h0 bel lt0) (trodAll_cons_mk (Below.trod laidOut (by kernel_rfl) (of_decide_eq_true (by kernel_rfl)) h1 bel lt1) trodAll_mk0)),
    rfl, bel.frame _, fun h => by cases h⟩

/-! ### the witness -/
def zeroArgs : Array Value := #[.agg #[.int .i64 0, .slice none 0 0, .string ⟨#[]⟩], .slice none 0 0]
noncomputable def laidWorld (os : Os) : World := World.laidAll Tryz.prog os Rows.lineBackRow.laid
theorem laid_met (os : Os) : laidMetH Tryz.prog Rows.lineBackRow.laid ((laidWorld os).forCall (fun _ _ => 0) ⟨#[], zeroArgs, []⟩).memory := by
  rw [MakeChecks.laidMetH_plain _ _ _ (by kernel_rfl)]
  exact laidMet_laidAll _ (by kernel_rfl) (by kernel_rfl)
theorem reads (os : Os) {H : Type} (enc : TypeId × Value → H) : ∃ places, DataW.whole enc Tryz.prog ((laidWorld os).forCall (fun _ _ => 0) ⟨#[], zeroArgs, []⟩).memory Tryz.f3.params.toList Rows.lineBackSpec.vars false zeroArgs.toList 8 =
    some ([.agg [.lit (.int .i64 0), .nil, .lit (.string [])], .nil], [], places) :=
  ⟨[], by kernel_rfl⟩

set_option maxRecDepth 100000 in
theorem liftedUpto (os : Os) (started : os.Started) (H : Type) (enc : TypeId × Value → H) (F : Stop.Interp) :
    ReturnsInHanded {} Tryz.checked os 3 .any ((Rows.OpenSpec.upto Rows.lineBackSpec).preRow enc Tryz.prog Tryz.f3 Rows.lineBackUptoRow.domain false Rows.lineBackUptoRow.laid) (((Rows.OpenSpec.upto Rows.lineBackSpec).at F).post enc Tryz.prog Tryz.f3 false true false false) := by
  obtain ⟨places, hx⟩ := reads os enc
  refine returnsInHanded_of_row (C := Tryz.checked) (s := Rows.OpenSpec.upto Rows.lineBackSpec) own started (by kernel_rfl) Tryz.func3
    (witness_row_atRef (enc := enc) (C := Tryz.checked) false (laidWorld os) zeroArgs (World.laidAll_os _ _ _) (by kernel_rfl) (by kernel_rfl) (by kernel_rfl)
      (OpenSpec.preRow_of_cond 8 hx (by kernel_rfl) (fun k hk => by cases hk; kernel_rfl) (by kernel_rfl) (laid_met os))) ?_
  intro W base args ds gs before hval hW _ hcond _ hL hsh _
  exact contract H enc W base args ds gs before hval hW (hcond _ rfl) (tabs_of hL) (quick_of hsh)

theorem saidUpto : Rows.LineBackUptoSaid :=
  OpenClaim.holds_of_cond 3 Tryz.f3 rfl rfl rfl rfl rfl rfl rfl ⟨rfl, rfl, rfl, rfl, rfl⟩ rfl rfl rfl rfl rfl (by kernel_rfl) Tryz.func3 (by kernel_rfl)
    (of_decide_eq_true (by kernel_rfl)) (by unfold Func.isWrapper; first | (rw [if_pos (by decide +kernel)]; kernel_rfl) | (rw [if_neg (by decide +kernel)]; exact ⟨rfl, rfl⟩))
    (fun os started H enc _ F => by rw [OpenClaim.pre_eq_preRow]; exact liftedUpto os started H enc F)

/-- No parameter wants a stand-in; the program's own looks are off. -/
theorem plain (f : FuncId) (fn : Func) (hf : Tryz.pinned.checked.prog.funcNamed "postern/posternlaw09.LineBack" = some f) (hfn : Tryz.pinned.checked.prog.funcs[f]? = some fn) :
    false = Tryz.pinned.checked.prog.looks [] ∧ ∀ (j : Nat) t, fn.params[j]? = some t → Tryz.pinned.checked.prog.wantsStandIn t = false := by
  obtain rfl : f = 3 := Option.some.inj ((show Tryz.prog.funcNamed "postern/posternlaw09.LineBack" = some 3 by kernel_rfl).symm.trans hf) |>.symm
  obtain rfl : fn = Tryz.f3 := (Option.some.inj (Tryz.func3.symm.trans hfn)).symm
  refine ⟨by kernel_rfl, fun j t ht => ?_⟩
  rw [Tryz.params3] at ht
  have hm : t ∈ [24, 25] := by simpa using Array.mem_of_getElem? ht
  have hall : ([24, 25].all fun u => !Tryz.prog.wantsStandIn u) = true := by kernel_rfl
  exact (show Tryz.prog.wantsStandIn t = false by simpa using List.all_eq_true.1 hall t hm)

/-- The second form's card. -/
theorem cardUpto : Rows.LineBackUptoCardSaid :=
  Claim7.holds_tied_plain_at .later [] _ _ _ _ saidUpto (fun _ h => by cases h) (by kernel_rfl) (fun _ h => by cases h) lineBackUpto_row_tie rfl ⟨rfl, rfl⟩ (by kernel_rfl) rfl plain (by kernel_rfl)
end Go.Proofs.YtleadeaahlmmiaaGreatDoor.Card
