/- Every Print of a book is what the document says, and what is printed is read back: the statement BookPrints answers true at every book whose reading (and those of the library's tables that are listed) is of bulk at most 1048576. -/
import Derived.Test.YtgdambmineeboaaGreatDoorCards
import Derived.Test.YtgdambmineeboaaGreatDoorTie
import Derived.Test.YtgdambmineeboaaGreatDoorBLaw
import Derived.Test.YtgdambmineeboaaGreatDoorBOpen
import Derived.ProofKit
import Derived.OpenShut
import Derived.ShutString
import Derived.SliceStrings
import Derived.Lib.SmallJoins
import Derived.Deep.DeepHandedRow
import Derived.Deep.DeepWitnessRowRef
import Derived.Lib.LaidTab
import Derived.Lib.LaidU8
import Derived.PinnedBridge
import Derived.LaidMore
import Derived.Lay
import Derived.JoinedCond
import Derived.SevenTiedAt
set_option linter.unusedSimpArgs false
set_option linter.unusedVariables false
namespace Go.Proofs.YtgdambmineeboaaGreatDoor.Card
open Go.ChangeShapes Go.WideShapes Go.ChangeAt Go.RowKit Go.Joins Go.Deep
open Go.Lib
open Go.ChangeMaps (open_string shut_string)
open Go.Proofs.YtgdambmineeboaaGreatDoor.Tell Go.Proofs.YtgdambmineeboaaGreatDoor.Print Go.Proofs.YtgdambmineeboaaGreatDoor.RefNine Go.Proofs.YtgdambmineeboaaGreatDoor.Cut Go.Proofs.YtgdambmineeboaaGreatDoor.Mem Go.Proofs.YtgdambmineeboaaGreatDoor.Book Go.Proofs.YtgdambmineeboaaGreatDoor.Open Go.Proofs.YtgdambmineeboaaGreatDoor.Tells10 Go.Proofs.YtgdambmineeboaaGreatDoor.Law10

theorem own : ownKnob Tryz.prog.godebug = none := by kernel_rfl
theorem laidOut : laidOutB Tryz.prog = true := by kernel_rfl
theorem extra : U8Extra Tryz.prog Tryz.lays260_ren := ⟨by kernel_rfl, by kernel_rfl, by kernel_rfl, by kernel_rfl, by kernel_rfl, by kernel_rfl, by kernel_rfl⟩
theorem accept_eq : Rows.laid_unicode_utf8_acceptRanges = acceptData := by kernel_rfl
theorem first_eq : Rows.laid_unicode_utf8_first = firstData := Pinned.utf8First_eq

def deb : List Int := [0, 1, 56, 2, 57, 49, 28, 3, 61, 58, 42, 50, 38, 29, 17, 4, 62, 47, 59, 36, 45, 43, 51, 22, 53, 39, 33, 30, 24, 18, 12, 5, 63, 55, 48, 27, 60, 41, 37, 16, 46, 35, 44, 21, 52, 32, 23, 11, 54, 26, 40, 15, 34, 20, 31, 10, 25, 14, 19, 9, 13, 8, 7, 6]
theorem deb_eq : (Rows.laid_math_bits_deBruijn64tab : DataW Unit) = tabData .u8 deb := by kernel_rfl
theorem gDeb : Tryz.prog.globalNamed "math/bits.deBruijn64tab" = some 6 := by kernel_rfl
theorem tDeb : (Tryz.prog.globals[(6 : Nat)]?).map (·.type) = some 263 := by kernel_rfl

theorem tabs_of {W : World} (h : laidMetH Tryz.prog Rows.bookPrintsRow.laid W) : Tabs W := by
 rw [MakeChecks.laidMetH_plain _ _ _ (by kernel_rfl)] at h
 have h3 := laidMet.reads h (n := "unicode/utf8.first") (d := Rows.laid_unicode_utf8_first) (by simp [Rows.bookPrintsRow])
 have h4 := laidMet.reads h (n := "unicode/utf8.acceptRanges") (d := Rows.laid_unicode_utf8_acceptRanges) (by simp [Rows.bookPrintsRow])
 have h6 := laidMet.reads h (n := "math/bits.deBruijn64tab") (d := Rows.laid_math_bits_deBruijn64tab) (by simp [Rows.bookPrintsRow])
 rw [first_eq] at h3
 rw [accept_eq] at h4
 have ht := utf8Tabs_of_reads Tryz.lays260 extra h3 h4
 obtain ⟨g, t, cs, fuel, p, hg, hty, hvar, hd⟩ := h6
 obtain rfl := Option.some.inj (gDeb.symm.trans hg)
 obtain rfl := Option.some.inj (tDeb.symm.trans hty)
 rw [deb_eq] at hd
 have hcs := cells_of_tab Tryz.underlying263 Tryz.underlying5 (by kernel_rfl) (by kernel_rfl) hd
 have hc := World.var?_cell gDeb hvar 15
 rw [← Array.getElem?_toList, hcs] at hc
 exact ⟨ht, hc, World.block_lt_of_cell? W _ hc⟩

theorem gTen : Tryz.prog.globalNamed "internal/strconv.uint64pow10" = some 1 := by kernel_rfl
theorem tTen : (Tryz.prog.globals[(1 : Nat)]?).map (·.type) = some 236 := by kernel_rfl
theorem ten_eq : (Rows.laid_internal_strconv_uint64pow10 : DataW Unit) = tabData .u64 pow10Tab := by kernel_rfl
theorem tens_of {W : World} (h : laidMetH Tryz.prog Rows.bookPrintsRow.laid W) : Tens W := by
 rw [MakeChecks.laidMetH_plain _ _ _ (by kernel_rfl)] at h
 have h6 := laidMet.reads h (n := "internal/strconv.uint64pow10") (d := Rows.laid_internal_strconv_uint64pow10) (by simp [Rows.bookPrintsRow])
 obtain ⟨g, t, cs, fuel, p, hg, hty, hvar, hd⟩ := h6
 obtain rfl := Option.some.inj (gTen.symm.trans hg)
 obtain rfl := Option.some.inj (tTen.symm.trans hty)
 rw [ten_eq] at hd
 have hcs := cells_of_tab Tryz.underlying236 Tryz.underlying191 (by kernel_rfl) (by kernel_rfl) hd
 unfold Tens TabIs
 rw [hvar, ← hcs]

theorem quick_of {W : World} (h : W.ShapedOpen Tryz.prog) : Quick W := by
 have hc := Go.Proofs.cell_of_shapedOpen_int (zero := #[.int .i64 0]) (t := 3) h (g := 2) (of_decide_eq_true (by kernel_rfl)) (by kernel_rfl) rfl (by kernel_rfl) (by kernel_rfl) Tryz.underlying3
 exact ⟨hc, hc.elim fun m hm => World.block_lt_of_cell? W _ hm⟩
theorem cells_book : Tryz.prog.cellsOf 27 = 11 := by kernel_rfl
theorem kc22 : Tryz.prog.cellsOf 22 = 1 := by kernel_rfl
theorem kc23 : Tryz.prog.cellsOf 23 = 1 := by kernel_rfl
theorem kc24 : Tryz.prog.cellsOf 24 = 1 := by kernel_rfl
theorem kc25 : Tryz.prog.cellsOf 25 = 1 := by kernel_rfl
theorem array11 {cs : Array Value} (h : cs.size = 11) : ∃ c0 c1 c2 c3 c4 c5 c6 c7 c8 c9 c10, cs = #[c0, c1, c2, c3, c4, c5, c6, c7, c8, c9, c10] := by
 obtain ⟨l⟩ := cs
 match l, h with
 | [c0, c1, c2, c3, c4, c5, c6, c7, c8, c9, c10], _ => exact ⟨c0, c1, c2, c3, c4, c5, c6, c7, c8, c9, c10, rfl⟩
theorem list11 {α : Type} {l : List α} (h : l.length = 11) : ∃ y0 y1 y2 y3 y4 y5 y6 y7 y8 y9 y10, l = [y0, y1, y2, y3, y4, y5, y6, y7, y8, y9, y10] := by
 match l, h with
 | [y0, y1, y2, y3, y4, y5, y6, y7, y8, y9, y10], _ => exact ⟨y0, y1, y2, y3, y4, y5, y6, y7, y8, y9, y10, rfl⟩
section
variable {H : Type} {enc : TypeId × Value → H} {w : World}
set_option maxRecDepth 100000 in
theorem book_open {v : Value} {d : DataW H} {p : List MemPlace} {r : Reach} {b0 : Nat} (hv : Value.okWide Tryz.prog w r b0 27 v) (h : DataW.Trod enc Tryz.prog w 0 (fun _ => true) true 27 v d p) (hk : Rows.uptoBulk d ≤ 1048576) :
  ∃ (B : Mem.Book) (A : Ads), v = bookV B A ∧ Small B ∧ Lies w B A ∧ B.names.length ≤ A.nc := by
 obtain ⟨cs, rfl, hsz⟩ := okWide_struct Tryz.underlying27 hv
 rw [cells_book] at hsz
 obtain ⟨fuel, hf⟩ := h
 obtain ⟨xs, n, _, hx, hl, hxl, hfl⟩ := DataW.trod_struct Tryz.underlying27 hf
 obtain ⟨c0, c1, c2, c3, c4, c5, c6, c7, c8, c9, c10, rfl⟩ := array11 hsz
 obtain ⟨y0, y1, y2, y3, y4, y5, y6, y7, y8, y9, y10, rfl⟩ := list11 hxl
 have g0 : DataW.trod enc Tryz.prog w 0 (fun _ => true) true n 22 [c0] = some y0 := by
  have h := hfl 0 _ rfl
  simpa [Value.cells, kc22] using h
 have g1 : DataW.trod enc Tryz.prog w 0 (fun _ => true) true n 23 [c1] = some y1 := by
  have h := hfl 1 _ rfl
  simpa [Value.cells, kc23] using h
 have g2 : DataW.trod enc Tryz.prog w 0 (fun _ => true) true n 24 [c2] = some y2 := by
  have h := hfl 2 _ rfl
  simpa [Value.cells, kc24] using h
 have g3 : DataW.trod enc Tryz.prog w 0 (fun _ => true) true n 23 [c3] = some y3 := by
  have h := hfl 3 _ rfl
  simpa [Value.cells, kc23] using h
 have g4 : DataW.trod enc Tryz.prog w 0 (fun _ => true) true n 24 [c4] = some y4 := by
  have h := hfl 4 _ rfl
  simpa [Value.cells, kc24] using h
 have g5 : DataW.trod enc Tryz.prog w 0 (fun _ => true) true n 25 [c5] = some y5 := by
  have h := hfl 5 _ rfl
  simpa [Value.cells, kc25] using h
 have g6 : DataW.trod enc Tryz.prog w 0 (fun _ => true) true n 23 [c6] = some y6 := by
  have h := hfl 6 _ rfl
  simpa [Value.cells, kc23] using h
 have g7 : DataW.trod enc Tryz.prog w 0 (fun _ => true) true n 23 [c7] = some y7 := by
  have h := hfl 7 _ rfl
  simpa [Value.cells, kc23] using h
 have g8 : DataW.trod enc Tryz.prog w 0 (fun _ => true) true n 25 [c8] = some y8 := by
  have h := hfl 8 _ rfl
  simpa [Value.cells, kc25] using h
 have g9 : DataW.trod enc Tryz.prog w 0 (fun _ => true) true n 23 [c9] = some y9 := by
  have h := hfl 9 _ rfl
  simpa [Value.cells, kc23] using h
 have g10 : DataW.trod enc Tryz.prog w 0 (fun _ => true) true n 24 [c10] = some y10 := by
  have h := hfl 10 _ rfl
  simpa [Value.cells, kc24] using h
 clear hfl hf hv
 simp only [Prod.mk.injEq] at hx
 obtain ⟨rfl, _⟩ := hx
 simp only [List.map_cons, List.map_nil, Rows.uptoBulk, Rows.uptoBulkAll] at hk
 obtain ⟨a0, l0, k0, rfl, p0, t0, b0, z0⟩ := strs_open g0
 obtain ⟨a1, l1, k1, rfl, p1, t1, b1⟩ := vals_open g1
 obtain ⟨a2, l2, k2, rfl, p2, t2, b2, z2⟩ := chrs_open g2
 obtain ⟨a3, l3, k3, rfl, p3, t3, b3⟩ := vals_open g3
 obtain ⟨a4, l4, k4, rfl, p4, t4, b4, z4⟩ := chrs_open g4
 obtain ⟨a5, l5, k5, rfl, p5, t5, b5⟩ := spns_open g5
 obtain ⟨a6, l6, k6, rfl, p6, t6, b6⟩ := vals_open g6
 obtain ⟨a7, l7, k7, rfl, p7, t7, b7⟩ := vals_open g7
 obtain ⟨a8, l8, k8, rfl, p8, t8, b8⟩ := spns_open g8
 obtain ⟨a9, l9, k9, rfl, p9, t9, b9⟩ := vals_open g9
 obtain ⟨a10, l10, k10, rfl, p10, t10, b10, z10⟩ := chrs_open g10
 refine ⟨⟨l0, l1, l2, l3, l4, l5, l6, l7, l8, l9, l10⟩, ⟨a0, k0, a1, k1, a2, k2, a3, k3, a4, k4, a5, k5, a6, k6, a7, k7, a8, k8, a9, k9, a10, k10⟩, rfl, ⟨by show l0.length ≤ _; omega, by show l1.length ≤ _; omega, by show l2.length ≤ _; omega, fun x hx => by have := z2 x hx; omega, by show l3.length ≤ _; omega, by show l4.length ≤ _; omega, fun x hx => by have := z4 x hx; omega, by show l5.length ≤ _; omega, by show l6.length ≤ _; omega, by show l7.length ≤ _; omega, by show l8.length ≤ _; omega, by show l9.length ≤ _; omega, by show l10.length ≤ _; omega, fun x hx => by have := z10 x hx; omega, fun s hs => by have := z0 s hs; omega⟩, ⟨t0, t1, t2, t3, t4, t5, t6, t7, t8, t9, t10⟩, p0⟩
end

set_option maxRecDepth 100000 in
theorem contract (H : Type) (enc : TypeId × Value → H) (W : World) (base : Nat) (args : Array Value) (ds gs : List (DataW H)) (before : List MemPlace)
  (hval : ∀ (j : Nat) t v, Tryz.f3.params[j]? = some t → args[j]? = some v → Value.okWide Tryz.prog W .any base t v)
  (hW : DataW.Whole enc Tryz.prog Tryz.f3.params.toList Rows.bookPrintsSpec.vars false W args.toList ds gs before) (hk : Rows.uptoSmall H (ds ++ gs) = true) (hT : Tabs W) (hN : Tens W) (hQ : Quick W) :
  Calls Tryz.prog 3 args W fun e W' => ∃ v, e = .returned v ∧ Rows.bookPrintsSpec.post enc Tryz.prog Tryz.f3 false true false false W args v W' := by
 have hW' := hW
 obtain ⟨p, q, hA0, hV, rfl, hfz, hnd⟩ := hW
 have hA : DataW.TrodAll enc Tryz.prog W 0 (fun _ => true) true Tryz.f3.params.toList args.toList ds p := hA0
 rw [Tryz.params3] at hA hval
 obtain ⟨v0, vs0, d0, ds0, p0, q0, hargs, rfl, rfl, h0, r0⟩ := trodAll_cons hA
 obtain ⟨rfl, rfl, rfl⟩ := trodAll_nil r0
 obtain rfl : args = #[v0] := by cases args; simp_all
 obtain ⟨rfl, rfl⟩ := trodVars_none hV
 have lt0 : ∀ x ∈ p0, x.block < W.heap.size := by obtain ⟨m, hm⟩ := h0; exact DataW.trod_lt m _ _ _ hm
 have hb : Rows.uptoBulkAll ([d0] ++ []) ≤ 1048576 := of_decide_eq_true hk
 simp only [List.append_nil, Rows.uptoBulkAll, Nat.add_zero] at hb
 have fin : Calls Tryz.prog 3 #[v0] W fun e w' => e = .returned (.bool true) ∧ Below W.heap.size W w' := by
  obtain ⟨B, A, rfl, hs, hL, hcn⟩ := book_open (hval 0 27 v0 rfl rfl) h0 hb
  exact law_any B A W hs hL hcn hT hN hQ
 refine fin.mono fun e W' ⟨he, bel⟩ => ?_
 subst he
 exact ⟨_, rfl, _, _, _, [], _, [], hW', trodAll_mk1 (shut_bool Tryz.underlying4 _),
  (trodAll_cons_mk (Below.trod laidOut (by kernel_rfl) (of_decide_eq_true (by kernel_rfl)) h0 bel lt0) trodAll_mk0),
  rfl, bel.frame _, fun h => by cases h⟩

/-! ### the witness -/
def zeroArgs : Array Value := #[.agg #[.slice none 0 0, .slice none 0 0, .slice none 0 0, .slice none 0 0, .slice none 0 0, .slice none 0 0, .slice none 0 0, .slice none 0 0, .slice none 0 0, .slice none 0 0, .slice none 0 0]]
noncomputable def laidWorld (os : Os) : World := World.laidAll Tryz.prog os Rows.bookPrintsRow.laid
theorem laid_met (os : Os) : laidMetH Tryz.prog Rows.bookPrintsRow.laid ((laidWorld os).forCall (fun _ _ => 0) ⟨#[], zeroArgs, []⟩).memory := by
 rw [MakeChecks.laidMetH_plain _ _ _ (by kernel_rfl)]
 exact laidMet_laidAll _ (by kernel_rfl) (by kernel_rfl)
theorem reads (os : Os) {H : Type} (enc : TypeId × Value → H) : ∃ places, DataW.whole enc Tryz.prog ((laidWorld os).forCall (fun _ _ => 0) ⟨#[], zeroArgs, []⟩).memory Tryz.f3.params.toList Rows.bookPrintsSpec.vars false zeroArgs.toList 8 =
  some ([.agg [.nil, .nil, .nil, .nil, .nil, .nil, .nil, .nil, .nil, .nil, .nil]], [], places) :=
 ⟨[], by kernel_rfl⟩

set_option maxRecDepth 100000 in
theorem liftedUpto (os : Os) (started : os.Started) (H : Type) (enc : TypeId × Value → H) (F : Stop.Interp) :
  ReturnsInHanded {} Tryz.checked os 3 .any ((Rows.OpenSpec.upto Rows.bookPrintsSpec).preRow enc Tryz.prog Tryz.f3 Rows.bookPrintsUptoRow.domain false Rows.bookPrintsUptoRow.laid) (((Rows.OpenSpec.upto Rows.bookPrintsSpec).at F).post enc Tryz.prog Tryz.f3 false true false false) := by
 obtain ⟨places, hx⟩ := reads os enc
 refine returnsInHanded_of_row (C := Tryz.checked) (s := Rows.OpenSpec.upto Rows.bookPrintsSpec) own started (by kernel_rfl) Tryz.func3
  (witness_row_atRef (enc := enc) (C := Tryz.checked) false (laidWorld os) zeroArgs (World.laidAll_os _ _ _) (by kernel_rfl) (by kernel_rfl) (by kernel_rfl)
   (OpenSpec.preRow_of_cond 8 hx (by kernel_rfl) (fun k hk => by cases hk; kernel_rfl) (by kernel_rfl) (laid_met os))) ?_
 intro W base args ds gs before hval hW _ hcond _ hL hsh _
 exact contract H enc W base args ds gs before hval hW (hcond _ rfl) (tabs_of hL) (tens_of hL) (quick_of hsh)

theorem saidUpto : Rows.BookPrintsUptoSaid :=
 OpenClaim.holds_of_cond 3 Tryz.f3 rfl rfl rfl rfl rfl rfl rfl ⟨rfl, rfl, rfl, rfl, rfl⟩ rfl rfl rfl rfl rfl (by kernel_rfl) Tryz.func3 (by kernel_rfl)
  (of_decide_eq_true (by kernel_rfl)) (by unfold Func.isWrapper; first | (rw [if_pos (by decide +kernel)]; kernel_rfl) | (rw [if_neg (by decide +kernel)]; exact ⟨rfl, rfl⟩))
  (fun os started H enc _ F => by rw [OpenClaim.pre_eq_preRow]; exact liftedUpto os started H enc F)

/-- No parameter wants a stand-in; the program's own looks are off. -/
theorem plain (f : FuncId) (fn : Func) (hf : Tryz.pinned.checked.prog.funcNamed "postern/posternlaw10.BookPrints" = some f) (hfn : Tryz.pinned.checked.prog.funcs[f]? = some fn) :
  false = Tryz.pinned.checked.prog.looks [] ∧ ∀ (j : Nat) t, fn.params[j]? = some t → Tryz.pinned.checked.prog.wantsStandIn t = false := by
 obtain rfl : f = 3 := Option.some.inj ((show Tryz.prog.funcNamed "postern/posternlaw10.BookPrints" = some 3 by kernel_rfl).symm.trans hf) |>.symm
 obtain rfl : fn = Tryz.f3 := (Option.some.inj (Tryz.func3.symm.trans hfn)).symm
 refine ⟨by kernel_rfl, fun j t ht => ?_⟩
 rw [Tryz.params3] at ht
 have hm : t ∈ [27] := by simpa using Array.mem_of_getElem? ht
 have hall : ([27].all fun u => !Tryz.prog.wantsStandIn u) = true := by kernel_rfl
 exact (show Tryz.prog.wantsStandIn t = false by simpa using List.all_eq_true.1 hall t hm)

/-- The second form's card. -/
theorem cardUpto : Rows.BookPrintsUptoCardSaid :=
 Claim7.holds_tied_plain_at .later [] _ _ _ _ saidUpto (fun _ h => by cases h) (by kernel_rfl) (fun _ h => by cases h) bookPrintsUpto_row_tie rfl ⟨rfl, rfl⟩ (by kernel_rfl) rfl plain (by kernel_rfl)
end Go.Proofs.YtgdambmineeboaaGreatDoor.Card
