/- The walk of the reference's Check. -/
import Derived.Test.YtgdambmineeboaaGreatDoorBMemo
import Derived.Test.YtgdambmineeboaaGreatDoorBMergeD
import Derived.Laws.OwnMore
set_option linter.unusedSimpArgs false
set_option linter.unusedVariables false
namespace Go.Proofs.YtgdambmineeboaaGreatDoor.CheckRef
open Go.RowKit Go.Lib Go.Proofs.YtgdambmineeboaaGreatDoor.Text Go.Proofs.YtgdambmineeboaaGreatDoor.Runes Go.Proofs.YtgdambmineeboaaGreatDoor.Print Go.Proofs.YtgdambmineeboaaGreatDoor.RefNine Go.Proofs.YtgdambmineeboaaGreatDoor.RefPrint Go.Proofs.YtgdambmineeboaaGreatDoor.Format Go.Proofs.YtgdambmineeboaaGreatDoor.Tell Go.Proofs.YtgdambmineeboaaGreatDoor.Given Go.Proofs.YtgdambmineeboaaGreatDoor.Mem Go.Proofs.YtgdambmineeboaaGreatDoor.Book Go.Proofs.YtgdambmineeboaaGreatDoor.Pred Go.Proofs.YtgdambmineeboaaGreatDoor.Many Go.Proofs.YtgdambmineeboaaGreatDoor.Meets Go.Proofs.YtgdambmineeboaaGreatDoor.NamesAll Go.Proofs.YtgdambmineeboaaGreatDoor.Wrong Go.Proofs.YtgdambmineeboaaGreatDoor.Numbered Go.Proofs.YtgdambmineeboaaGreatDoor.Written Go.Proofs.YtgdambmineeboaaGreatDoor.Decomposed Go.Proofs.YtgdambmineeboaaGreatDoor.Long Go.Proofs.YtgdambmineeboaaGreatDoor.WholeRef Go.Proofs.YtgdambmineeboaaGreatDoor.Fine Go.Proofs.YtgdambmineeboaaGreatDoor.Merge

def vCm (r : Raw) : Value := .bool (wrongC 18 r.is)
def encX (x : Spn) : List Value := [.bool (touchB x.a x.b)]
def vM (st : List Val) (r : Raw) : Value := .bool (wrongM st r.plain)

def VC (x : Value) : Value → World → Prop := fun v _ => v = x
def VS (n : Nat) (l : List Spn) : Value → World → Prop := fun v w => ∃ a c, v = .slice a n c ∧ Spns w a l
def VB (n : Nat) (l : List Bool) : Value → World → Prop := fun v w => ∃ a c, v = .slice a n c ∧ Bools w a l
def VI (p : Prop) : Value → World → Prop := fun v _ => ∃ r, v = .int .i64 r ∧ (0 ≤ r ↔ ¬ p)
def Pairs (B : Mem.Book) (rl : List Int) : Prop := rl.length = 11 ∧ ∀ (j : Nat) r, rl[j]? = some r → ∃ p, (conds B)[j]? = some p ∧ (0 ≤ r ↔ ¬ p)
def VP (B : Mem.Book) : Value → World → Prop := fun v w => ∃ g rl, v = .slice (some ⟨g, 0, none⟩) 11 11 ∧ g < w.heap.size ∧ Pairs B rl ∧ ∀ (j : Nat) r, rl[j]? = some r → w.cell? ⟨g, j, none⟩ = some (.int .i64 r)
def Mono (p : Value → World → Prop) : Prop := ∀ v w w', p v w → Below w.heap.size w w' → p v w'
theorem mC (x : Value) : Mono (VC x) := fun _ _ _ h _ => h
theorem mI (p : Prop) : Mono (VI p) := fun _ _ _ h _ => h
theorem mS (n : Nat) (l : List Spn) : Mono (VS n l) := fun _ _ _ ⟨a, c, h1, h2⟩ hb => ⟨a, c, h1, h2.below hb⟩
theorem mB (n : Nat) (l : List Bool) : Mono (VB n l) := fun _ _ _ ⟨a, c, h1, h2⟩ hb => ⟨a, c, h1, h2.below hb⟩
theorem mP (B : Mem.Book) : Mono (VP B) := fun _ _ _ ⟨g, rl, h1, h2, h3, h4⟩ hb => ⟨g, rl, h1, Nat.lt_of_lt_of_le h2 hb.size, h3, fun j r hr => (hb.cell (p := ⟨g, j, none⟩) h2).trans (h4 j r hr)⟩
theorem made_bools {w : World} {base : Nat} {v : Value} {α : Type} {l : List α} (h : w.ownsRow base 4 1 v l.length (madeCells (Value.bool false).cells (l.length * 1)).toList) : ∃ a c, v = .slice a l.length c ∧ Bools w a (l.map fun _ => false) := by
  have e : (madeCells (Value.bool false).cells (l.length * 1)).toList = l.map fun _ => Value.bool false := by
    rw [show (Value.bool false).cells = #[Value.bool false] from rfl, toList_madeCells_one, Nat.mul_one, List.map_const']
  rw [e] at h
  obtain ⟨a, c, hv, hb, _⟩ := bools_of_own (f := fun _ => false) h
  exact ⟨a, c, hv, hb⟩
theorem below_none {w w' : World} (h : w.grownBy w' none) : Below w.heap.size w w' := (Below.refl _ _).grown h (Nat.le_refl _) (fun k hk => by cases hk)
theorem pairs_of {B : Mem.Book} {r0 r1 r2 r3 r4 r5 r6 r7 r8 r9 r10 : Int} {p0 p1 p2 p3 p4 p5 p6 p7 p8 p9 p10 : Prop} (hc : conds B = [p0, p1, p2, p3, p4, p5, p6, p7, p8, p9, p10]) (h0 : 0 ≤ r0 ↔ ¬ p0) (h1 : 0 ≤ r1 ↔ ¬ p1) (h2 : 0 ≤ r2 ↔ ¬ p2) (h3 : 0 ≤ r3 ↔ ¬ p3) (h4 : 0 ≤ r4 ↔ ¬ p4) (h5 : 0 ≤ r5 ↔ ¬ p5) (h6 : 0 ≤ r6 ↔ ¬ p6) (h7 : 0 ≤ r7 ↔ ¬ p7) (h8 : 0 ≤ r8 ↔ ¬ p8) (h9 : 0 ≤ r9 ↔ ¬ p9) (h10 : 0 ≤ r10 ↔ ¬ p10) :
    ∀ (j : Nat) r, [r0, r1, r2, r3, r4, r5, r6, r7, r8, r9, r10][j]? = some r → ∃ p, (conds B)[j]? = some p ∧ (0 ≤ r ↔ ¬ p) := by
  rw [hc]
  intro j r hr
  match j, hr with
  | 0, hr => cases hr; exact ⟨_, rfl, h0⟩
  | 1, hr => cases hr; exact ⟨_, rfl, h1⟩
  | 2, hr => cases hr; exact ⟨_, rfl, h2⟩
  | 3, hr => cases hr; exact ⟨_, rfl, h3⟩
  | 4, hr => cases hr; exact ⟨_, rfl, h4⟩
  | 5, hr => cases hr; exact ⟨_, rfl, h5⟩
  | 6, hr => cases hr; exact ⟨_, rfl, h6⟩
  | 7, hr => cases hr; exact ⟨_, rfl, h7⟩
  | 8, hr => cases hr; exact ⟨_, rfl, h8⟩
  | 9, hr => cases hr; exact ⟨_, rfl, h9⟩
  | 10, hr => cases hr; exact ⟨_, rfl, h10⟩
  | j + 11, hr => simp at hr
theorem cells11 {r0 r1 r2 r3 r4 r5 r6 r7 r8 r9 r10 : Int} {j : Nat} {r : Int} (h : [r0, r1, r2, r3, r4, r5, r6, r7, r8, r9, r10][j]? = some r) :
    [Value.int .i64 r0, .int .i64 r1, .int .i64 r2, .int .i64 r3, .int .i64 r4, .int .i64 r5, .int .i64 r6, .int .i64 r7, .int .i64 r8, .int .i64 r9, .int .i64 r10][j]? = some (.int .i64 r) := by
  have := congrArg (Option.map (Value.int .i64)) h
  rw [← List.getElem?_map] at this
  exact this
def AllMono : List (Value → World → Prop) → Prop
  | [] => True
  | p :: l => Mono p ∧ AllMono l
theorem mono_at : ∀ {l : List (Value → World → Prop)} (i : Nat), AllMono l → Mono (l.getD i (fun _ _ => True))
  | [], i, _ => by intro v w w' _ _; simp
  | p :: l, 0, h => h.1
  | p :: l, i + 1, h => by
    have := mono_at i h.2
    simpa using this
def preds (n0 : Nat) (B : Mem.Book) (A : Ads) (ma xa av xa' : Option Addr) (nm cv xc' : Nat) : List (Value → World → Prop) := [
  VC (.pointer (some ⟨n0, 0, none⟩)),
  VC (.slice A.na B.names.length A.nc),
  VI (OkNames B.names),
  VC (.pointer (some ⟨n0, 1, none⟩)),
  VC (.slice A.sa B.status.length A.sc),
  VS B.status.length (spV B.status),
  VC (.pointer (some ⟨n0, 1, none⟩)),
  VC (.slice A.sa B.status.length A.sc),
  VB B.status.length (B.status.map (wrongV 1 3 false)),
  VI (okRows (spV B.status) (B.status.map (wrongV 1 3 false)) = true),
  VC (.pointer (some ⟨n0, 2, none⟩)),
  VC (.slice ma nm A.mc),
  VS nm (spC B.maps),
  VC (.slice av nm cv),
  VI (okRows (spC B.maps) (B.maps.map (wrongM B.status)) = true),
  VC (.pointer (some ⟨n0, 3, none⟩)),
  VC (.slice A.ka B.cls.length A.kc),
  VS B.cls.length (spV B.cls),
  VC (.pointer (some ⟨n0, 3, none⟩)),
  VC (.slice A.ka B.cls.length A.kc),
  VB B.cls.length (B.cls.map (wrongV 1 254 true)),
  VI (okRows (spV B.cls) (B.cls.map (wrongV 1 254 true)) = true),
  VC (.pointer (some ⟨n0, 4, none⟩)),
  VC (.slice A.da B.decomp.length A.dc),
  VS B.decomp.length (spC B.decomp),
  VC (.pointer (some ⟨n0, 4, none⟩)),
  VC (.slice A.da B.decomp.length A.dc),
  VB B.decomp.length (B.decomp.map wrongDc),
  VI (okRows (spC B.decomp) (B.decomp.map wrongDc) = true),
  VC (.pointer (some ⟨n0, 5, none⟩)),
  VC (.slice xa B.excl.length A.xc),
  VC (.slice xa' B.excl.length xc'),
  VI (okRows (B.excl) (B.excl.map fun x => touchB x.a x.b) = true),
  VC (.pointer (some ⟨n0, 6, none⟩)),
  VC (.slice A.ba B.bidi.length A.bc),
  VS B.bidi.length (spV B.bidi),
  VC (.pointer (some ⟨n0, 6, none⟩)),
  VC (.slice A.ba B.bidi.length A.bc),
  VB B.bidi.length (B.bidi.map (wrongV 0 22 false)),
  VI (okRows (spV B.bidi) (B.bidi.map (wrongV 0 22 false)) = true),
  VC (.pointer (some ⟨n0, 7, none⟩)),
  VC (.slice A.ja B.join.length A.jc),
  VS B.join.length (spV B.join),
  VC (.pointer (some ⟨n0, 7, none⟩)),
  VC (.slice A.ja B.join.length A.jc),
  VB B.join.length (B.join.map (wrongV 0 5 false)),
  VI (okRows (spV B.join) (B.join.map (wrongV 0 5 false)) = true),
  VC (.pointer (some ⟨n0, 8, none⟩)),
  VC (.slice A.qa B.marks.length A.qc),
  VC (.pointer (some ⟨n0, 8, none⟩)),
  VC (.slice A.qa B.marks.length A.qc),
  VC (.int .i64 B.marks.length),
  VB B.marks.length (B.marks.map fun _ => false),
  VI (okRows (B.marks) (B.marks.map fun _ => false) = true),
  VC (.pointer (some ⟨n0, 9, none⟩)),
  VC (.slice A.ra B.script.length A.rc),
  VS B.script.length (spV B.script),
  VC (.pointer (some ⟨n0, 9, none⟩)),
  VC (.slice A.ra B.script.length A.rc),
  VC (.pointer (some ⟨n0, 0, none⟩)),
  VC (.slice A.na B.names.length A.nc),
  VC (.int .i64 B.names.length),
  VB B.script.length (B.script.map (wrongV 1 B.names.length false)),
  VI (okRows (spV B.script) (B.script.map (wrongV 1 B.names.length false)) = true),
  VC (.pointer (some ⟨n0, 10, none⟩)),
  VC (.slice A.la B.like.length A.lc),
  VS B.like.length (spC B.like),
  VC (.pointer (some ⟨n0, 10, none⟩)),
  VC (.slice A.la B.like.length A.lc),
  VB B.like.length (B.like.map (wrongCh 18)),
  VI (okRows (spC B.like) (B.like.map (wrongCh 18)) = true),
  VP B,
  VP B]
theorem preds_mono (n0 : Nat) (B : Mem.Book) (A : Ads) (ma xa av xa' : Option Addr) (nm cv xc' : Nat) : AllMono (preds n0 B A ma xa av xa' nm cv xc') :=
  ⟨mC _, ⟨mC _, ⟨mI _, ⟨mC _, ⟨mC _, ⟨mS _ _, ⟨mC _, ⟨mC _, ⟨mB _ _, ⟨mI _, ⟨mC _, ⟨mC _, ⟨mS _ _, ⟨mC _, ⟨mI _, ⟨mC _, ⟨mC _, ⟨mS _ _, ⟨mC _, ⟨mC _, ⟨mB _ _, ⟨mI _, ⟨mC _, ⟨mC _, ⟨mS _ _, ⟨mC _, ⟨mC _, ⟨mB _ _, ⟨mI _, ⟨mC _, ⟨mC _, ⟨mC _, ⟨mI _, ⟨mC _, ⟨mC _, ⟨mS _ _, ⟨mC _, ⟨mC _, ⟨mB _ _, ⟨mI _, ⟨mC _, ⟨mC _, ⟨mS _ _, ⟨mC _, ⟨mC _, ⟨mB _ _, ⟨mI _, ⟨mC _, ⟨mC _, ⟨mC _, ⟨mC _, ⟨mC _, ⟨mB _ _, ⟨mI _, ⟨mC _, ⟨mC _, ⟨mS _ _, ⟨mC _, ⟨mC _, ⟨mC _, ⟨mC _, ⟨mC _, ⟨mB _ _, ⟨mI _, ⟨mC _, ⟨mC _, ⟨mS _ _, ⟨mC _, ⟨mC _, ⟨mB _ _, ⟨mI _, ⟨mP _, ⟨mP _, trivial⟩⟩⟩⟩⟩⟩⟩⟩⟩⟩⟩⟩⟩⟩⟩⟩⟩⟩⟩⟩⟩⟩⟩⟩⟩⟩⟩⟩⟩⟩⟩⟩⟩⟩⟩⟩⟩⟩⟩⟩⟩⟩⟩⟩⟩⟩⟩⟩⟩⟩⟩⟩⟩⟩⟩⟩⟩⟩⟩⟩⟩⟩⟩⟩⟩⟩⟩⟩⟩⟩⟩⟩⟩

set_option maxRecDepth 100000 in
set_option maxHeartbeats 4000000 in
theorem check_any (B : Mem.Book) (A : Ads) (w : World) (hs : Small B) (hL : Lies w B A) (hcn : B.names.length ≤ A.nc) (hcd : B.decomp.length ≤ A.dc) :
    Calls Tryz.prog 28 #[bookV B A] w fun e w' => ((Fine B ∧ e = .returned (.tuple #[.int .i64 0, .int .i64 0, .int .i64 0])) ∨ (¬ Fine B ∧ ∃ l at', e = .returned (.tuple #[.int .i64 l, .int .i64 at', .int .i64 100]))) ∧ Below w.heap.size w w' := by
  obtain ⟨rs, t1, p1, n1⟩ := hL.m
  have hml : B.maps.length = rs.length := by rw [← p1, List.length_map]
  have HM := Lib.hid t1
  have HP := Lib.hid p1
  have HWR := Lib.hid (fun W (hW : Below w.heap.size w W) => written_raw 18 A.ma rs A.mc W (by rw [← hml]; exact hs.m) (fun r hr => hs.mi r.plain (by rw [← p1]; exact List.mem_map_of_mem hr)) (t1.below hW) (fun r hr => (n1 r hr).below hW))
  have HMT := Lib.hid (fun (a b : Int) (sl : Value) (hsl : ∃ ad n c, sl = .slice ad n c) W (hW : Below w.heap.size w W) => meets_any a b sl hsl A.sa B.status A.sc W hs.s (hL.s.below hW))
  have HTC := Lib.hid (fun (a b : Int) W => touches_any a b W)
  have HX := Lib.hid hL.x
  have HS := Lib.hid hs
  have HL := Lib.hid hL
  have HB0 := Lib.hid ((Below.refl w.heap.size w).alloc (Nat.le_refl _) (boxCells B A))
  have hbx0 := Lib.hid (heap_alloc_new w (boxCells B A))
  unfold boxCells at HB0 hbx0
  have hxl := hs.x
  have hmm := hs.m
  have HML := Lib.hid hml
  obtain ⟨i0, hi, hz0, hz1, hz2⟩ := info_parts info_bool
  have CN := Lib.hid (fun W (hW : Below w.heap.size w W) => names_any A.na B.names A.nc W hs.n hs.nz hcn (hL.n.below hW))
  have CSs := Lib.hid (fun W (hW : Below w.heap.size w W) => spans_list A.sa B.status A.sc W hs.s (hL.s.below hW))
  have CUs := Lib.hid (fun W (hW : Below w.heap.size w W) => numbered_list 1 3 false A.sa B.status A.sc W hs.s (hL.s.below hW))
  have CSm := Lib.hid (fun W (hW : Below w.heap.size w W) => spansOf_list A.ma B.maps A.mc W hs.m (hL.m.below hW))
  have CSk := Lib.hid (fun W (hW : Below w.heap.size w W) => spans_list A.ka B.cls A.kc W hs.k (hL.k.below hW))
  have CUk := Lib.hid (fun W (hW : Below w.heap.size w W) => numbered_list 1 254 true A.ka B.cls A.kc W hs.k (hL.k.below hW))
  have CSd := Lib.hid (fun W (hW : Below w.heap.size w W) => spansOf_list A.da B.decomp A.dc W hs.d (hL.d.below hW))
  have CSb := Lib.hid (fun W (hW : Below w.heap.size w W) => spans_list A.ba B.bidi A.bc W hs.b (hL.b.below hW))
  have CUb := Lib.hid (fun W (hW : Below w.heap.size w W) => numbered_list 0 22 false A.ba B.bidi A.bc W hs.b (hL.b.below hW))
  have CSj := Lib.hid (fun W (hW : Below w.heap.size w W) => spans_list A.ja B.join A.jc W hs.j (hL.j.below hW))
  have CUj := Lib.hid (fun W (hW : Below w.heap.size w W) => numbered_list 0 5 false A.ja B.join A.jc W hs.j (hL.j.below hW))
  have CSr := Lib.hid (fun W (hW : Below w.heap.size w W) => spans_list A.ra B.script A.rc W hs.r (hL.r.below hW))
  have CUr := Lib.hid (fun W (hW : Below w.heap.size w W) => numbered_list 1 B.names.length false A.ra B.script A.rc W hs.r (hL.r.below hW))
  have CSl := Lib.hid (fun W (hW : Below w.heap.size w W) => spansOf_list A.la B.like A.lc W hs.l (hL.l.below hW))
  have CUd := Lib.hid (fun W (hW : Below w.heap.size w W) => decomposed_list A.da B.decomp A.dc W hs.d hs.di (hL.d.below hW))
  have CUl := Lib.hid (fun W (hW : Below w.heap.size w W) => written_list 18 A.la B.like A.lc W hs.l hs.li (hL.l.below hW))
  have CW := Lib.hid (fun W (hW : Below w.heap.size w W) => whole_any B A W hs (hL.below hW) hcd)
  have HQ := Lib.hid hL.q
  clear hL t1 p1 n1 hs hml
  rw [← HML.out] at HWR
  unfold bookV
  generalize hma : A.ma = ma at *
  generalize hxa : A.xa = xa at *
  generalize hnm : B.maps.length = nm at *
  have HMA := Lib.hid hma
  have HXA := Lib.hid hxa
  have HNM := Lib.hid hnm
  clear hma hnm hxa
  go_enter Tryz.func28, Tryz.ntmps28
  go_wp2_with fail
  refine (HWR.out _ HB0.out).mono ?_
  rintro e w1 ⟨v, rfl, hown, hb1⟩
  have hown' : w1.ownsRow (w.heap.size + 1) 4 1 v nm (rs.map vCm) := by
    have := hown
    rw [World.size_alloc, show encC 18 = fun r : Raw => [vCm r] from rfl, flat_one] at this
    exact this
  clear hown
  obtain ⟨av, cv, rfl⟩ : ∃ av cv, v = .slice av nm cv := by
    rcases Go.Joins.ownsRow_forms hown' with ⟨rfl, h0⟩ | ⟨g, cap, rfl⟩
    · exact ⟨none, 0, by rw [h0]⟩
    · exact ⟨_, _, rfl⟩
  rw [← mix_zero (vM B.status) vCm] at hown'
  have hbW1 : Below w.heap.size w w1 := HB0.out.trans (hb1.mono HB0.out.size)
  have hx1 := Lib.hid ((hb1.block _ (by simp)).trans hbx0.out)
  have hlw1 : w.heap.size < w1.heap.size := Nat.lt_of_lt_of_le (by simp) hb1.size
  have k2 : w1.cell? ⟨w.heap.size, 2, none⟩ = some (.slice ma nm A.mc) := (block_cell (i := 2) hx1.out).trans rfl
  clear hb1
  go_wp2_with fail
  go_loopw [21] (fun v' w' => ∃ (i : Nat), v' = .int .i64 i ∧ i ≤ nm ∧ w'.ownsRow (w.heap.size + 1) 4 1 (.slice av nm cv) nm (mix (vM B.status) vCm rs i) ∧ Below w.heap.size w w' ∧ Hid (w'.heap[w.heap.size]? = some (.cells #[.slice A.na B.names.length A.nc, .slice A.sa B.status.length A.sc, .slice ma nm A.mc, .slice A.ka B.cls.length A.kc, .slice A.da B.decomp.length A.dc, .slice xa B.excl.length A.xc, .slice A.ba B.bidi.length A.bc, .slice A.ja B.join.length A.jc, .slice A.qa B.marks.length A.qc, .slice A.ra B.script.length A.rc, .slice A.la B.like.length A.lc] 33 (0, 0))) ∧ w.heap.size < w'.heap.size) (fun v _ => nm - (intOf v).toNat)
  case atStart => exact ⟨0, rfl, Nat.zero_le _, hown', hbW1, hx1, hlw1⟩
  case round =>
    obtain ⟨i, rfl, hi', hown, hb, hx1, hlw⟩ := hrel
    by_cases hlt : i < nm
    · obtain ⟨x, hx⟩ : ∃ x, rs[i]? = some x := ⟨_, List.getElem?_eq_getElem (by have := HML.out; omega)⟩
      rcases HM.out.below hb with h0 | ⟨bk, o, rfl, hbk, hc⟩
      · rw [h0] at hx; simp at hx
      obtain ⟨g, cap, hva, hgb, hgl⟩ := hown.form (by omega)
      simp only [Value.slice.injEq] at hva
      obtain ⟨rfl, _, rfl⟩ := hva
      obtain ⟨q0, q1, q2⟩ := raws_at (hc i x hx)
      have hown2 := hown.alloc (.cells #[.int .i32 x.a, .int .i32 x.b, .slice x.ad x.is.length x.cap] 95 (0, 0))
      have g0 := (hown2.cellAt i (by omega)).trans (mix_at (vM B.status) vCm rs i x hx)
      have g1 := hown2.frozenAt i
      have HMA3 := Lib.hid (mix_at (vM B.status) vCm rs i x hx)
      have hst := hown.stored i (vM B.status x)
      rw [mix_set (vM B.status) vCm rs i x hx] at hst
      have hal := (Below.refl wr.heap.size wr).alloc (Nat.le_refl _) (.cells #[.int .i32 x.a, .int .i32 x.b, .slice x.ad x.is.length x.cap] 95 (0, 0))
      have hbx := hb.alloc hb.size (.cells #[.int .i32 x.a, .int .i32 x.b, .slice x.ad x.is.length x.cap] 95 (0, 0))
      have HC := Lib.hid (HMT.out x.a x.b (.slice x.ad x.is.length x.cap) ⟨_, _, _, rfl⟩ _ hbx)
      have hvm : Hid (vM B.status x = .bool (wrongC 18 x.is || meetB x.a x.b B.status)) := Lib.hid rfl
      have k1 : wr.cell? ⟨w.heap.size, 1, none⟩ = some (.slice A.sa B.status.length A.sc) := (block_cell (i := 1) hx1.out).trans rfl
      unfold vCm at g0
      cases hwc : wrongC 18 x.is with
      | true =>
        rw [hwc] at g0
        have hWD : Hid (vM B.status x = .bool true) := Lib.hid (by rw [hvm.out, hwc]; rfl)
        have hfo := hst.1.alloc (.cells #[.int .i32 x.a, .int .i32 x.b, .slice x.ad x.is.length x.cap] 95 (0, 0))
        have hfb : Below w.heap.size w ((wr.setCell ⟨g, i, none⟩ (vM B.status x)).alloc (.cells #[.int .i32 x.a, .int .i32 x.b, .slice x.ad x.is.length x.cap] 95 (0, 0))) :=
          (hb.grown hst.2 hb.size (fun k hk => by obtain rfl := Option.some.inj hk; omega)).alloc (by rw [World.size_setCell]; exact hb.size) _
        have hfx := ((Below.refl wr.heap.size (wr.setCell ⟨g, i, none⟩ (vM B.status x))).alloc (by rw [World.size_setCell]; exact Nat.le_refl _) (.cells #[.int .i32 x.a, .int .i32 x.b, .slice x.ad x.is.length x.cap] 95 (0, 0))).block _ hlw |>.trans ((Below.heap_setCell wr ⟨g, i, none⟩ (vM B.status x) w.heap.size (by simp; omega)).trans hx1.out)
        have HF := Lib.hid (And.intro hfo (And.intro hfb hfx))
        clear hst hc hx hfo hfb hfx hown hown2 hwc
        go_wp2_with fail
        have FF := HF.out
        rw [hWD.out] at FF
        go_roundw
        case rel => exact ⟨i + 1, by go_num, by omega, FF.1, FF.2.1, Lib.hid FF.2.2, by simp; omega⟩
        case measure => simp [intOf]; omega
      | false =>
        rw [hwc] at g0
        have hWD : Hid (vM B.status x = .bool (meetB x.a x.b B.status)) := Lib.hid (by rw [hvm.out, hwc]; rfl)
        generalize meetB x.a x.b B.status = mb at *
        have HMS := Lib.hid (mix_set (vM B.status) vCm rs i x hx)
        clear hst hc hx hown hwc
        go_wp2_with (go_at_call 81; refine HC.out.mono ?_; rintro e w2 ⟨rfl, hb2⟩; have hown3 := own_below hown2 hb2; have f3 := hown3.frozenAt i; have c3 := (hown3.cellAt i (by omega)).trans (HMA3.out))
        have hst3 := hown3.stored i (.bool mb)
        rw [← hWD.out, HMS.out, hWD.out] at hst3
        have hb3 : Below w.heap.size w w2 := hbx.trans (hb2.mono hbx.size)
        have hx3 := (hb2.block _ (by simp; omega)).trans ((hal.block _ hlw).trans hx1.out)
        have hsz2 := hb2.size
        simp only [World.size_alloc] at hsz2
        go_roundw
        case rel => exact ⟨i + 1, by go_num, by omega, hst3.1, hb3.grown hst3.2 hb3.size (fun k hk => by obtain rfl := Option.some.inj hk; omega), Lib.hid ((Below.heap_setCell w2 ⟨g, i, none⟩ (.bool mb) w.heap.size (by simp; omega)).trans hx3), by simp; omega⟩
        case measure => simp [intOf]; omega
    · obtain rfl : nm = i := by omega
      have hown4 : wr.ownsRow (w.heap.size + 1) 4 1 (.slice av nm cv) rs.length (rs.map fun r => .bool (wrongM B.status r.plain)) := by
        have h := hown
        rw [HML.out] at h
        have e := mix_all (vM B.status) vCm rs
        rw [e] at h
        rw [HML.out]
        exact h
      obtain ⟨ma', mc', hv', hmb, _⟩ := bools_of_own hown4
      have hmb2 : Bools wr ma' (B.maps.map (wrongM B.status)) := by
        rw [← HP.out, List.map_map]
        exact hmb
      obtain ⟨rfl, _, rfl⟩ : av = ma' ∧ True ∧ cv = mc' := by simp only [Value.slice.injEq] at hv'; exact ⟨hv'.1, trivial, hv'.2.2⟩
      have HMB := Lib.hid hmb2
      have hx2 := Lib.hid hx1.out
      clear hown hown4 hv' hmb hmb2 hown' HWR HB0 hbx0 hx1 hbW1 hlw1 hi' hlt
      generalize wr = W1 at *
      have k5 : W1.cell? ⟨w.heap.size, 5, none⟩ = some (.slice xa B.excl.length A.xc) := (block_cell (i := 5) hx2.out).trans rfl
      have hbW1r : Below W1.heap.size W1 W1 := Below.refl _ _
      go_wp2_with fail
      go_loopw [8, 44] (fun u v w' => ∃ (i : Nat), v = .int .i64 i ∧ i ≤ B.excl.length ∧ w'.ownsRow W1.heap.size 4 1 u i (flat encX (B.excl.take i)) ∧ Below W1.heap.size W1 w') (fun _ v _ => B.excl.length - (intOf v).toNat)
      case atStart => exact ⟨0, rfl, Nat.zero_le _, by
        have := World.ownsRow_made (base := W1.heap.size) (e := 4) (size := 1) W1 #[] 0 (Nat.le_refl _) (by decide) rfl
        exact this, (Below.refl _ _).alloc (Nat.le_refl _) _⟩
      case round =>
        obtain ⟨i, rfl, hi', hown, hb2⟩ := hrel
        by_cases hlt : i < B.excl.length
        · obtain ⟨x, hx⟩ : ∃ x, B.excl[i]? = some x := ⟨_, List.getElem?_eq_getElem hlt⟩
          rcases HX.out.below (hb.trans (hb2.mono hb.size)) with h0 | ⟨bk, o, rfl, hbk, hc⟩
          · rw [h0] at hlt; simp at hlt
          obtain ⟨q0, q1⟩ := spns_at (hc i x hx)
          have HSN := Lib.hid (flat_snoc encX B.excl i x hx)
          have hxd : Hid (encX x = [.bool (touchB x.a x.b)]) := Lib.hid rfl
          have HT := Lib.hid (HTC.out x.a x.b)
          generalize touchB x.a x.b = tb at *
          have hoc : ∀ u ∈ [Value.bool tb], u.oneCell' = true := fun u hu => by simp only [List.mem_singleton] at hu; subst hu; rfl
          clear hc hx
          go_wp2_with (first
            | (go_at_call 82; refine (HT.out _).mono ?_; rintro e w1 ⟨rfl, rfl⟩)
            | (at_builtin; refine wpList_append_own _ rfl _ _ 115 rfl W1.heap.size 4 i0 _ 1 1 Tryz.underlying115 hi hz0 hz1 hz2 rfl (by decide) _ i _ rfl ((hown.alloc _).alloc _) ⟨wr.heap.size + 1, 0, none⟩ 1 1 [.bool tb] rfl rfl (news2 wr _ #[.bool tb] 4) hoc (by unfold maxLen; omega) (by omega) (by have := hb2.size; simp; omega) ?_))
          intro v' w4 hown4 hgrow hv'
          have hbw4 : Below W1.heap.size W1 w4 := ((hb2.alloc hb2.size _).alloc (by have := hb2.size; simp; omega) _).grown hgrow (by have := hb2.size; simp; omega) (fun k hk => (hown.lt k hk).1)
          have hown5 : w4.ownsRow W1.heap.size 4 1 v' (i + 1) (flat encX (B.excl.take (i + 1))) := by
            rw [HSN.out, hxd.out]
            exact hown4
          clear hown4 hgrow hown hb2 hv'
          go_wp2
          go_roundw
          case rel => exact ⟨i + 1, by go_num, by omega, hown5, hbw4⟩
          case measure => simp [intOf]; omega
        · obtain rfl : i = B.excl.length := by omega
          rw [List.take_length] at hown
          obtain ⟨xa', xc', rfl, hxt, _⟩ := tab_of_own (k := 1) (enc := encX) (fun _ => rfl) hown
          have hxb : Bools wr xa' (B.excl.map fun x => touchB x.a x.b) := tab_map (e2 := fun b : Bool => [Value.bool b]) (fun x : Spn => touchB x.a x.b) (fun _ => rfl) hxt
          have HXB := Lib.hid hxb
          have HMB2 := Lib.hid (HMB.out.below hb2)
          have hx3 := Lib.hid ((hb2.block _ hlw).trans hx2.out)
          have hb3 := hb.trans (hb2.mono hb.size)
          have hlw3 : w.heap.size < wr.heap.size := Nat.lt_of_lt_of_le hlw hb2.size
          clear hown hxt hxb hb2 hb hlw k5 hx2 HMB
          generalize wr = W2 at *
          have hi4 := hi
          go_wp2_with fail
          simp only [List.append]
          refine Merge.wp_region_merge (by kernel_rfl) (fun vals => { tmps := #[.agg #[.slice A.na B.names.length A.nc, .slice A.sa B.status.length A.sc, .slice ma nm A.mc, .slice A.ka B.cls.length A.kc, .slice A.da B.decomp.length A.dc, .slice xa B.excl.length A.xc, .slice A.ba B.bidi.length A.bc, .slice A.ja B.join.length A.jc, .slice A.qa B.marks.length A.qc, .slice A.ra B.script.length A.rc, .slice A.la B.like.length A.lc], .pointer (some ⟨w.heap.size, 0, none⟩), .int .i64 0, .int .i64 0, .int .i64 0, .slice av nm cv, u6, u7, .slice xa' B.excl.length xc', undef, u10, vals 72, undef, undef, undef, .pointer (some ⟨w.heap.size, 2, none⟩), .slice ma nm A.mc, .slice av nm cv, .pointer (some ⟨w.heap.size, 2, none⟩), .slice ma nm A.mc, .int .i64 nm, .int .i64 nm, .bool false, u23, u24, u25, u26, u27, u28, u29, u30, u31, u32, u33, u34, u35, u36, u37, u38, u39, .slice (some ⟨W1.heap.size, 0, none⟩) 0 0, .pointer (some ⟨w.heap.size, 5, none⟩), .slice xa B.excl.length A.xc, .int .i64 B.excl.length, .int .i64 B.excl.length, .bool false, u46, u47, u48, u49, u50, u51, u52, u53, u54, u55, u56, vals 0, vals 1, vals 2, vals 3, vals 4, vals 5, vals 6, vals 7, vals 8, vals 9, vals 10, vals 11, vals 12, vals 13, vals 14, vals 15, vals 16, vals 17, vals 18, vals 19, vals 20, vals 21, vals 22, vals 23, vals 24, vals 25, vals 26, vals 27, vals 28, vals 29, vals 30, vals 31, vals 32, vals 33, vals 34, vals 35, vals 36, vals 37, vals 38, vals 39, vals 40, vals 41, vals 42, vals 43, vals 44, vals 45, vals 46, vals 47, vals 48, vals 49, vals 50, vals 51, vals 52, vals 53, vals 54, vals 55, vals 56, vals 57, vals 58, vals 59, vals 60, vals 61, vals 62, vals 63, vals 64, vals 65, vals 66, vals 67, vals 68, vals 69, vals 70, vals 71, undef, undef, undef, undef, undef, undef, undef, undef, undef, undef, undef, undef, undef, undef, undef, undef, undef, undef], defers := [] }) (fun i => (preds w.heap.size B A ma xa av xa' nm cv xc').getD i (fun _ _ => True)) (fun W => Below w.heap.size w W ∧ W.heap[w.heap.size]? = some (.cells #[.slice A.na B.names.length A.nc, .slice A.sa B.status.length A.sc, .slice ma nm A.mc, .slice A.ka B.cls.length A.kc, .slice A.da B.decomp.length A.dc, .slice xa B.excl.length A.xc, .slice A.ba B.bidi.length A.bc, .slice A.ja B.join.length A.jc, .slice A.qa B.marks.length A.qc, .slice A.ra B.script.length A.rc, .slice A.la B.like.length A.lc] 33 (0, 0)) ∧ Bools W xa' (B.excl.map fun (x : Spn) => touchB x.a x.b) ∧ Bools W av (B.maps.map (wrongM B.status))) (fun W W' => Below W.heap.size W W') (fun _ => undef) rfl (fun i v W W' h hb => mono_at i (preds_mono _ _ _ _ _ _ _ _ _ _) v W W' h hb)
            (fun W W' h hb => ⟨h.1.trans (hb.mono h.1.size), (hb.block _ (block_lt h.2.1)).trans h.2.1, h.2.2.1.below hb, h.2.2.2.below hb⟩) ⟨hb3.drew, hx3.out, HXB.out.below (Below.refl _ _).drew, HMB2.out.below (Below.refl _ _).drew⟩ ?hS ?hD
          case hS =>
            refine AllSteps.cons ⟨rfl, by rfl, fun _ _ => rfl, fun vals W hi hd K hK => ?_⟩ ?_
            · go_simp
              exact hK _ _ rfl (Below.refl _ _)
            refine AllSteps.cons ⟨rfl, by rfl, fun _ _ => rfl, fun vals W hi hd K hK => ?_⟩ ?_
            · have e1 : vals 0 = .pointer (some ⟨w.heap.size, 0, none⟩) := hd ⟨0, .data⟩ (by simp) rfl
              have kk : W.cell? ⟨w.heap.size, 0, none⟩ = some (.slice A.na B.names.length A.nc) := (block_cell (i := 0) hi.2.1).trans rfl
              simp only [e1] at hK
              go_simp
              exact hK _ _ rfl (Below.refl _ _)
            refine AllSteps.cons ⟨rfl, by rfl, fun _ _ => rfl, fun vals W hi hd K hK => ?_⟩ ?_
            · have e1 : vals 1 = .slice A.na B.names.length A.nc := hd ⟨1, .data⟩ (by simp) rfl
              simp only [e1] at hK
              go_simp
              refine (CN.out _ hi.1).mono ?_
              rintro e wn ⟨r0, rfl, hr0, rfl⟩
              exact hK _ _ ⟨r0, rfl, hr0⟩ (Below.refl _ _)
            refine AllSteps.cons ⟨rfl, by rfl, fun _ _ => rfl, fun vals W hi hd K hK => ?_⟩ ?_
            · go_simp
              exact hK _ _ rfl (Below.refl _ _)
            refine AllSteps.cons ⟨rfl, by rfl, fun _ _ => rfl, fun vals W hi hd K hK => ?_⟩ ?_
            · have e1 : vals 3 = .pointer (some ⟨w.heap.size, 1, none⟩) := hd ⟨3, .data⟩ (by simp) rfl
              have kk : W.cell? ⟨w.heap.size, 1, none⟩ = some (.slice A.sa B.status.length A.sc) := (block_cell (i := 1) hi.2.1).trans rfl
              simp only [e1] at hK
              go_simp
              exact hK _ _ rfl (Below.refl _ _)
            refine AllSteps.cons ⟨rfl, by rfl, fun _ _ => rfl, fun vals W hi hd K hK => ?_⟩ ?_
            · have e1 : vals 4 = .slice A.sa B.status.length A.sc := hd ⟨4, .data⟩ (by simp) rfl
              simp only [e1] at hK
              go_simp
              refine (CSs.out _ hi.1).mono ?_
              rintro e wn ⟨a1, c1, rfl, h1, hbn⟩
              exact hK _ _ ⟨a1, c1, rfl, h1⟩ hbn
            refine AllSteps.cons ⟨rfl, by rfl, fun _ _ => rfl, fun vals W hi hd K hK => ?_⟩ ?_
            · go_simp
              exact hK _ _ rfl (Below.refl _ _)
            refine AllSteps.cons ⟨rfl, by rfl, fun _ _ => rfl, fun vals W hi hd K hK => ?_⟩ ?_
            · have e1 : vals 6 = .pointer (some ⟨w.heap.size, 1, none⟩) := hd ⟨6, .data⟩ (by simp) rfl
              have kk : W.cell? ⟨w.heap.size, 1, none⟩ = some (.slice A.sa B.status.length A.sc) := (block_cell (i := 1) hi.2.1).trans rfl
              simp only [e1] at hK
              go_simp
              exact hK _ _ rfl (Below.refl _ _)
            refine AllSteps.cons ⟨rfl, by rfl, fun _ _ => rfl, fun vals W hi hd K hK => ?_⟩ ?_
            · have e1 : vals 7 = .slice A.sa B.status.length A.sc := hd ⟨7, .data⟩ (by simp) rfl
              simp only [e1] at hK
              go_simp
              refine (CUs.out _ hi.1).mono ?_
              rintro e wn ⟨a1, c1, rfl, h1, hbn⟩
              exact hK _ _ ⟨a1, c1, rfl, h1⟩ hbn
            refine AllSteps.cons ⟨rfl, by rfl, fun _ _ => rfl, fun vals W hi hd K hK => ?_⟩ ?_
            · obtain ⟨a1, c1, e1, h1⟩ := hd ⟨5, .data⟩ (by simp) rfl
              obtain ⟨a2, c2, e2, h2⟩ := hd ⟨8, .data⟩ (by simp) rfl
              have HC := Lib.hid (many_list a1 a2 B.status.length (spV B.status) (B.status.map (wrongV 1 3 false)) c1 c2 W HS.out.s (by simp [spV, spC]) (by simp) h1 h2)
              clear h1 h2
              simp only [e1, e2] at hK
              go_simp
              refine HC.out.mono ?_
              rintro e wn ⟨r, rfl, hr, hbn⟩
              exact hK _ _ ⟨r, rfl, hr⟩ hbn
            refine AllSteps.cons ⟨rfl, by rfl, fun _ _ => rfl, fun vals W hi hd K hK => ?_⟩ ?_
            · go_simp
              exact hK _ _ rfl (Below.refl _ _)
            refine AllSteps.cons ⟨rfl, by rfl, fun _ _ => rfl, fun vals W hi hd K hK => ?_⟩ ?_
            · have e1 : vals 10 = .pointer (some ⟨w.heap.size, 2, none⟩) := hd ⟨10, .data⟩ (by simp) rfl
              have kk : W.cell? ⟨w.heap.size, 2, none⟩ = some (.slice ma nm A.mc) := (block_cell (i := 2) hi.2.1).trans rfl
              simp only [e1] at hK
              go_simp
              exact hK _ _ rfl (Below.refl _ _)
            refine AllSteps.cons ⟨rfl, by rfl, fun _ _ => rfl, fun vals W hi hd K hK => ?_⟩ ?_
            · have e1 : vals 11 = .slice ma nm A.mc := hd ⟨11, .data⟩ (by simp) rfl
              simp only [e1] at hK
              go_simp
              refine (CSm.out _ hi.1).mono ?_
              rintro e wn ⟨a1, c1, rfl, h1, hbn⟩
              exact hK _ _ ⟨a1, c1, rfl, h1⟩ hbn
            refine AllSteps.cons ⟨rfl, by rfl, fun _ _ => rfl, fun vals W hi hd K hK => ?_⟩ ?_
            · go_simp
              exact hK _ _ rfl (Below.refl _ _)
            refine AllSteps.cons ⟨rfl, by rfl, fun _ _ => rfl, fun vals W hi hd K hK => ?_⟩ ?_
            · obtain ⟨a1, c1, e1, h1⟩ := hd ⟨12, .data⟩ (by simp) rfl
              have e2 : vals 13 = .slice av nm cv := hd ⟨13, .data⟩ (by simp) rfl
              have h2 := hi.2.2.2
              have HC := Lib.hid (many_list a1 av nm (spC B.maps) (B.maps.map (wrongM B.status)) c1 cv W hmm (by simp [spC, HNM.out]) (by simp [HNM.out]) h1 h2)
              clear h1 h2
              simp only [e2, e1] at hK
              go_simp
              refine HC.out.mono ?_
              rintro e wn ⟨r, rfl, hr, hbn⟩
              exact hK _ _ ⟨r, rfl, hr⟩ hbn
            refine AllSteps.cons ⟨rfl, by rfl, fun _ _ => rfl, fun vals W hi hd K hK => ?_⟩ ?_
            · go_simp
              exact hK _ _ rfl (Below.refl _ _)
            refine AllSteps.cons ⟨rfl, by rfl, fun _ _ => rfl, fun vals W hi hd K hK => ?_⟩ ?_
            · have e1 : vals 15 = .pointer (some ⟨w.heap.size, 3, none⟩) := hd ⟨15, .data⟩ (by simp) rfl
              have kk : W.cell? ⟨w.heap.size, 3, none⟩ = some (.slice A.ka B.cls.length A.kc) := (block_cell (i := 3) hi.2.1).trans rfl
              simp only [e1] at hK
              go_simp
              exact hK _ _ rfl (Below.refl _ _)
            refine AllSteps.cons ⟨rfl, by rfl, fun _ _ => rfl, fun vals W hi hd K hK => ?_⟩ ?_
            · have e1 : vals 16 = .slice A.ka B.cls.length A.kc := hd ⟨16, .data⟩ (by simp) rfl
              simp only [e1] at hK
              go_simp
              refine (CSk.out _ hi.1).mono ?_
              rintro e wn ⟨a1, c1, rfl, h1, hbn⟩
              exact hK _ _ ⟨a1, c1, rfl, h1⟩ hbn
            refine AllSteps.cons ⟨rfl, by rfl, fun _ _ => rfl, fun vals W hi hd K hK => ?_⟩ ?_
            · go_simp
              exact hK _ _ rfl (Below.refl _ _)
            refine AllSteps.cons ⟨rfl, by rfl, fun _ _ => rfl, fun vals W hi hd K hK => ?_⟩ ?_
            · have e1 : vals 18 = .pointer (some ⟨w.heap.size, 3, none⟩) := hd ⟨18, .data⟩ (by simp) rfl
              have kk : W.cell? ⟨w.heap.size, 3, none⟩ = some (.slice A.ka B.cls.length A.kc) := (block_cell (i := 3) hi.2.1).trans rfl
              simp only [e1] at hK
              go_simp
              exact hK _ _ rfl (Below.refl _ _)
            refine AllSteps.cons ⟨rfl, by rfl, fun _ _ => rfl, fun vals W hi hd K hK => ?_⟩ ?_
            · have e1 : vals 19 = .slice A.ka B.cls.length A.kc := hd ⟨19, .data⟩ (by simp) rfl
              simp only [e1] at hK
              go_simp
              refine (CUk.out _ hi.1).mono ?_
              rintro e wn ⟨a1, c1, rfl, h1, hbn⟩
              exact hK _ _ ⟨a1, c1, rfl, h1⟩ hbn
            refine AllSteps.cons ⟨rfl, by rfl, fun _ _ => rfl, fun vals W hi hd K hK => ?_⟩ ?_
            · obtain ⟨a1, c1, e1, h1⟩ := hd ⟨17, .data⟩ (by simp) rfl
              obtain ⟨a2, c2, e2, h2⟩ := hd ⟨20, .data⟩ (by simp) rfl
              have HC := Lib.hid (many_list a1 a2 B.cls.length (spV B.cls) (B.cls.map (wrongV 1 254 true)) c1 c2 W HS.out.k (by simp [spV, spC]) (by simp) h1 h2)
              clear h1 h2
              simp only [e1, e2] at hK
              go_simp
              refine HC.out.mono ?_
              rintro e wn ⟨r, rfl, hr, hbn⟩
              exact hK _ _ ⟨r, rfl, hr⟩ hbn
            refine AllSteps.cons ⟨rfl, by rfl, fun _ _ => rfl, fun vals W hi hd K hK => ?_⟩ ?_
            · go_simp
              exact hK _ _ rfl (Below.refl _ _)
            refine AllSteps.cons ⟨rfl, by rfl, fun _ _ => rfl, fun vals W hi hd K hK => ?_⟩ ?_
            · have e1 : vals 22 = .pointer (some ⟨w.heap.size, 4, none⟩) := hd ⟨22, .data⟩ (by simp) rfl
              have kk : W.cell? ⟨w.heap.size, 4, none⟩ = some (.slice A.da B.decomp.length A.dc) := (block_cell (i := 4) hi.2.1).trans rfl
              simp only [e1] at hK
              go_simp
              exact hK _ _ rfl (Below.refl _ _)
            refine AllSteps.cons ⟨rfl, by rfl, fun _ _ => rfl, fun vals W hi hd K hK => ?_⟩ ?_
            · have e1 : vals 23 = .slice A.da B.decomp.length A.dc := hd ⟨23, .data⟩ (by simp) rfl
              simp only [e1] at hK
              go_simp
              refine (CSd.out _ hi.1).mono ?_
              rintro e wn ⟨a1, c1, rfl, h1, hbn⟩
              exact hK _ _ ⟨a1, c1, rfl, h1⟩ hbn
            refine AllSteps.cons ⟨rfl, by rfl, fun _ _ => rfl, fun vals W hi hd K hK => ?_⟩ ?_
            · go_simp
              exact hK _ _ rfl (Below.refl _ _)
            refine AllSteps.cons ⟨rfl, by rfl, fun _ _ => rfl, fun vals W hi hd K hK => ?_⟩ ?_
            · have e1 : vals 25 = .pointer (some ⟨w.heap.size, 4, none⟩) := hd ⟨25, .data⟩ (by simp) rfl
              have kk : W.cell? ⟨w.heap.size, 4, none⟩ = some (.slice A.da B.decomp.length A.dc) := (block_cell (i := 4) hi.2.1).trans rfl
              simp only [e1] at hK
              go_simp
              exact hK _ _ rfl (Below.refl _ _)
            refine AllSteps.cons ⟨rfl, by rfl, fun _ _ => rfl, fun vals W hi hd K hK => ?_⟩ ?_
            · have e1 : vals 26 = .slice A.da B.decomp.length A.dc := hd ⟨26, .data⟩ (by simp) rfl
              simp only [e1] at hK
              go_simp
              refine (CUd.out _ hi.1).mono ?_
              rintro e wn ⟨a1, c1, rfl, h1, hbn⟩
              exact hK _ _ ⟨a1, c1, rfl, h1⟩ hbn
            refine AllSteps.cons ⟨rfl, by rfl, fun _ _ => rfl, fun vals W hi hd K hK => ?_⟩ ?_
            · obtain ⟨a1, c1, e1, h1⟩ := hd ⟨24, .data⟩ (by simp) rfl
              obtain ⟨a2, c2, e2, h2⟩ := hd ⟨27, .data⟩ (by simp) rfl
              have HC := Lib.hid (many_list a1 a2 B.decomp.length (spC B.decomp) (B.decomp.map wrongDc) c1 c2 W HS.out.d (by simp [spV, spC]) (by simp) h1 h2)
              clear h1 h2
              simp only [e1, e2] at hK
              go_simp
              refine HC.out.mono ?_
              rintro e wn ⟨r, rfl, hr, hbn⟩
              exact hK _ _ ⟨r, rfl, hr⟩ hbn
            refine AllSteps.cons ⟨rfl, by rfl, fun _ _ => rfl, fun vals W hi hd K hK => ?_⟩ ?_
            · go_simp
              exact hK _ _ rfl (Below.refl _ _)
            refine AllSteps.cons ⟨rfl, by rfl, fun _ _ => rfl, fun vals W hi hd K hK => ?_⟩ ?_
            · have e1 : vals 29 = .pointer (some ⟨w.heap.size, 5, none⟩) := hd ⟨29, .data⟩ (by simp) rfl
              have kk : W.cell? ⟨w.heap.size, 5, none⟩ = some (.slice xa B.excl.length A.xc) := (block_cell (i := 5) hi.2.1).trans rfl
              simp only [e1] at hK
              go_simp
              exact hK _ _ rfl (Below.refl _ _)
            refine AllSteps.cons ⟨rfl, by rfl, fun _ _ => rfl, fun vals W hi hd K hK => ?_⟩ ?_
            · go_simp
              exact hK _ _ rfl (Below.refl _ _)
            refine AllSteps.cons ⟨rfl, by rfl, fun _ _ => rfl, fun vals W hi hd K hK => ?_⟩ ?_
            · have e1 : vals 30 = .slice xa B.excl.length A.xc := hd ⟨30, .data⟩ (by simp) rfl
              have e2 : vals 31 = .slice xa' B.excl.length xc' := hd ⟨31, .data⟩ (by simp) rfl
              have h1 := HX.out.below hi.1
              have h2 := hi.2.2.1
              have HC := Lib.hid (many_list xa xa' B.excl.length (B.excl) (B.excl.map fun x => touchB x.a x.b) A.xc xc' W hxl rfl (by simp) h1 h2)
              clear h1 h2
              simp only [e1, e2] at hK
              go_simp
              refine HC.out.mono ?_
              rintro e wn ⟨r, rfl, hr, hbn⟩
              exact hK _ _ ⟨r, rfl, hr⟩ hbn
            refine AllSteps.cons ⟨rfl, by rfl, fun _ _ => rfl, fun vals W hi hd K hK => ?_⟩ ?_
            · go_simp
              exact hK _ _ rfl (Below.refl _ _)
            refine AllSteps.cons ⟨rfl, by rfl, fun _ _ => rfl, fun vals W hi hd K hK => ?_⟩ ?_
            · have e1 : vals 33 = .pointer (some ⟨w.heap.size, 6, none⟩) := hd ⟨33, .data⟩ (by simp) rfl
              have kk : W.cell? ⟨w.heap.size, 6, none⟩ = some (.slice A.ba B.bidi.length A.bc) := (block_cell (i := 6) hi.2.1).trans rfl
              simp only [e1] at hK
              go_simp
              exact hK _ _ rfl (Below.refl _ _)
            refine AllSteps.cons ⟨rfl, by rfl, fun _ _ => rfl, fun vals W hi hd K hK => ?_⟩ ?_
            · have e1 : vals 34 = .slice A.ba B.bidi.length A.bc := hd ⟨34, .data⟩ (by simp) rfl
              simp only [e1] at hK
              go_simp
              refine (CSb.out _ hi.1).mono ?_
              rintro e wn ⟨a1, c1, rfl, h1, hbn⟩
              exact hK _ _ ⟨a1, c1, rfl, h1⟩ hbn
            refine AllSteps.cons ⟨rfl, by rfl, fun _ _ => rfl, fun vals W hi hd K hK => ?_⟩ ?_
            · go_simp
              exact hK _ _ rfl (Below.refl _ _)
            refine AllSteps.cons ⟨rfl, by rfl, fun _ _ => rfl, fun vals W hi hd K hK => ?_⟩ ?_
            · have e1 : vals 36 = .pointer (some ⟨w.heap.size, 6, none⟩) := hd ⟨36, .data⟩ (by simp) rfl
              have kk : W.cell? ⟨w.heap.size, 6, none⟩ = some (.slice A.ba B.bidi.length A.bc) := (block_cell (i := 6) hi.2.1).trans rfl
              simp only [e1] at hK
              go_simp
              exact hK _ _ rfl (Below.refl _ _)
            refine AllSteps.cons ⟨rfl, by rfl, fun _ _ => rfl, fun vals W hi hd K hK => ?_⟩ ?_
            · have e1 : vals 37 = .slice A.ba B.bidi.length A.bc := hd ⟨37, .data⟩ (by simp) rfl
              simp only [e1] at hK
              go_simp
              refine (CUb.out _ hi.1).mono ?_
              rintro e wn ⟨a1, c1, rfl, h1, hbn⟩
              exact hK _ _ ⟨a1, c1, rfl, h1⟩ hbn
            refine AllSteps.cons ⟨rfl, by rfl, fun _ _ => rfl, fun vals W hi hd K hK => ?_⟩ ?_
            · obtain ⟨a1, c1, e1, h1⟩ := hd ⟨35, .data⟩ (by simp) rfl
              obtain ⟨a2, c2, e2, h2⟩ := hd ⟨38, .data⟩ (by simp) rfl
              have HC := Lib.hid (many_list a1 a2 B.bidi.length (spV B.bidi) (B.bidi.map (wrongV 0 22 false)) c1 c2 W HS.out.b (by simp [spV, spC]) (by simp) h1 h2)
              clear h1 h2
              simp only [e1, e2] at hK
              go_simp
              refine HC.out.mono ?_
              rintro e wn ⟨r, rfl, hr, hbn⟩
              exact hK _ _ ⟨r, rfl, hr⟩ hbn
            refine AllSteps.cons ⟨rfl, by rfl, fun _ _ => rfl, fun vals W hi hd K hK => ?_⟩ ?_
            · go_simp
              exact hK _ _ rfl (Below.refl _ _)
            refine AllSteps.cons ⟨rfl, by rfl, fun _ _ => rfl, fun vals W hi hd K hK => ?_⟩ ?_
            · have e1 : vals 40 = .pointer (some ⟨w.heap.size, 7, none⟩) := hd ⟨40, .data⟩ (by simp) rfl
              have kk : W.cell? ⟨w.heap.size, 7, none⟩ = some (.slice A.ja B.join.length A.jc) := (block_cell (i := 7) hi.2.1).trans rfl
              simp only [e1] at hK
              go_simp
              exact hK _ _ rfl (Below.refl _ _)
            refine AllSteps.cons ⟨rfl, by rfl, fun _ _ => rfl, fun vals W hi hd K hK => ?_⟩ ?_
            · have e1 : vals 41 = .slice A.ja B.join.length A.jc := hd ⟨41, .data⟩ (by simp) rfl
              simp only [e1] at hK
              go_simp
              refine (CSj.out _ hi.1).mono ?_
              rintro e wn ⟨a1, c1, rfl, h1, hbn⟩
              exact hK _ _ ⟨a1, c1, rfl, h1⟩ hbn
            refine AllSteps.cons ⟨rfl, by rfl, fun _ _ => rfl, fun vals W hi hd K hK => ?_⟩ ?_
            · go_simp
              exact hK _ _ rfl (Below.refl _ _)
            refine AllSteps.cons ⟨rfl, by rfl, fun _ _ => rfl, fun vals W hi hd K hK => ?_⟩ ?_
            · have e1 : vals 43 = .pointer (some ⟨w.heap.size, 7, none⟩) := hd ⟨43, .data⟩ (by simp) rfl
              have kk : W.cell? ⟨w.heap.size, 7, none⟩ = some (.slice A.ja B.join.length A.jc) := (block_cell (i := 7) hi.2.1).trans rfl
              simp only [e1] at hK
              go_simp
              exact hK _ _ rfl (Below.refl _ _)
            refine AllSteps.cons ⟨rfl, by rfl, fun _ _ => rfl, fun vals W hi hd K hK => ?_⟩ ?_
            · have e1 : vals 44 = .slice A.ja B.join.length A.jc := hd ⟨44, .data⟩ (by simp) rfl
              simp only [e1] at hK
              go_simp
              refine (CUj.out _ hi.1).mono ?_
              rintro e wn ⟨a1, c1, rfl, h1, hbn⟩
              exact hK _ _ ⟨a1, c1, rfl, h1⟩ hbn
            refine AllSteps.cons ⟨rfl, by rfl, fun _ _ => rfl, fun vals W hi hd K hK => ?_⟩ ?_
            · obtain ⟨a1, c1, e1, h1⟩ := hd ⟨42, .data⟩ (by simp) rfl
              obtain ⟨a2, c2, e2, h2⟩ := hd ⟨45, .data⟩ (by simp) rfl
              have HC := Lib.hid (many_list a1 a2 B.join.length (spV B.join) (B.join.map (wrongV 0 5 false)) c1 c2 W HS.out.j (by simp [spV, spC]) (by simp) h1 h2)
              clear h1 h2
              simp only [e1, e2] at hK
              go_simp
              refine HC.out.mono ?_
              rintro e wn ⟨r, rfl, hr, hbn⟩
              exact hK _ _ ⟨r, rfl, hr⟩ hbn
            refine AllSteps.cons ⟨rfl, by rfl, fun _ _ => rfl, fun vals W hi hd K hK => ?_⟩ ?_
            · go_simp
              exact hK _ _ rfl (Below.refl _ _)
            refine AllSteps.cons ⟨rfl, by rfl, fun _ _ => rfl, fun vals W hi hd K hK => ?_⟩ ?_
            · have e1 : vals 47 = .pointer (some ⟨w.heap.size, 8, none⟩) := hd ⟨47, .data⟩ (by simp) rfl
              have kk : W.cell? ⟨w.heap.size, 8, none⟩ = some (.slice A.qa B.marks.length A.qc) := (block_cell (i := 8) hi.2.1).trans rfl
              simp only [e1] at hK
              go_simp
              exact hK _ _ rfl (Below.refl _ _)
            refine AllSteps.cons ⟨rfl, by rfl, fun _ _ => rfl, fun vals W hi hd K hK => ?_⟩ ?_
            · go_simp
              exact hK _ _ rfl (Below.refl _ _)
            refine AllSteps.cons ⟨rfl, by rfl, fun _ _ => rfl, fun vals W hi hd K hK => ?_⟩ ?_
            · have e1 : vals 49 = .pointer (some ⟨w.heap.size, 8, none⟩) := hd ⟨49, .data⟩ (by simp) rfl
              have kk : W.cell? ⟨w.heap.size, 8, none⟩ = some (.slice A.qa B.marks.length A.qc) := (block_cell (i := 8) hi.2.1).trans rfl
              simp only [e1] at hK
              go_simp
              exact hK _ _ rfl (Below.refl _ _)
            refine AllSteps.cons ⟨rfl, by rfl, fun _ _ => rfl, fun vals W hi hd K hK => ?_⟩ ?_
            · have e1 : vals 50 = .slice A.qa B.marks.length A.qc := hd ⟨50, .data⟩ (by simp) rfl
              simp only [e1] at hK
              go_simp
              exact hK _ _ rfl (Below.refl _ _)
            refine AllSteps.cons ⟨rfl, by rfl, fun _ _ => rfl, fun vals W hi hd K hK => ?_⟩ ?_
            · have e1 : vals 51 = .int .i64 B.marks.length := hd ⟨51, .data⟩ (by simp) rfl
              obtain ⟨W', hrun, hown, hgr⟩ := run_make_full W W.heap.size 115 4 i0 (.bool false) 1 Tryz.underlying115 hi4 hz0 hz1 .i64 .i64 B.marks.length (by have := HS.out.q; rw [hz2]; omega) (by have := HS.out.q; unfold maxLen; omega) (Nat.le_refl _)
              simp only [e1] at hK
              go_simp
              exact hK _ _ (made_bools hown) (below_none hgr)
            refine AllSteps.cons ⟨rfl, by rfl, fun _ _ => rfl, fun vals W hi hd K hK => ?_⟩ ?_
            · have e1 : vals 48 = .slice A.qa B.marks.length A.qc := hd ⟨48, .data⟩ (by simp) rfl
              obtain ⟨a2, c2, e2, h2⟩ := hd ⟨52, .data⟩ (by simp) rfl
              have h1 := HQ.out.below hi.1
              have HC := Lib.hid (many_list A.qa a2 B.marks.length (B.marks) (B.marks.map fun _ => false) A.qc c2 W HS.out.q rfl (by simp) h1 h2)
              clear h1 h2
              simp only [e1, e2] at hK
              go_simp
              refine HC.out.mono ?_
              rintro e wn ⟨r, rfl, hr, hbn⟩
              exact hK _ _ ⟨r, rfl, hr⟩ hbn
            refine AllSteps.cons ⟨rfl, by rfl, fun _ _ => rfl, fun vals W hi hd K hK => ?_⟩ ?_
            · go_simp
              exact hK _ _ rfl (Below.refl _ _)
            refine AllSteps.cons ⟨rfl, by rfl, fun _ _ => rfl, fun vals W hi hd K hK => ?_⟩ ?_
            · have e1 : vals 54 = .pointer (some ⟨w.heap.size, 9, none⟩) := hd ⟨54, .data⟩ (by simp) rfl
              have kk : W.cell? ⟨w.heap.size, 9, none⟩ = some (.slice A.ra B.script.length A.rc) := (block_cell (i := 9) hi.2.1).trans rfl
              simp only [e1] at hK
              go_simp
              exact hK _ _ rfl (Below.refl _ _)
            refine AllSteps.cons ⟨rfl, by rfl, fun _ _ => rfl, fun vals W hi hd K hK => ?_⟩ ?_
            · have e1 : vals 55 = .slice A.ra B.script.length A.rc := hd ⟨55, .data⟩ (by simp) rfl
              simp only [e1] at hK
              go_simp
              refine (CSr.out _ hi.1).mono ?_
              rintro e wn ⟨a1, c1, rfl, h1, hbn⟩
              exact hK _ _ ⟨a1, c1, rfl, h1⟩ hbn
            refine AllSteps.cons ⟨rfl, by rfl, fun _ _ => rfl, fun vals W hi hd K hK => ?_⟩ ?_
            · go_simp
              exact hK _ _ rfl (Below.refl _ _)
            refine AllSteps.cons ⟨rfl, by rfl, fun _ _ => rfl, fun vals W hi hd K hK => ?_⟩ ?_
            · have e1 : vals 57 = .pointer (some ⟨w.heap.size, 9, none⟩) := hd ⟨57, .data⟩ (by simp) rfl
              have kk : W.cell? ⟨w.heap.size, 9, none⟩ = some (.slice A.ra B.script.length A.rc) := (block_cell (i := 9) hi.2.1).trans rfl
              simp only [e1] at hK
              go_simp
              exact hK _ _ rfl (Below.refl _ _)
            refine AllSteps.cons ⟨rfl, by rfl, fun _ _ => rfl, fun vals W hi hd K hK => ?_⟩ ?_
            · go_simp
              exact hK _ _ rfl (Below.refl _ _)
            refine AllSteps.cons ⟨rfl, by rfl, fun _ _ => rfl, fun vals W hi hd K hK => ?_⟩ ?_
            · have e1 : vals 59 = .pointer (some ⟨w.heap.size, 0, none⟩) := hd ⟨59, .data⟩ (by simp) rfl
              have kk : W.cell? ⟨w.heap.size, 0, none⟩ = some (.slice A.na B.names.length A.nc) := (block_cell (i := 0) hi.2.1).trans rfl
              simp only [e1] at hK
              go_simp
              exact hK _ _ rfl (Below.refl _ _)
            refine AllSteps.cons ⟨rfl, by rfl, fun _ _ => rfl, fun vals W hi hd K hK => ?_⟩ ?_
            · have e1 : vals 60 = .slice A.na B.names.length A.nc := hd ⟨60, .data⟩ (by simp) rfl
              simp only [e1] at hK
              go_simp
              exact hK _ _ rfl (Below.refl _ _)
            refine AllSteps.cons ⟨rfl, by rfl, fun _ _ => rfl, fun vals W hi hd K hK => ?_⟩ ?_
            · have e1 : vals 58 = .slice A.ra B.script.length A.rc := hd ⟨58, .data⟩ (by simp) rfl
              have e2 : vals 61 = .int .i64 B.names.length := hd ⟨61, .data⟩ (by simp) rfl
              simp only [e1, e2] at hK
              go_simp
              refine (CUr.out _ hi.1).mono ?_
              rintro e wn ⟨a1, c1, rfl, h1, hbn⟩
              exact hK _ _ ⟨a1, c1, rfl, h1⟩ hbn
            refine AllSteps.cons ⟨rfl, by rfl, fun _ _ => rfl, fun vals W hi hd K hK => ?_⟩ ?_
            · obtain ⟨a1, c1, e1, h1⟩ := hd ⟨56, .data⟩ (by simp) rfl
              obtain ⟨a2, c2, e2, h2⟩ := hd ⟨62, .data⟩ (by simp) rfl
              have HC := Lib.hid (many_list a1 a2 B.script.length (spV B.script) (B.script.map (wrongV 1 B.names.length false)) c1 c2 W HS.out.r (by simp [spV, spC]) (by simp) h1 h2)
              clear h1 h2
              simp only [e1, e2] at hK
              go_simp
              refine HC.out.mono ?_
              rintro e wn ⟨r, rfl, hr, hbn⟩
              exact hK _ _ ⟨r, rfl, hr⟩ hbn
            refine AllSteps.cons ⟨rfl, by rfl, fun _ _ => rfl, fun vals W hi hd K hK => ?_⟩ ?_
            · go_simp
              exact hK _ _ rfl (Below.refl _ _)
            refine AllSteps.cons ⟨rfl, by rfl, fun _ _ => rfl, fun vals W hi hd K hK => ?_⟩ ?_
            · have e1 : vals 64 = .pointer (some ⟨w.heap.size, 10, none⟩) := hd ⟨64, .data⟩ (by simp) rfl
              have kk : W.cell? ⟨w.heap.size, 10, none⟩ = some (.slice A.la B.like.length A.lc) := (block_cell (i := 10) hi.2.1).trans rfl
              simp only [e1] at hK
              go_simp
              exact hK _ _ rfl (Below.refl _ _)
            refine AllSteps.cons ⟨rfl, by rfl, fun _ _ => rfl, fun vals W hi hd K hK => ?_⟩ ?_
            · have e1 : vals 65 = .slice A.la B.like.length A.lc := hd ⟨65, .data⟩ (by simp) rfl
              simp only [e1] at hK
              go_simp
              refine (CSl.out _ hi.1).mono ?_
              rintro e wn ⟨a1, c1, rfl, h1, hbn⟩
              exact hK _ _ ⟨a1, c1, rfl, h1⟩ hbn
            refine AllSteps.cons ⟨rfl, by rfl, fun _ _ => rfl, fun vals W hi hd K hK => ?_⟩ ?_
            · go_simp
              exact hK _ _ rfl (Below.refl _ _)
            refine AllSteps.cons ⟨rfl, by rfl, fun _ _ => rfl, fun vals W hi hd K hK => ?_⟩ ?_
            · have e1 : vals 67 = .pointer (some ⟨w.heap.size, 10, none⟩) := hd ⟨67, .data⟩ (by simp) rfl
              have kk : W.cell? ⟨w.heap.size, 10, none⟩ = some (.slice A.la B.like.length A.lc) := (block_cell (i := 10) hi.2.1).trans rfl
              simp only [e1] at hK
              go_simp
              exact hK _ _ rfl (Below.refl _ _)
            refine AllSteps.cons ⟨rfl, by rfl, fun _ _ => rfl, fun vals W hi hd K hK => ?_⟩ ?_
            · have e1 : vals 68 = .slice A.la B.like.length A.lc := hd ⟨68, .data⟩ (by simp) rfl
              simp only [e1] at hK
              go_simp
              refine (CUl.out _ hi.1).mono ?_
              rintro e wn ⟨a1, c1, rfl, h1, hbn⟩
              exact hK _ _ ⟨a1, c1, rfl, h1⟩ hbn
            refine AllSteps.cons ⟨rfl, by rfl, fun _ _ => rfl, fun vals W hi hd K hK => ?_⟩ ?_
            · obtain ⟨a1, c1, e1, h1⟩ := hd ⟨66, .data⟩ (by simp) rfl
              obtain ⟨a2, c2, e2, h2⟩ := hd ⟨69, .data⟩ (by simp) rfl
              have HC := Lib.hid (many_list a1 a2 B.like.length (spC B.like) (B.like.map (wrongCh 18)) c1 c2 W HS.out.l (by simp [spV, spC]) (by simp) h1 h2)
              clear h1 h2
              simp only [e1, e2] at hK
              go_simp
              refine HC.out.mono ?_
              rintro e wn ⟨r, rfl, hr, hbn⟩
              exact hK _ _ ⟨r, rfl, hr⟩ hbn
            refine AllSteps.cons ⟨rfl, by rfl, fun _ _ => rfl, fun vals W hi hd K hK => ?_⟩ ?_
            · obtain ⟨r0, e0, h0⟩ := hd ⟨2, .data⟩ (by simp) rfl
              obtain ⟨r1, e1, h1⟩ := hd ⟨9, .data⟩ (by simp) rfl
              obtain ⟨r2, e2, h2⟩ := hd ⟨14, .data⟩ (by simp) rfl
              obtain ⟨r3, e3, h3⟩ := hd ⟨21, .data⟩ (by simp) rfl
              obtain ⟨r4, e4, h4⟩ := hd ⟨28, .data⟩ (by simp) rfl
              obtain ⟨r5, e5, h5⟩ := hd ⟨32, .data⟩ (by simp) rfl
              obtain ⟨r6, e6, h6⟩ := hd ⟨39, .data⟩ (by simp) rfl
              obtain ⟨r7, e7, h7⟩ := hd ⟨46, .data⟩ (by simp) rfl
              obtain ⟨r8, e8, h8⟩ := hd ⟨53, .data⟩ (by simp) rfl
              obtain ⟨r9, e9, h9⟩ := hd ⟨63, .data⟩ (by simp) rfl
              obtain ⟨r10, e10, h10⟩ := hd ⟨70, .data⟩ (by simp) rfl
              have HPR : Hid (Pairs B [r0, r1, r2, r3, r4, r5, r6, r7, r8, r9, r10]) := Lib.hid ⟨rfl, pairs_of rfl h0 h1 h2 h3 h4 h5 h6 h7 h8 h9 h10⟩
              clear h0 h1 h2 h3 h4 h5 h6 h7 h8 h9 h10
              simp only [e0, e1, e2, e3, e4, e5, e6, e7, e8, e9, e10] at hK
              go_simp
              exact hK _ _ ⟨W.heap.size, [r0, r1, r2, r3, r4, r5, r6, r7, r8, r9, r10], rfl, by simp, HPR.out, fun j r hr => (block_cell (heap_alloc_new W _)).trans (by simp only [List.getElem?_toArray]; exact cells11 hr)⟩ ((Below.refl _ _).alloc (Nat.le_refl _) _)
            refine AllSteps.cons ⟨rfl, by rfl, fun _ _ => rfl, fun vals W hi hd K hK => ?_⟩ ?_
            · obtain ⟨g, rl, e1, h1, h2, h3⟩ := hd ⟨71, .data⟩ (by simp) rfl
              have HV := Lib.hid (And.intro h1 (And.intro h2 h3))
              clear h1 h2 h3
              simp only [e1] at hK
              go_simp
              exact hK _ _ ⟨g, rl, rfl, HV.out.1, HV.out.2.1, HV.out.2.2⟩ (Below.refl _ _)
            exact AllSteps.nil
          case hD =>
            intro vals W3 hi hv
            obtain ⟨g, rl, e72, hg, hpr, hcells⟩ := hv 72 (by simp)
            have HPR := Lib.hid hpr
            have HCL := Lib.hid hcells
            have HI := Lib.hid hi
            have hcw := CW.out W3 hi.1
            unfold bookV at hcw
            rw [HMA.out, HNM.out, HXA.out] at hcw
            have HCW := Lib.hid hcw
            clear hcells hpr hi hv hcw
            simp only [e72]
            go_wp2_with fail
            go_loopw [131] (fun v w' => ∃ (i : Nat), v = .int .i64 i ∧ i ≤ 11 ∧ Hid (∀ (j : Nat) r, j < i → rl[j]? = some r → r < 0) ∧ W3 = w') (fun v _ => 11 - (intOf v).toNat)
            case atStart => exact ⟨0, rfl, Nat.zero_le _, Lib.hid (fun j r h => by omega), rfl⟩
            case round =>
              obtain ⟨i, rfl, hi', hneg, rfl⟩ := hrel
              by_cases hlt : i < 11
              · obtain ⟨r, hr⟩ : ∃ r, rl[i]? = some r := ⟨_, List.getElem?_eq_getElem (by rw [HPR.out.1]; exact hlt)⟩
                have q0 := HCL.out i r hr
                have HR := Lib.hid hr
                clear hr
                by_cases h0 : 0 ≤ r
                · have HN : Hid (¬ Fine B) := Lib.hid (fun hf => by
                    obtain ⟨p, hp, hiff⟩ := HPR.out.2 i r HR.out
                    exact hiff.1 h0 (hf.1 p (List.mem_of_getElem? hp)))
                  go_wp2_with fail
                  go_ret3
                  exact ⟨.inr ⟨HN.out, _, _, rfl⟩, HI.out.1⟩
                · go_wp2_with fail
                  go_roundw
                  case rel => exact ⟨i + 1, by go_num, by omega, Lib.hid (fun j r' hj hr' => by
                    by_cases e : j = i
                    · subst e
                      rw [HR.out] at hr'
                      cases hr'
                      omega
                    · exact hneg.out j r' (by omega) hr'), trivial⟩
                  case measure => simp [intOf]; omega
              · obtain rfl : 11 = i := by omega
                have HC11 : Hid (∀ p ∈ conds B, p) := Lib.hid (fun p hp => by
                  obtain ⟨j, hj⟩ := List.getElem?_of_mem hp
                  have hj11 : j < 11 := (List.getElem?_eq_some_iff.1 hj).1
                  obtain ⟨r, hr⟩ : ∃ r, rl[j]? = some r := ⟨_, List.getElem?_eq_getElem (by rw [HPR.out.1]; exact hj11)⟩
                  obtain ⟨p', hp', hiff⟩ := HPR.out.2 j r hr
                  rw [hj] at hp'
                  cases hp'
                  have hneg' := hneg.out j r hj11 hr
                  exact Classical.byContradiction fun hn => by have := hiff.2 hn; omega)
                have k0 : W3.cell? ⟨w.heap.size, 0, none⟩ = some (.slice A.na B.names.length A.nc) := (block_cell (i := 0) (Lib.hid HI.out.2.1).out).trans rfl
                have k1 : W3.cell? ⟨w.heap.size, 1, none⟩ = some (.slice A.sa B.status.length A.sc) := (block_cell (i := 1) (Lib.hid HI.out.2.1).out).trans rfl
                have k2 : W3.cell? ⟨w.heap.size, 2, none⟩ = some (.slice ma nm A.mc) := (block_cell (i := 2) (Lib.hid HI.out.2.1).out).trans rfl
                have k3 : W3.cell? ⟨w.heap.size, 3, none⟩ = some (.slice A.ka B.cls.length A.kc) := (block_cell (i := 3) (Lib.hid HI.out.2.1).out).trans rfl
                have k4 : W3.cell? ⟨w.heap.size, 4, none⟩ = some (.slice A.da B.decomp.length A.dc) := (block_cell (i := 4) (Lib.hid HI.out.2.1).out).trans rfl
                have k5 : W3.cell? ⟨w.heap.size, 5, none⟩ = some (.slice xa B.excl.length A.xc) := (block_cell (i := 5) (Lib.hid HI.out.2.1).out).trans rfl
                have k6 : W3.cell? ⟨w.heap.size, 6, none⟩ = some (.slice A.ba B.bidi.length A.bc) := (block_cell (i := 6) (Lib.hid HI.out.2.1).out).trans rfl
                have k7 : W3.cell? ⟨w.heap.size, 7, none⟩ = some (.slice A.ja B.join.length A.jc) := (block_cell (i := 7) (Lib.hid HI.out.2.1).out).trans rfl
                have k8 : W3.cell? ⟨w.heap.size, 8, none⟩ = some (.slice A.qa B.marks.length A.qc) := (block_cell (i := 8) (Lib.hid HI.out.2.1).out).trans rfl
                have k9 : W3.cell? ⟨w.heap.size, 9, none⟩ = some (.slice A.ra B.script.length A.rc) := (block_cell (i := 9) (Lib.hid HI.out.2.1).out).trans rfl
                have k10 : W3.cell? ⟨w.heap.size, 10, none⟩ = some (.slice A.la B.like.length A.lc) := (block_cell (i := 10) (Lib.hid HI.out.2.1).out).trans rfl
                go_wp2_with fail
                refine HCW.out.mono ?_
                rintro e w4 ⟨r, rfl, hr, hb4⟩
                have HRW := Lib.hid hr
                clear hr
                by_cases h0 : 0 ≤ r
                · have HN : Hid (¬ Fine B) := Lib.hid (fun hf => HRW.out.1 h0 hf.2)
                  go_wp2_with fail
                  go_ret3
                  exact ⟨.inr ⟨HN.out, _, _, rfl⟩, HI.out.1.trans (hb4.mono HI.out.1.size)⟩
                · have HF : Hid (Fine B) := Lib.hid ⟨HC11.out, Classical.byContradiction fun hn => h0 (HRW.out.2 hn)⟩
                  go_wp2_with fail
                  go_ret3
                  exact ⟨.inl ⟨HF.out, rfl⟩, HI.out.1.trans (hb4.mono HI.out.1.size)⟩
end Go.Proofs.YtgdambmineeboaaGreatDoor.CheckRef
