/- The walks of the statement's own helpers rows and inTurn. -/
import Derived.Test.YtgdambmineeboaaGreatDoorBBook
import Derived.Test.YtgdambmineeboaaGreatDoorBTexts
import Derived.Test.YtgdambmineeboaaGreatDoorBPrintP
import Derived.Test.YtgdambmineeboaaGreatDoorBLines3
set_option linter.unusedSimpArgs false
set_option linter.unusedVariables false
namespace Go.Proofs.YtgdambmineeboaaGreatDoor.Turn
open Go.RowKit Go.Lib Go.Proofs.YtgdambmineeboaaGreatDoor.Text Go.Proofs.YtgdambmineeboaaGreatDoor.Runes Go.Proofs.YtgdambmineeboaaGreatDoor.Print Go.Proofs.YtgdambmineeboaaGreatDoor.RefNine Go.Proofs.YtgdambmineeboaaGreatDoor.RefPrint Go.Proofs.YtgdambmineeboaaGreatDoor.Format Go.Proofs.YtgdambmineeboaaGreatDoor.Tell Go.Proofs.YtgdambmineeboaaGreatDoor.Given Go.Proofs.YtgdambmineeboaaGreatDoor.Mem Go.Proofs.YtgdambmineeboaaGreatDoor.Of Go.Proofs.YtgdambmineeboaaGreatDoor.Lists Go.Proofs.YtgdambmineeboaaGreatDoor.Book

/-- How far the names have come, rows having been gone over. -/
def turn : Int → List Val → Option Int
 | k, [] => some k
 | k, x :: l => if k < x.n then none else turn (if x.n = k then k + 1 else k) l
theorem turn_snoc : ∀ (l : List Val) (k : Int) (x : Val), turn k (l ++ [x]) = (turn k l).bind fun m => if m < x.n then none else some (if x.n = m then m + 1 else m)
 | [], k, x => by simp [turn]
 | y :: l, k, x => by
  rw [List.cons_append, turn, turn]
  split
  ·rfl
  ·exact turn_snoc l _ x
def inTurn (B : Mem.Book) : Bool := match turn 1 B.script with
 | none => false
 | some k => decide (k = B.names.length + 1)
def rows (B : Mem.Book) : Nat := B.status.length + B.maps.length + B.cls.length + B.decomp.length + B.excl.length + B.bidi.length + B.join.length + B.marks.length + B.script.length + B.like.length

theorem turn_none (l : List Val) (i : Nat) (x : Val) (k m : Int) (h : l[i]? = some x) (h0 : turn k (l.take i) = some m) (hx : m < x.n) : turn k l = none := by
 have e : l = (l.take i ++ [x]) ++ l.drop (i + 1) := by
  have := List.take_append_drop (i + 1) l
  rw [take_snoc' l i x h] at this
  exact this.symm
 rw [e]
 have h1 : turn k (l.take i ++ [x]) = none := by rw [turn_snoc, h0]; simp [hx]
 generalize l.take i ++ [x] = a at h1
 clear e h h0
 induction a generalizing k with
 | nil => simp [turn] at h1
 | cons y a ih =>
  rw [List.cons_append, turn]
  rw [turn] at h1
  split
  ·rfl
  ·rename_i hn
   rw [if_neg hn] at h1
   exact ih _ h1

set_option maxRecDepth 100000 in
set_option maxHeartbeats 4000000 in
theorem rows_any (B : Mem.Book) (A : Ads) (w : World) (hs : Small B) :
  Calls Tryz.prog 11 #[bookV B A] w fun e w' => e = .returned (.int .i64 (rows B : Int)) ∧ Below w.heap.size w w' := by
 obtain ⟨hn, h1, h2, _, h3, h4, _, h5, h6, h7, h8, h9, h10, _, _⟩ := hs
 unfold bookV
 go_enter Tryz.func11, Tryz.ntmps11
 go_wp2
 go_ret
 refine ⟨?_, (Below.refl _ _).alloc (Nat.le_refl _) _⟩
 have e : ((rows B : Nat) : Int) = B.status.length + B.maps.length + B.cls.length + B.decomp.length + B.excl.length + B.bidi.length + B.join.length + B.marks.length + B.script.length + B.like.length := by
  unfold rows
  omega
 rw [e]
 rfl

set_option maxRecDepth 100000 in
set_option maxHeartbeats 4000000 in
theorem inTurn_any (B : Mem.Book) (A : Ads) (w : World) (hs : Small B) (hL : Lies w B A) :
  Calls Tryz.prog 9 #[bookV B A] w fun e w' => e = .returned (.bool (inTurn B)) ∧ Below w.heap.size w w' := by
 have hnl := hs.n
 have hrl := hs.r
 have HR := Lib.hid hL.r
 clear hL hs
 unfold bookV
 go_enter Tryz.func9, Tryz.ntmps9
 go_wp2
 go_loopw [3, 9] (fun u v w' => ∃ (i : Nat) (k : Int), v = .int .i64 i ∧ u = .int .i64 k ∧ i ≤ B.script.length ∧ 1 ≤ k ∧ k ≤ i + 1 ∧ Hid (turn 1 (B.script.take i) = some k) ∧ Below w.heap.size w w' ∧ w'.cell? ⟨w.heap.size, 0, none⟩ = some (.slice A.na B.names.length A.nc) ∧ w.heap.size < w'.heap.size) (fun _ v _ => B.script.length - (intOf v).toNat)
 case atStart => exact ⟨0, 1, rfl, rfl, Nat.zero_le _, by omega, by omega, Lib.hid rfl, (Below.refl _ _).alloc (Nat.le_refl _) _, (World.cell?_alloc_new w _ _ 0).trans rfl, by simp⟩
 case round =>
  obtain ⟨i, k, rfl, rfl, hi, hk1, hk2, ht, hb, hc0, hlt0⟩ := hrel
  by_cases hlt : i < B.script.length
  ·obtain ⟨x, hx⟩ : ∃ x, B.script[i]? = some x := ⟨_, List.getElem?_eq_getElem hlt⟩
   rcases HR.out.below hb with h0 | ⟨bk, o, ha, hbk, hc⟩
   ·rw [h0] at hlt; simp at hlt
   obtain ⟨q0, q1, q2⟩ := vals_at (hc i x hx)
   have hstep : turn 1 (B.script.take (i + 1)) = if k < x.n then none else some (if x.n = k then k + 1 else k) := by
    rw [take_snoc' _ i x hx, turn_snoc, ht.out]
    rfl
   have HNO : Hid (k < x.n → turn 1 B.script = none) := Lib.hid (turn_none _ i x 1 k hx ht.out)
   have HST := Lib.hid hstep
   clear hc hx hstep
   rw [ha] at *
   rcases Int.lt_trichotomy k x.n with h | h | h
   ·have HF : Hid (inTurn B = false) := Lib.hid (by unfold inTurn; rw [HNO.out h])
    go_wp2
    go_ret
    exact ⟨by rw [HF.out]; rfl, hb.alloc hb.size _⟩
   ·have HS : Hid (turn 1 (B.script.take (i + 1)) = some (k + 1)) := Lib.hid (by rw [HST.out, if_neg (by omega), if_pos h.symm])
    have e1 : (x.n == k) = true := by rw [beq_iff_eq]; omega
    have e2 : ¬ k < x.n := by omega
    have hb2 := hb.alloc hb.size (.cells #[.int .i32 x.a, .int .i32 x.b, .int .i64 x.n] 65 (0, 0))
    have hc2 := (World.cell?_alloc_lt (w := wr) (o := .cells #[.int .i32 x.a, .int .i32 x.b, .int .i64 x.n] 65 (0, 0)) (a := ⟨w.heap.size, 0, none⟩) hlt0).trans hc0
    go_wp2
    go_roundw
    case rel => exact ⟨i + 1, k + 1, by go_num, by go_num, by omega, by omega, by omega, HS, hb2, hc2, by simp; omega⟩
    case measure => simp [intOf]; omega
   ·have HS : Hid (turn 1 (B.script.take (i + 1)) = some k) := Lib.hid (by rw [HST.out, if_neg (by omega), if_neg (by omega)])
    have e1 : (x.n == k) = false := by rw [beq_eq_false_iff_ne]; omega
    have e2 : ¬ k < x.n := by omega
    have hb2 := hb.alloc hb.size (.cells #[.int .i32 x.a, .int .i32 x.b, .int .i64 x.n] 65 (0, 0))
    have hc2 := (World.cell?_alloc_lt (w := wr) (o := .cells #[.int .i32 x.a, .int .i32 x.b, .int .i64 x.n] 65 (0, 0)) (a := ⟨w.heap.size, 0, none⟩) hlt0).trans hc0
    go_wp2
    go_roundw
    case rel => exact ⟨i + 1, k, by go_num, rfl, by omega, by omega, by omega, HS, hb2, hc2, by simp; omega⟩
    case measure => simp [intOf]; omega
  ·obtain rfl : i = B.script.length := by omega
   have ht' : turn 1 B.script = some k := by rw [← ht.out, List.take_length]
   have hF : inTurn B = decide (k = B.names.length + 1) := by unfold inTurn; rw [ht']
   by_cases h : k = B.names.length + 1
   ·have e1 : (k == (B.names.length : Int) + 1) = true := by rw [beq_iff_eq]; exact h
    have HF : Hid (inTurn B = true) := Lib.hid (by rw [hF, decide_eq_true h])
    clear hF ht' h
    go_wp2
    go_ret
    exact ⟨by rw [HF.out]; first | rfl | simp, hb⟩
   ·have e1 : (k == (B.names.length : Int) + 1) = false := by rw [beq_eq_false_iff_ne]; exact h
    have HF : Hid (inTurn B = false) := Lib.hid (by rw [hF, decide_eq_false h])
    clear hF ht' h
    go_wp2
    go_ret
    exact ⟨by rw [HF.out]; first | rfl | simp, hb⟩
end Go.Proofs.YtgdambmineeboaaGreatDoor.Turn

/- Plainly: a book's text as lines, one by one; the book that comes of reading them. -/
namespace Go.Proofs.YtgdambmineeboaaGreatDoor.Lns
open Go.RowKit Go.Lib Go.Proofs.YtgdambmineeboaaGreatDoor.Text Go.Proofs.YtgdambmineeboaaGreatDoor.Runes Go.Proofs.YtgdambmineeboaaGreatDoor.Print Go.Proofs.YtgdambmineeboaaGreatDoor.Split Go.Proofs.YtgdambmineeboaaGreatDoor.Lines Go.Proofs.YtgdambmineeboaaGreatDoor.RefNine Go.Proofs.YtgdambmineeboaaGreatDoor.Tell Go.Proofs.YtgdambmineeboaaGreatDoor.Mem Go.Proofs.YtgdambmineeboaaGreatDoor.Told Go.Proofs.YtgdambmineeboaaGreatDoor.Listed Go.Proofs.YtgdambmineeboaaGreatDoor.Lines10 Go.Proofs.YtgdambmineeboaaGreatDoor.Dirs Go.Proofs.YtgdambmineeboaaGreatDoor.Put Go.Proofs.YtgdambmineeboaaGreatDoor.Vals10 Go.Proofs.YtgdambmineeboaaGreatDoor.Texts10 Go.Proofs.YtgdambmineeboaaGreatDoor.RefText Go.Proofs.YtgdambmineeboaaGreatDoor.PrintP Go.Proofs.YtgdambmineeboaaGreatDoor.NamesAll

/-- A line of a book. -/
inductive Ln
 | st (x : Val)
 | mp (x : Chr)
 | cl (x : Val)
 | de (x : Chr)
 | ex (x : Spn)
 | bi (x : Val)
 | jo (x : Val)
 | ma (x : Spn)
 | sc (a b : Int) (s : ByteArray)
 | li (x : Chr)
def ba (l : List UInt8) : ByteArray := ⟨l.toArray⟩
def Ln.kind : Ln → ByteArray
 | .st x => stB x.n
 | .mp _ => ⟨#[109, 97, 112, 112, 101, 100]⟩
 | .cl _ => ⟨#[99, 108, 97, 115, 115]⟩
 | .de _ => ⟨#[100, 101, 99, 111, 109, 112, 111, 115, 101, 100]⟩
 | .ex _ => ⟨#[101, 120, 99, 108, 117, 100, 101, 100]⟩
 | .bi _ => ⟨#[98, 105, 100, 105]⟩
 | .jo _ => ⟨#[106, 111, 105, 110, 105, 110, 103]⟩
 | .ma _ => ⟨#[109, 97, 114, 107]⟩
 | .sc _ _ _ => ⟨#[115, 99, 114, 105, 112, 116]⟩
 | .li _ => ⟨#[108, 105, 107, 101]⟩
def Ln.a : Ln → Int
 | .st x | .cl x | .bi x | .jo x => x.a
 | .mp x | .de x | .li x => x.a
 | .ex x | .ma x => x.a
 | .sc a _ _ => a
def Ln.b : Ln → Int
 | .st x | .cl x | .bi x | .jo x => x.b
 | .mp x | .de x | .li x => x.b
 | .ex x | .ma x => x.b
 | .sc _ b _ => b
def Ln.more : Ln → Option ByteArray
 | .st _ | .ex _ | .ma _ => none
 | .mp x | .de x | .li x => some (ba (tellText x.is))
 | .cl x => some (ba (Lib.decDigits x.n.toNat))
 | .bi x => some (dirs.getD x.n.toNat ⟨#[]⟩)
 | .jo x => some (joins.getD x.n.toNat ⟨#[]⟩)
 | .sc _ _ s => some s
def Ln.fields (l : Ln) : List ByteArray := [l.kind, ba (atL l.a l.b)] ++ l.more.toList
def Ln.text (l : Ln) : List UInt8 := lineL l.kind.data.toList l.a l.b l.more
def lnsOf (B : Mem.Book) : List Ln :=
 B.status.map .st ++ B.maps.map .mp ++ B.cls.map .cl ++ B.decomp.map .de ++ B.excl.map .ex ++ B.bidi.map .bi ++ B.join.map .jo ++ B.marks.map .ma ++ (B.script.map fun x => .sc x.a x.b (B.names.getD (x.n - 1).toNat ⟨#[]⟩)) ++ B.like.map .li
theorem lns_len (B : Mem.Book) : (lnsOf B).length = Turn.rows B := by
 unfold lnsOf Turn.rows
 simp only [List.length_append, List.length_map]
/-- What is true of a line that was printed. -/
def LnOk : Ln → Prop
 | .st x => Sp x.a x.b ∧ 1 ≤ x.n ∧ x.n ≤ 3
 | .mp x | .de x | .li x => Sp x.a x.b ∧ TellOk x.is ∧ x.is ≠ []
 | .cl x => Sp x.a x.b ∧ 1 ≤ x.n ∧ x.n ≤ 254
 | .ex x | .ma x => Sp x.a x.b
 | .bi x => Sp x.a x.b ∧ 0 ≤ x.n ∧ x.n ≤ 22
 | .jo x => Sp x.a x.b ∧ 0 ≤ x.n ∧ x.n ≤ 5
 | .sc a b s => Sp a b ∧ Names.nameB s = true
theorem name_ok {l : List ByteArray} (h : OkNames l) {i : Nat} {s : ByteArray} (hs : l[i]? = some s) : Names.nameB s = true ∧ s ∉ l.take i := by
 obtain ⟨t, ht, hb, hn⟩ := h.2 i (List.getElem?_eq_some_iff.1 hs).1
 rw [hs] at ht
 cases ht
 refine ⟨hb, fun hm => ?_⟩
 obtain ⟨j, hj⟩ := List.getElem?_of_mem hm
 have hlt : j < i := by
  have := (List.getElem?_eq_some_iff.1 hj).1
  rw [List.length_take] at this
  omega
 rw [List.getElem?_take, if_pos hlt] at hj
 exact hn j s hj hlt rfl
theorem lns_ok {B : Mem.Book} (G : Lines10.Good B) : ∀ l ∈ lnsOf B, LnOk l := by
 intro l hl
 unfold lnsOf at hl
 simp only [List.mem_append, List.mem_map] at hl
 rcases hl with ((((((((⟨x, hx, rfl⟩ | ⟨x, hx, rfl⟩) | ⟨x, hx, rfl⟩) | ⟨x, hx, rfl⟩) | ⟨x, hx, rfl⟩) | ⟨x, hx, rfl⟩) | ⟨x, hx, rfl⟩) | ⟨x, hx, rfl⟩) | ⟨x, hx, rfl⟩) | ⟨x, hx, rfl⟩
 ·exact G.s.2 x hx
 ·exact ⟨(tell_ok G.m x hx).1, (tell_ok G.m x hx).2, ne_of G.m x hx⟩
 ·exact G.k.2 x hx
 ·exact ⟨(tell_ok G.d x hx).1, (tell_ok G.d x hx).2, ne_of G.d x hx⟩
 ·exact G.x.2 x hx
 ·exact G.b.2 x hx
 ·exact G.j.2 x hx
 ·exact G.q.2 x hx
 ·obtain ⟨h1, h2, h3⟩ := G.r.2 x hx
  have hlt : (x.n - 1).toNat < B.names.length := by omega
  refine ⟨h1, ?_⟩
  rw [List.getD_eq_getElem?_getD, List.getElem?_eq_getElem hlt]
  exact (name_ok G.n (List.getElem?_eq_getElem hlt)).1
 ·exact ⟨(tell_ok G.l x hx).1, (tell_ok G.l x hx).2, ne_of G.l x hx⟩
theorem fld_letters {s : ByteArray} (h : Names.nameB s = true) : Fld s := by
 unfold Names.nameB at h
 simp only [Bool.and_eq_true, decide_eq_true_eq] at h
 refine fld_of (by omega) fun c hc => ?_
 have hl := List.all_eq_true.1 h.2 c hc
 have key : ∀ n : Fin 256, Names.letterB (UInt8.ofNat n.val) = true → Plainish (UInt8.ofNat n.val) := by unfold Plainish; decide +kernel
 have h1 := key ⟨c.toNat, c.toNat_lt⟩
 rw [show UInt8.ofNat (⟨c.toNat, c.toNat_lt⟩ : Fin 256).val = c from by simp] at h1
 exact h1 hl
theorem getD_fld {l : List ByteArray} (h : ∀ s ∈ l, Fld s) (n : Nat) : Fld (l.getD n ⟨#[]⟩) := by
 rw [List.getD_eq_getElem?_getD]
 cases hx : l[n]? with
 | none => exact fld_small (by decide) (by decide)
 | some s => exact h s (List.mem_of_getElem? hx)
theorem fields_ok {l : Ln} (h : LnOk l) : ∀ s ∈ l.fields, Fld s := by
 intro s hs
 unfold Ln.fields at hs
 simp only [List.mem_append, List.mem_cons, List.not_mem_nil, or_false, Option.mem_toList] at hs
 obtain ⟨f1, f2, f3, f4, f5, f6, f7, f8, f9⟩ := fld_kinds
 rcases hs with (rfl | rfl) | hm
 ·cases l
  ·exact fld_st _
  ·exact f1
  ·exact f2
  ·exact f3
  ·exact f4
  ·exact f5
  ·exact f6
  ·exact f7
  ·exact f8
  ·exact f9
 ·exact at_fld (a := l.a) (b := l.b) rfl
 ·cases l <;> cases hm
  ·exact tell_plain h.2.1
  ·exact fld_dec _ (by have := h.2.2; omega)
  ·exact tell_plain h.2.1
  ·exact getD_fld fld_dirs _
  ·exact getD_fld fld_joins _
  ·exact fld_letters h.2
  ·exact tell_plain h.2.1
/-- A line that was printed, read. -/
def itOf (k : Nat) (l : Ln) : LineIt := ⟨k, l.fields.map (·.data.toList), []⟩
theorem text_one (l : Ln) : l.text = oneLine l.fields ⟨#[]⟩ ++ [10] := by
 have h := flds_join (k := l.kind) (at1 := ba (atL l.a l.b)) (mo := l.more) (a := l.a) (b := l.b) rfl
 unfold Ln.text oneLine Ln.fields
 rw [← h]
 simp [noteTail]
theorem reads_lns : ∀ (ls : List Ln) (k : Nat), (∀ l ∈ ls, LnOk l) → Reads k (ls.flatMap Ln.text) (ls.zipIdx k |>.map fun p => itOf p.2 p.1)
 | [], k, _ => .nil k
 | l :: ls, k, h => by
  have hf := fields_ok (h l (List.mem_cons_self ..))
  have hbh : badHead l.fields ⟨#[]⟩ = false := by
   unfold badHead Ln.fields
   cases l.more <;> rfl
  have hbf : badField l.fields = false := by
   unfold badField
   rw [List.any_eq_false]
   intro s hs
   rw [(hf s hs).2]
   decide
  obtain ⟨h1, h2, h3, h4⟩ := printed l.fields ⟨#[]⟩ hbh hbf
  have e : (l :: ls).flatMap Ln.text = oneLine l.fields ⟨#[]⟩ ++ 10 :: ls.flatMap Ln.text := by
   rw [List.flatMap_cons, text_one]
   simp
  have hc := cut_hit (ls.flatMap Ln.text) h1
  have ih := reads_lns ls (k + 1) (fun x hx => h x (List.mem_cons_of_mem _ hx))
  rw [e, List.zipIdx_cons, List.map_cons]
  have := Reads.some k (oneLine l.fields ⟨#[]⟩ ++ 10 :: ls.flatMap Ln.text) _ (by simp) (by rw [hc]; exact h4) (by rw [hc]; exact ih)
  rw [hc] at this
  dsimp only at this
  rw [h2, h3] at this
  exact this
theorem txt_lns {B : Mem.Book} (G : Lines10.Good B) : txt B 10 = (lnsOf B).flatMap Ln.text := by
 have e : txt B 10 = [] ++ RefText.part B 0 ++ RefText.part B 1 ++ RefText.part B 2 ++ RefText.part B 3 ++ RefText.part B 4 ++ RefText.part B 5 ++ RefText.part B 6 ++ RefText.part B 7 ++ RefText.part B 8 ++ RefText.part B 9 := rfl
 rw [e]
 unfold lnsOf
 simp only [List.flatMap_append, List.nil_append, List.flatMap_map]
 congr 1
 ·congr 1
  ·congr 1
   ·congr 1
    ·congr 1
     ·congr 1
      ·congr 1
       ·congr 1
        ·congr 1
         ·exact flat_congr fun x _ => (sta_line x).symm
         ·exact (chrs_text G.m).symm
        ·exact flat_congr fun x _ => (val_line kClass _ x _ rfl).symm
       ·exact (chrs_text G.d).symm
      ·exact flat_congr fun x _ => (spn_line _ x).symm
     ·exact flat_congr fun x _ => (val_line kBidi (nameAt dirs) x _ rfl).symm
    ·exact flat_congr fun x _ => (val_line kJoining (nameAt joins) x _ rfl).symm
   ·exact flat_congr fun x _ => (spn_line _ x).symm
  ·exact flat_congr fun x _ => (val_line kScript (fun n => nameAt B.names (n - 1)) x _ rfl).symm
 ·exact (chrs_text G.l).symm
/-! ### the book that comes of lines -/
def placeB (names : List ByteArray) (s : ByteArray) : Nat := names.findIdx fun t => t.data.toList == s.data.toList
def addLn (B : Mem.Book) : Ln → Mem.Book
 | .st x => { B with status := B.status ++ [x] }
 | .mp x => { B with maps := B.maps ++ [x] }
 | .cl x => { B with cls := B.cls ++ [x] }
 | .de x => { B with decomp := B.decomp ++ [x] }
 | .ex x => { B with excl := B.excl ++ [x] }
 | .bi x => { B with bidi := B.bidi ++ [x] }
 | .jo x => { B with join := B.join ++ [x] }
 | .ma x => { B with marks := B.marks ++ [x] }
 | .sc a b s => { B with names := if placeB B.names s < B.names.length then B.names else B.names ++ [s], script := B.script ++ [⟨a, b, (placeB B.names s : Int) + 1⟩] }
 | .li x => { B with like := B.like ++ [x] }
def emptyB : Mem.Book := ⟨[], [], [], [], [], [], [], [], [], [], []⟩
theorem fold_st : ∀ (l : List Val) (C : Mem.Book), (l.map Ln.st).foldl addLn C = { C with status := C.status ++ l }
 | [], C => by simp
 | x :: l, C => by rw [List.map_cons, List.foldl_cons, fold_st l]; simp [addLn]
theorem fold_mp : ∀ (l : List Chr) (C : Mem.Book), (l.map Ln.mp).foldl addLn C = { C with maps := C.maps ++ l }
 | [], C => by simp
 | x :: l, C => by rw [List.map_cons, List.foldl_cons, fold_mp l]; simp [addLn]
theorem fold_cl : ∀ (l : List Val) (C : Mem.Book), (l.map Ln.cl).foldl addLn C = { C with cls := C.cls ++ l }
 | [], C => by simp
 | x :: l, C => by rw [List.map_cons, List.foldl_cons, fold_cl l]; simp [addLn]
theorem fold_de : ∀ (l : List Chr) (C : Mem.Book), (l.map Ln.de).foldl addLn C = { C with decomp := C.decomp ++ l }
 | [], C => by simp
 | x :: l, C => by rw [List.map_cons, List.foldl_cons, fold_de l]; simp [addLn]
theorem fold_ex : ∀ (l : List Spn) (C : Mem.Book), (l.map Ln.ex).foldl addLn C = { C with excl := C.excl ++ l }
 | [], C => by simp
 | x :: l, C => by rw [List.map_cons, List.foldl_cons, fold_ex l]; simp [addLn]
theorem fold_bi : ∀ (l : List Val) (C : Mem.Book), (l.map Ln.bi).foldl addLn C = { C with bidi := C.bidi ++ l }
 | [], C => by simp
 | x :: l, C => by rw [List.map_cons, List.foldl_cons, fold_bi l]; simp [addLn]
theorem fold_jo : ∀ (l : List Val) (C : Mem.Book), (l.map Ln.jo).foldl addLn C = { C with join := C.join ++ l }
 | [], C => by simp
 | x :: l, C => by rw [List.map_cons, List.foldl_cons, fold_jo l]; simp [addLn]
theorem fold_ma : ∀ (l : List Spn) (C : Mem.Book), (l.map Ln.ma).foldl addLn C = { C with marks := C.marks ++ l }
 | [], C => by simp
 | x :: l, C => by rw [List.map_cons, List.foldl_cons, fold_ma l]; simp [addLn]
theorem fold_li : ∀ (l : List Chr) (C : Mem.Book), (l.map Ln.li).foldl addLn C = { C with like := C.like ++ l }
 | [], C => by simp
 | x :: l, C => by rw [List.map_cons, List.foldl_cons, fold_li l]; simp [addLn]
theorem turn_mono : ∀ (l : List Val) (k m : Int), Turn.turn k l = some m → k ≤ m
 | [], k, m, h => by rw [Turn.turn] at h; cases h; exact Int.le_refl _
 | x :: l, k, m, h => by
  rw [Turn.turn] at h
  split at h
  ·cases h
  ·have := turn_mono l _ m h
   split at this <;> omega
theorem place_old {N : List ByteArray} (h : OkNames N) {k j : Nat} (hj : j < k) (hk : k ≤ N.length) : placeB (N.take k) (N.getD j ⟨#[]⟩) = j := by
 have hjl : j < (N.take k).length := by rw [List.length_take]; omega
 unfold placeB
 rw [List.findIdx_eq hjl]
 have e : N.getD j ⟨#[]⟩ = N[j] := by rw [List.getD_eq_getElem?_getD, List.getElem?_eq_getElem (by omega)]; rfl
 rw [e]
 refine ⟨by simp, fun i hi => ?_⟩
 obtain ⟨s, hs, _, hn⟩ := h.2 j (by omega)
 rw [List.getElem?_eq_getElem (by omega)] at hs
 cases hs
 rw [List.getElem_take]
 rw [beq_eq_false_iff_ne]
 exact hn i _ (List.getElem?_eq_getElem (by omega)) hi
theorem place_new {N : List ByteArray} (h : OkNames N) {k : Nat} (hk : k < N.length) : placeB (N.take k) (N.getD k ⟨#[]⟩) = (N.take k).length := by
 unfold placeB
 rw [List.findIdx_eq_length]
 intro t ht
 obtain ⟨i, hi⟩ := List.getElem?_of_mem ht
 have hik : i < k := by
  have := (List.getElem?_eq_some_iff.1 hi).1
  rw [List.length_take] at this
  omega
 rw [List.getElem?_take, if_pos hik] at hi
 obtain ⟨s, hs, _, hn⟩ := h.2 k hk
 have e : N.getD k ⟨#[]⟩ = s := by rw [List.getD_eq_getElem?_getD, hs]; rfl
 rw [e, beq_eq_false_iff_ne]
 exact hn i t hi hik
theorem fold_sc {N : List ByteArray} (hN : OkNames N) : ∀ (l : List Val) (k : Nat) (m : Int) (C : Mem.Book), C.names = N.take k → k ≤ N.length → Turn.turn ((k : Int) + 1) l = some m → m ≤ (N.length : Int) + 1 → (∀ x ∈ l, 1 ≤ x.n) →
  (l.map fun x => Ln.sc x.a x.b (N.getD (x.n - 1).toNat ⟨#[]⟩)).foldl addLn C = { C with names := N.take (m - 1).toNat, script := C.script ++ l }
 | [], k, m, C, hC, _, ht, _, _ => by
  rw [Turn.turn] at ht
  cases ht
  rw [List.map_nil, List.foldl_nil, show ((k : Int) + 1 - 1).toNat = k from by omega, ← hC]
  simp
 | x :: l, k, m, C, hC, hk, ht, hm, h1 => by
  rw [Turn.turn] at ht
  split at ht
  ·cases ht
  ·rename_i hn
   have hx1 := h1 x (List.mem_cons_self ..)
   have hmono := turn_mono l _ m ht
   have hlen : (N.take k).length = k := by rw [List.length_take]; omega
   rw [List.map_cons, List.foldl_cons]
   by_cases hx : x.n = (k : Int) + 1
   ·rw [if_pos hx] at ht hmono
    have hkl : k < N.length := by omega
    have hp : placeB C.names (N.getD (x.n - 1).toNat ⟨#[]⟩) = (N.take k).length := by
     rw [hC, show (x.n - 1).toNat = k from by omega]
     exact place_new hN hkl
    have hnm : (addLn C (.sc x.a x.b (N.getD (x.n - 1).toNat ⟨#[]⟩))).names = N.take (k + 1) := by
     show (if placeB C.names _ < C.names.length then C.names else C.names ++ [_]) = _
     rw [hp, hC, if_neg (by omega), show (x.n - 1).toNat = k from by omega, List.take_succ_eq_append_getElem hkl, List.getD_eq_getElem?_getD, List.getElem?_eq_getElem hkl]
     rfl
    rw [fold_sc hN l (k + 1) m _ hnm (by omega) (by rw [show (((k + 1 : Nat) : Int) + 1) = (k : Int) + 1 + 1 from by omega]; exact ht) hm (fun y hy => h1 y (List.mem_cons_of_mem _ hy))]
    have hrow : (⟨x.a, x.b, (placeB C.names (N.getD (x.n - 1).toNat ⟨#[]⟩) : Int) + 1⟩ : Val) = x := by
     rw [hp, hlen, ← hx]
    show { C with names := _, script := (C.script ++ [_]) ++ l } = _
    rw [hrow]
    simp
   ·rw [if_neg hx] at ht
    have hj : (x.n - 1).toNat < k := by omega
    have hp : placeB C.names (N.getD (x.n - 1).toNat ⟨#[]⟩) = (x.n - 1).toNat := by
     rw [hC]
     exact place_old hN hj hk
    have hnm : (addLn C (.sc x.a x.b (N.getD (x.n - 1).toNat ⟨#[]⟩))).names = N.take k := by
     show (if placeB C.names _ < C.names.length then C.names else C.names ++ [_]) = _
     rw [hp, hC, if_pos (by rw [hlen]; exact hj)]
    rw [fold_sc hN l k m _ hnm hk ht hm (fun y hy => h1 y (List.mem_cons_of_mem _ hy))]
    have hrow : (⟨x.a, x.b, (placeB C.names (N.getD (x.n - 1).toNat ⟨#[]⟩) : Int) + 1⟩ : Val) = x := by
     rw [hp, show (((x.n - 1).toNat : Nat) : Int) + 1 = x.n from by omega]
    show { C with names := _, script := (C.script ++ [_]) ++ l } = _
    rw [hrow]
    simp
theorem fold_lns {B : Mem.Book} (G : Lines10.Good B) (ht : Turn.inTurn B = true) : (lnsOf B).foldl addLn emptyB = B := by
 unfold Turn.inTurn at ht
 split at ht
 ·cases ht
 ·rename_i k hk
  have hkl := of_decide_eq_true ht
  unfold lnsOf
  simp only [List.foldl_append]
  rw [fold_st, fold_mp, fold_cl, fold_de, fold_ex, fold_bi, fold_jo, fold_ma, fold_sc G.n B.script 0 k _ rfl (Nat.zero_le _) hk (by omega) (fun x hx => (G.r.2 x hx).2.1), fold_li]
  show (⟨B.names.take (k - 1).toNat, [] ++ B.status, [] ++ B.maps, [] ++ B.cls, [] ++ B.decomp, [] ++ B.excl, [] ++ B.bidi, [] ++ B.join, [] ++ B.marks, [] ++ B.script, [] ++ B.like⟩ : Mem.Book) = B
  rw [hkl, show ((B.names.length : Int) + 1 - 1).toNat = B.names.length from by omega, List.take_length]
  rfl
end Go.Proofs.YtgdambmineeboaaGreatDoor.Lns
