/- The walks of the lists of names of directions and joinings, the program's and the reference's. -/
import Derived.Test.YtgdambmineeboaaGreatDoorBOf
import Derived.Laws.EntriesVeiled
import Derived.Maps.OwnOps
set_option linter.unusedSimpArgs false
set_option linter.unusedVariables false
namespace Go.Proofs.YtgdambmineeboaaGreatDoor.Dirs
open Go.RowKit Go.Lib Go.Proofs.YtgdambmineeboaaGreatDoor.Text Go.Proofs.YtgdambmineeboaaGreatDoor.Runes Go.Proofs.YtgdambmineeboaaGreatDoor.Print Go.Proofs.YtgdambmineeboaaGreatDoor.RefNine Go.Proofs.YtgdambmineeboaaGreatDoor.RefPrint Go.Proofs.YtgdambmineeboaaGreatDoor.Format Go.Proofs.YtgdambmineeboaaGreatDoor.Tell Go.Proofs.YtgdambmineeboaaGreatDoor.Given Go.Proofs.YtgdambmineeboaaGreatDoor.Mem

def joins : List ByteArray := [⟨#[85]⟩, ⟨#[76]⟩, ⟨#[82]⟩, ⟨#[68]⟩, ⟨#[84]⟩, ⟨#[67]⟩]
theorem strs_block {w : World} {b : Nat} {l : List ByteArray} {t : TypeId} (h : w.heap[b]? = some (.cells (l.map Value.string).toArray t (0, 0))) : Strs w (some ⟨b, 0, none⟩) l :=
  .inr ⟨b, 0, rfl, block_lt h, fun j x hx => by
    rw [Nat.zero_add]
    exact (block_cell (i := j) h).trans (by simp [hx])⟩

set_option maxRecDepth 100000 in
theorem refJoins_any (w : World) : Calls Tryz.prog 33 #[] w fun e w' => ∃ a c, e = .returned (.slice a 6 c) ∧ Strs w' a joins ∧ Below w.heap.size w w' ∧ 6 ≤ c := by
  go_enter Tryz.func33, Tryz.ntmps33
  go_wp2
  go_ret
  exact ⟨some ⟨w.heap.size, 0, none⟩, 6, rfl, strs_block (l := joins) (heap_alloc_new _ _), (Below.refl _ _).alloc (Nat.le_refl _) _, Nat.le_refl _⟩
set_option maxRecDepth 100000 in
theorem joins_any (w : World) : Calls Tryz.prog 26 #[] w fun e w' => ∃ a c, e = .returned (.slice a 6 c) ∧ Strs w' a joins ∧ Below w.heap.size w w' ∧ 6 ≤ c := by
  go_enter Tryz.func26, Tryz.ntmps26
  go_wp2
  go_ret
  exact ⟨some ⟨w.heap.size, 0, none⟩, 6, rfl, strs_block (l := joins) (heap_alloc_new _ _), (Below.refl _ _).alloc (Nat.le_refl _) _, Nat.le_refl _⟩
def dirs : List ByteArray := [⟨#[76]⟩, ⟨#[82]⟩, ⟨#[65, 76]⟩, ⟨#[69, 78]⟩, ⟨#[69, 83]⟩, ⟨#[69, 84]⟩, ⟨#[65, 78]⟩, ⟨#[67, 83]⟩, ⟨#[78, 83, 77]⟩, ⟨#[66, 78]⟩, ⟨#[79, 78]⟩, ⟨#[66]⟩, ⟨#[83]⟩, ⟨#[87, 83]⟩, ⟨#[76, 82, 69]⟩, ⟨#[76, 82, 79]⟩, ⟨#[82, 76, 69]⟩, ⟨#[82, 76, 79]⟩, ⟨#[80, 68, 70]⟩, ⟨#[76, 82, 73]⟩, ⟨#[82, 76, 73]⟩, ⟨#[70, 83, 73]⟩, ⟨#[80, 68, 73]⟩]
set_option maxRecDepth 100000 in
set_option maxHeartbeats 1000000 in
theorem refDirs_any (w : World) : Calls Tryz.prog 32 #[] w fun e w' => ∃ a c, e = .returned (.slice a 23 c) ∧ Strs w' a dirs ∧ Below w.heap.size w w' ∧ 23 ≤ c := by
  go_enter Tryz.func32, Tryz.ntmps32
  go_wp2
  go_ret
  exact ⟨some ⟨w.heap.size, 0, none⟩, 23, rfl, strs_block (l := dirs) (heap_alloc_new _ _), (Below.refl _ _).alloc (Nat.le_refl _) _, Nat.le_refl _⟩
set_option maxRecDepth 100000 in
set_option maxHeartbeats 1000000 in
theorem dirs_any (w : World) : Calls Tryz.prog 24 #[] w fun e w' => ∃ a c, e = .returned (.slice a 23 c) ∧ Strs w' a dirs ∧ Below w.heap.size w w' ∧ 23 ≤ c := by
  go_enter Tryz.func24, Tryz.ntmps24
  go_wp2
  go_ret
  exact ⟨some ⟨w.heap.size, 0, none⟩, 23, rfl, strs_block (l := dirs) (heap_alloc_new _ _), (Below.refl _ _).alloc (Nat.le_refl _) _, Nat.le_refl _⟩
end Go.Proofs.YtgdambmineeboaaGreatDoor.Dirs

/- Laws of a map whose keys are texts and whose elements are kinds of lines; the walks of the functions that make kinds. -/
namespace Go.Proofs.YtgdambmineeboaaGreatDoor.MapK
open Go Go.RowKit Go.Lib Go.Proofs.YtgdambmineeboaaGreatDoor.Text Go.Proofs.YtgdambmineeboaaGreatDoor.Print Go.Proofs.YtgdambmineeboaaGreatDoor.RefNine Go.Proofs.YtgdambmineeboaaGreatDoor.Format Go.Proofs.YtgdambmineeboaaGreatDoor.Tell Go.Proofs.YtgdambmineeboaaGreatDoor.Mem
def setB (w : World) (r : Nat) (o : Obj) : World := { w with heap := w.heap.setIfInBounds r o }
theorem setB_grown (w : World) (r : Nat) (o : Obj) : w.grownBy (setB w r o) (some r) := ⟨rfl, rfl, rfl, by simp [setB], fun k _ hk => by
  have hne : k ≠ r := fun e => hk (by rw [e])
  show (w.heap.setIfInBounds r o)[k]? = w.heap[k]?
  simp [Array.getElem?_setIfInBounds_ne (Ne.symm hne)]⟩
theorem setB_at {w : World} {r : Nat} {o o' : Obj} (h : w.heap[r]? = some o) : (setB w r o').heap[r]? = some o' := (MapKept.heap_set h).1
theorem undMap : Tryz.prog.underlying 85 = some (.map 9 135) := Tryz.underlying85
theorem undStr : Tryz.prog.underlying 9 = some .string := Tryz.underlying9
theorem run_insert (w : World) (b : Nat) (es : Array MapEntry) (clock : Nat) (key : ByteArray) (val : Value) (hb : w.heap[b]? = some (.map es clock)) (hn : Instr.findNow .string (.string key) es.toList 0 = some none) :
    (Instr.mapUpdate 85 (.map (some b)) (.string key) val).run Tryz.prog w = .ok () (setB w b (.map (es.push { key := .string key, val, born := clock }) (clock + 1))) := by
  have hc : (Instr.checkKey false 10000 9 (.string key)).run Tryz.prog w = .ok () w := MapKept.run_checkKey undStr (show MapKept.IsKey .string (.string key) from trivial) false 9999
  have hf := MapKept.run_findKey (P := Tryz.prog) (w := w) undStr hn
  simp [Instr.mapUpdate, run_underlying undMap, MapKept.run_getObj_map hb, hc, hf, MapKept.run_setObj_map _ hb, Result.andThen, setB]
theorem run_look (w : World) (b i : Nat) (es : Array MapEntry) (clock : Nat) (key : ByteArray) (val : Value) (hb : w.heap[b]? = some (.map es clock)) (hn : Instr.findNow .string (.string key) es.toList 0 = some (some (i, val))) :
    (Instr.lookup 85 (.map (some b)) (.string key) true).run Tryz.prog w = .ok (.tuple #[val, .bool true]) w := by
  have hc : ∀ e, (Instr.checkKey e 10000 9 (.string key)).run Tryz.prog w = .ok () w := fun e => MapKept.run_checkKey undStr (show MapKept.IsKey .string (.string key) from trivial) e 9999
  have hf := MapKept.run_findKey (P := Tryz.prog) (w := w) undStr hn
  simp [Instr.lookup, run_underlying undMap, MapKept.run_getObj_map hb, hc, hf, Result.andThen]
theorem wpList_insert {ops : Array Oper} {rest : List Oper} {o : Oper} {a : Act} {Q : Exit → Act → World → Prop} (w : World) (hg : o.guard = none) (m x v : Operand) (hop : o.op = Op.insert 85 m x v)
    (b : Nat) (es : Array MapEntry) (clock : Nat) (hm : a.eval m = .map (some b)) (hb : w.heap[b]? = some (.map es clock)) (key : ByteArray) (hx : a.eval x = .string key) (val : Value) (hv : a.eval v = val)
    (hn : Instr.findNow .string (.string key) es.toList 0 = some none)
    (hK : ∀ w', w'.heap[b]? = some (.map (es.push { key := .string key, val, born := clock }) (clock + 1)) → w.grownBy w' (some b) → wpList Tryz.prog ops Q rest (a.put o.dst undef) w') : wpList Tryz.prog ops Q (o :: rest) a w := by
  refine wpList_plain hg fun K' hK' => ?_
  have hrun := run_insert w b es clock key val hb hn
  unfold Oper.wp
  simp [execOp, hop, hm, hx, hv, hrun, Result.andThen]
  exact hK' _ _ (hK _ (setB_at hb) (setB_grown _ _ _))
theorem wpList_look {ops : Array Oper} {rest : List Oper} {o : Oper} {a : Act} {Q : Exit → Act → World → Prop} (w : World) (hg : o.guard = none) (m x : Operand) (hop : o.op = Op.lookup 85 m x true)
    (b i : Nat) (es : Array MapEntry) (clock : Nat) (hm : a.eval m = .map (some b)) (hb : w.heap[b]? = some (.map es clock)) (key : ByteArray) (hx : a.eval x = .string key) (val : Value)
    (hn : Instr.findNow .string (.string key) es.toList 0 = some (some (i, val)))
    (hK : wpList Tryz.prog ops Q rest (a.put o.dst (.tuple #[val, .bool true])) w) : wpList Tryz.prog ops Q (o :: rest) a w := by
  refine wpList_plain hg fun K' hK' => ?_
  have hrun := run_look w b i es clock key val hb hn
  unfold Oper.wp
  simp [execOp, hop, hm, hx, hrun, Result.andThen]
  exact hK' _ _ hK
/-! ### the makers of kinds -/
set_option maxRecDepth 100000 in
theorem status_any (n : Int) (w : World) : Calls Tryz.prog 95 #[.int .i64 n] w fun e w' => e = .returned (.agg #[.int .i64 2, .func (.func 149) #[] #[.pointer (some ⟨w.heap.size, 0, none⟩)]]) ∧ Below w.heap.size w w' ∧ w'.heap[w.heap.size]? = some (.cells #[.int .i64 n] 3 (0, 0)) := by
  have hx0 := heap_alloc_new w (.cells #[.int .i64 n] 3 (0, 0))
  have HX0 := Lib.hid hx0
  have HB := Lib.hid ((Below.refl w.heap.size w).alloc (Nat.le_refl _) (.cells #[.int .i64 n] 3 (0, 0)))
  clear hx0
  go_enter Tryz.func95, Tryz.ntmps95
  go_wp2
  exact bodyPost_ret (v := .agg #[.int .i64 2, .func (.func 149) #[] #[.pointer (some ⟨w.heap.size, 0, none⟩)]]) (by simp [results, Tryz.results95, go_sem]) rfl ⟨rfl, HB.out.alloc (by simp; try omega) _, (Below.heap_alloc _ _ _ (by simp; try omega)).trans HX0.out⟩
set_option maxRecDepth 100000 in
theorem chars_any (gl : Nat) (w : World) : Calls Tryz.prog 96 #[.func (.func gl) #[] #[]] w fun e w' => e = .returned (.agg #[.int .i64 3, .func (.func 150) #[] #[.pointer (some ⟨w.heap.size, 0, none⟩)]]) ∧ Below w.heap.size w w' ∧ w'.heap[w.heap.size]? = some (.cells #[.func (.func gl) #[] #[]] 139 (0, 0)) := by
  have hx0 := heap_alloc_new w (.cells #[.func (.func gl) #[] #[]] 139 (0, 0))
  have HX0 := Lib.hid hx0
  have HB := Lib.hid ((Below.refl w.heap.size w).alloc (Nat.le_refl _) (.cells #[.func (.func gl) #[] #[]] 139 (0, 0)))
  clear hx0
  go_enter Tryz.func96, Tryz.ntmps96
  go_wp2
  exact bodyPost_ret (v := .agg #[.int .i64 3, .func (.func 150) #[] #[.pointer (some ⟨w.heap.size, 0, none⟩)]]) (by simp [results, Tryz.results96, go_sem]) rfl ⟨rfl, HB.out.alloc (by simp; try omega) _, (Below.heap_alloc _ _ _ (by simp; try omega)).trans HX0.out⟩
set_option maxRecDepth 100000 in
theorem spans_any (gl : Nat) (w : World) : Calls Tryz.prog 103 #[.func (.func gl) #[] #[]] w fun e w' => e = .returned (.agg #[.int .i64 2, .func (.func 155) #[] #[.pointer (some ⟨w.heap.size, 0, none⟩)]]) ∧ Below w.heap.size w w' ∧ w'.heap[w.heap.size]? = some (.cells #[.func (.func gl) #[] #[]] 148 (0, 0)) := by
  have hx0 := heap_alloc_new w (.cells #[.func (.func gl) #[] #[]] 148 (0, 0))
  have HX0 := Lib.hid hx0
  have HB := Lib.hid ((Below.refl w.heap.size w).alloc (Nat.le_refl _) (.cells #[.func (.func gl) #[] #[]] 148 (0, 0)))
  clear hx0
  go_enter Tryz.func103, Tryz.ntmps103
  go_wp2
  exact bodyPost_ret (v := .agg #[.int .i64 2, .func (.func 155) #[] #[.pointer (some ⟨w.heap.size, 0, none⟩)]]) (by simp [results, Tryz.results103, go_sem]) rfl ⟨rfl, HB.out.alloc (by simp; try omega) _, (Below.heap_alloc _ _ _ (by simp; try omega)).trans HX0.out⟩
set_option maxRecDepth 100000 in
theorem value_any (gl gr : Nat) (cr : Array Value) (w : World) : Calls Tryz.prog 98 #[.func (.func gl) #[] #[], .func (.func gr) #[] cr] w fun e w' => e = .returned (.agg #[.int .i64 3, .func (.func 152) #[] #[.pointer (some ⟨w.heap.size + 1, 0, none⟩), .pointer (some ⟨w.heap.size, 0, none⟩)]]) ∧ Below w.heap.size w w' ∧ w'.heap[w.heap.size]? = some (.cells #[.func (.func gl) #[] #[]] 142 (0, 0)) ∧ w'.heap[w.heap.size + 1]? = some (.cells #[.func (.func gr) #[] cr] 145 (0, 0)) := by
  have hx0 := heap_alloc_new w (.cells #[.func (.func gl) #[] #[]] 142 (0, 0))
  have hx1 := heap_alloc_new (w.alloc (.cells #[.func (.func gl) #[] #[]] 142 (0, 0))) (.cells #[.func (.func gr) #[] cr] 145 (0, 0))
  rw [World.size_alloc] at hx1
  have HX0 := Lib.hid ((Below.heap_alloc (w.alloc (.cells #[.func (.func gl) #[] #[]] 142 (0, 0))) (.cells #[.func (.func gr) #[] cr] 145 (0, 0)) w.heap.size (by simp)).trans hx0)
  have HX1 := Lib.hid hx1
  have HB := Lib.hid (((Below.refl w.heap.size w).alloc (Nat.le_refl _) (.cells #[.func (.func gl) #[] #[]] 142 (0, 0))).alloc (by simp) (.cells #[.func (.func gr) #[] cr] 145 (0, 0)))
  clear hx0 hx1
  go_enter Tryz.func98, Tryz.ntmps98
  go_wp2
  exact bodyPost_ret (v := .agg #[.int .i64 3, .func (.func 152) #[] #[.pointer (some ⟨w.heap.size + 1, 0, none⟩), .pointer (some ⟨w.heap.size, 0, none⟩)]]) (by simp [results, Tryz.results98, go_sem]) rfl ⟨rfl, HB.out.alloc (by simp; try omega) _, (Below.heap_alloc _ _ _ (by simp; try omega)).trans HX0.out, (Below.heap_alloc _ _ _ (by simp; try omega)).trans HX1.out⟩
theorem named_any (a : Option Addr) (n c : Nat) (w : World) : Calls Tryz.prog 106 #[.slice a n c] w fun e w' => e = .returned (.func (.func 156) #[] #[.pointer (some ⟨w.heap.size, 0, none⟩)]) ∧ Below w.heap.size w w' ∧ w'.heap[w.heap.size]? = some (.cells #[.slice a n c] 22 (0, 0)) := by
  have HX0 := Lib.hid (heap_alloc_new w (.cells #[.slice a n c] 22 (0, 0)))
  have HB := Lib.hid ((Below.refl w.heap.size w).alloc (Nat.le_refl _) (.cells #[.slice a n c] 22 (0, 0)))
  go_enter Tryz.func106, Tryz.ntmps106
  go_wp2
  go_ret
  exact ⟨rfl, HB.out, HX0.out⟩
end Go.Proofs.YtgdambmineeboaaGreatDoor.MapK
