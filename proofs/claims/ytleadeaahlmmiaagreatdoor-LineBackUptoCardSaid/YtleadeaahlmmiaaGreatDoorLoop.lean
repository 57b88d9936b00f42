/- A loop over the lines of a text whose body always goes on: what the walk of such a statement asks. And line.Lines itself. -/
import Derived.Test.YtleadeaahlmmiaaGreatDoorLines
namespace Go.Proofs.YtleadeaahlmmiaaGreatDoor.Loop
open Go.RowKit Go.Lib Go.Shelf Go.Proofs.YtleadeaahlmmiaaGreatDoor.Text Go.Proofs.YtleadeaahlmmiaaGreatDoor.Runes Go.Proofs.YtleadeaahlmmiaaGreatDoor.Print Go.Proofs.YtleadeaahlmmiaaGreatDoor.RefNine Go.Proofs.YtleadeaahlmmiaaGreatDoor.RefPrint Go.Proofs.YtleadeaahlmmiaaGreatDoor.Format Go.Proofs.YtleadeaahlmmiaaGreatDoor.Tell Go.Proofs.YtleadeaahlmmiaaGreatDoor.Given Go.Proofs.YtleadeaahlmmiaaGreatDoor.Split Go.Proofs.YtleadeaahlmmiaaGreatDoor.Cut Go.Proofs.YtleadeaahlmmiaaGreatDoor.Lines

theorem lines_any (s : ByteArray) (w : World) : Calls Tryz.prog 8 #[.string s] w fun e w' =>
    e = .returned (.func (.func 20) #[] #[.pointer (some ⟨w.heap.size, 0, none⟩)]) ∧ w' = w.alloc (.cells #[.string s] 9) := by
  go_enter Tryz.func8, Tryz.ntmps8
  go_wp2
  go_ret
  exact ⟨rfl, rfl⟩

/-- How a round's body ends: it goes on, the loop's own two blocks as they were. -/
def GoesOn (D n₀ : Nat) (I : List LineIt → World → Prop) (xs : List LineIt) (W : World) : Exit → Act → World → Prop
  | .normal, _, W' => W'.heap[D + 1]? = W.heap[D + 1]? ∧ W'.heap[D]? = W.heap[D]? ∧ Below n₀ W W' ∧ I xs W'
  | _, _, _ => False

def lineCells (it : LineIt) (ad : Option Addr) (k c : Nat) (note : ByteArray) : Array Value := #[.int .i64 (it.num : Int), .slice ad k c, .string note]

theorem range_lines {g : Operand} {ps : Array Tmp} {assign body : Code} {Q : Exit → Act → World → Prop} {a : Act} {w : World} (n : Nat) (hn : 3 ≤ n) (B n₀ : Nat) (s : ByteArray) (items : List LineIt)
    (hg : a.eval g = .func (.func 20) #[] #[.pointer (some ⟨B, 0, none⟩)]) (hB : w.cell? ⟨B, 0, none⟩ = some (.string s)) (hBl : B < w.heap.size) (hQ : Quick w) (hq0 : 0 < n₀)
    (hn₀ : n₀ ≤ w.heap.size) (hR : Reads 1 s.data.toList items) (hs : s.size ≤ 1073741824) (hps : ps.size = 1)
    (I : List LineIt → World → Prop) (hI : ∀ pre A A', I pre A → Below w.heap.size A A' → I pre A') (h0 : I [] w) (pv py : Nat)
    (hassign : ∀ it ad k c note W K, K { tmps := (a.tmps.setIfInBounds pv (.agg (lineCells it ad k c note))).setIfInBounds py (.pointer (some ⟨W.heap.size, 0, none⟩)), defers := [] } (W.alloc (.cells (lineCells it ad k c note) 24 (0, 0))) →
      assign.wpIn (Fence.wide.inRound (w.heap.size + 1)) (n - 1 - 1) Tryz.prog (Exit.then K (fun _ _ _ => False)) { tmps := (ps.zip #[.agg (lineCells it ad k c note)]).foldl (fun t (p, v) => t.setIfInBounds p v) a.tmps, defers := [] } W)
    (hbody : ∀ pre it ad c fs note yb W, I pre W → Strs W ad fs → fs.map (·.data.toList) = it.fields → note.data.toList = it.note → fs.length ≤ c → (∃ post, items = pre ++ it :: post) →
      W.heap[yb]? = some (.cells (lineCells it ad fs.length c note) 24 (0, 0)) → w.heap.size + 2 ≤ yb → Below n₀ w W →
      body.wpIn (Fence.wide.inRound (w.heap.size + 1)) (n - 1 - 1) Tryz.prog (GoesOn w.heap.size n₀ I (pre ++ [it]) W) { tmps := (a.tmps.setIfInBounds pv (.agg (lineCells it ad fs.length c note))).setIfInBounds py (.pointer (some ⟨yb, 0, none⟩)), defers := [] } W)
    (hdone : ∀ W, I items W → W.heap[w.heap.size]? = some (.deferred (some [])) → Below n₀ w W → Q .normal { a with defers := { target := .collected w.heap.size, args := #[] } :: a.defers } W) :
    (Code.rangeFunc g ps assign body).wpIn Fence.wide n Tryz.prog Q a w := by
  refine wpIn_rangeFunc ?_
  intro fn hfn
  obtain ⟨rec, hrec⟩ : ∃ rec : LoopState → Option Code → Go.Loop, rec = fun st pe => { state := st, pending := pe, fn, tmps := a.tmps, params := ps, assign, body, defers := w.heap.size } := ⟨_, rfl⟩
  obtain ⟨W1, hW1⟩ : ∃ W1, (w.alloc (.deferred (some []))).alloc (.loop (rec .ready none)) = W1 := ⟨_, rfl⟩
  have hL1 : W1.heap[w.heap.size + 1]? = some (.loop (rec .ready none)) := by
    rw [← hW1]; have := World.alloc_heap_new (w.alloc (.deferred (some []))) (.loop (rec .ready none)); rwa [World.size_alloc] at this
  have hK1 : W1.heap[w.heap.size]? = some (.deferred (some [])) := by
    rw [← hW1]; exact (Below.heap_alloc _ _ _ (by simp)).trans (World.alloc_heap_new w _)
  have hb1 : Below w.heap.size w W1 := by
    rw [← hW1]; exact ((Below.refl _ w).alloc (Nat.le_refl _) _).alloc (by simp) _
  refine ⟨w.heap.size + 1, [{ target := .collected w.heap.size, args := #[] }], W1, { target := .fn (.func 20) #[.pointer (some ⟨B, 0, none⟩)], args := #[.func (.yield (w.heap.size + 1)) #[] #[]] }, W1, 20,
    #[.func (.yield (w.heap.size + 1)) #[] #[], .pointer (some ⟨B, 0, none⟩)], W1, ?_, ?_, fun _ _ => trivial, ?_, fun _ => by omega, ?_⟩
  · rw [← hW1, hrec]; exact run_enterLoop_outer _ _ _ _ _
  · simp only [resolve, hg]
    simp [go_sem]
  · simp [invoke, go_sem]
  · refine (lines1_in (n - 1) (by omega) (w.heap.size + 1) B n₀ s items W1
      (fun pre W => I pre W ∧ W.heap[w.heap.size + 1]? = some (.loop (rec .ready none)) ∧ W.heap[w.heap.size]? = some (.deferred (some [])))
      ?_ ?_ ((hb1.cell (p := ⟨B, 0, none⟩) hBl).trans hB) (hQ.below hb1) hq0 (Nat.le_trans hn₀ hb1.size) hR hs ⟨hI _ _ _ h0 hb1, hL1, hK1⟩).mono ?_
    · rintro pre A A' ⟨hi, hl, hk⟩ hbA
      have hlA := (Array.getElem?_eq_some_iff.1 hl).1
      exact ⟨hI _ _ _ hi (hbA.mono (by omega)), (hbA.block _ hlA).trans hl, (hbA.block _ (by omega)).trans hk⟩
    · rintro pre it ad c fs note W ⟨hi, hl, hk⟩ hst hfs hnote hc hpost hbW
      have hlt : w.heap.size + 1 < W.heap.size := (Array.getElem?_eq_some_iff.1 hl).1
      have hy := run_yield (P := Tryz.prog) (args := #[.agg (lineCells it ad fs.length c note)]) hl (by rw [hrec]; exact hps.symm)
      rw [hrec] at hy
      have hal : Below W.heap.size W (W.alloc (.cells (lineCells it ad fs.length c note) 24 (0, 0))) := (Below.refl _ W).alloc (Nat.le_refl _) _
      have hl' := (hal.block _ hlt).trans hl
      have hk' := (hal.block _ (by omega)).trans hk
      have hbusy := run_beginRound (P := Tryz.prog) hl' (by rw [hrec])
      refine ⟨fn, _, assign, body, hy, roundIn_of_wpIn trivial (hassign it ad fs.length c note W _ ⟨_, hbusy, ?_⟩)⟩
      obtain ⟨Wb, hWb⟩ : ∃ Wb, (W.alloc (.cells (lineCells it ad fs.length c note) 24 (0, 0))).putObj (w.heap.size + 1) (.loop { rec .ready none with state := .busy }) = Wb := ⟨_, rfl⟩
      have hszA : (W.alloc (.cells (lineCells it ad fs.length c note) 24 (0, 0))).heap.size = W.heap.size + 1 := by simp
      have hlb : Wb.heap[w.heap.size + 1]? = some (.loop { rec .ready none with state := .busy }) := by rw [← hWb]; exact World.putObj_heap_same (by omega)
      have hoth : ∀ k, k ≠ w.heap.size + 1 → Wb.heap[k]? = (W.alloc (.cells (lineCells it ad fs.length c note) 24 (0, 0))).heap[k]? := fun k hk => by rw [← hWb]; exact World.putObj_heap_other (by omega)
      have hput : Below w.heap.size (W.alloc (.cells (lineCells it ad fs.length c note) 24 (0, 0))) Wb := by
        rw [← hWb]
        exact (Below.refl _ _).grown (grownBy_putObj' _ _ _) (by omega) (fun k e => by cases e; omega)
      have hstb : Strs Wb ad fs := by
        rcases hst with h | ⟨bk, o, h1, h2, h3⟩
        · exact .inl h
        · by_cases hz : fs = []
          · exact .inl hz
          · refine .inr ⟨bk, o, h1, ?_, ?_⟩
            · have := hput.size; omega
            · intro j x hx
              have hne : bk ≠ w.heap.size + 1 := by
                rintro rfl
                have hx0 : ∃ x0, fs[0]? = some x0 := by cases fs with | nil => exact absurd rfl hz | cons y r => exact ⟨y, rfl⟩
                obtain ⟨x0, hx0⟩ := hx0
                have := h3 0 x0 hx0
                unfold World.cell? at this
                rw [hl] at this
                cases this
              exact ((World.cell?_of_block (a := ⟨bk, o + j, none⟩) (hoth bk hne)).trans (hal.cell (p := ⟨bk, o + j, none⟩) h2)).trans (h3 j x hx)
      have hbWb : Below n₀ w Wb := (((hb1.mono hn₀).trans hbW).trans (hal.mono (Nat.le_trans hn₀ (by omega)))).trans (hput.mono hn₀)
      have hbd := hbody pre it ad c fs note W.heap.size Wb (hI _ _ _ (hI _ _ _ hi (hal.mono (by omega))) hput) hstb hfs hnote hc hpost ((hoth _ (by omega)).trans (heap_alloc_new _ _)) (by omega) hbWb
      rw [hWb]
      refine wpIn_mono hbd ?_
      rintro e a3 W3 hp
      cases e with
      | normal =>
        obtain ⟨g1, g2, g3, g4⟩ := hp
        have hl3 := g1.trans hlb
        have hk3 := g2.trans ((hoth _ (by omega)).trans hk')
        have hr := run_endRound (P := Tryz.prog) none hl3
        have hput3 : Below w.heap.size W3 (W3.putObj (w.heap.size + 1) (.loop (rec .ready none))) :=
          (Below.refl _ _).grown (grownBy_putObj' _ _ _) (by have := (Array.getElem?_eq_some_iff.1 hl3).1; omega) (fun k e => by cases e; omega)
        rw [hrec] at hr
        refine ⟨_, _, hr, rfl, ⟨?_, ?_, ?_⟩, ?_⟩
        · have := hI _ _ _ g4 hput3
          rw [hrec] at this
          exact this
        · rw [hrec]; exact World.putObj_heap_same (Array.getElem?_eq_some_iff.1 hl3).1
        · exact (World.putObj_heap_other (by omega)).trans hk3
        · have h5 : Below n₀ W Wb := (hal.mono (Nat.le_trans hn₀ (by omega))).trans (hput.mono hn₀)
          have h6 := (h5.trans g3).trans (hput3.mono hn₀)
          rw [hrec] at h6
          exact h6
      | ret => exact hp.elim
      | exit id => exact hp.elim
      | goto t => exact hp.elim
      | panic ch => exact hp.elim
      | outgrown => exact hp.elim
    · rintro e W2 ⟨⟨v, rfl⟩, ⟨hi, hl, hk⟩, hb2⟩
      have hend := run_endLoop (P := Tryz.prog) hl (by rw [hrec]; simp)
      have hput2 : ∀ o, Below w.heap.size W2 (W2.putObj (w.heap.size + 1) o) := fun o =>
        (Below.refl _ _).grown (grownBy_putObj' _ _ _) (by have := (Array.getElem?_eq_some_iff.1 hl).1; omega) (fun k e => by cases e; omega)
      have hpend : (rec .ready none).pending = none := by rw [hrec]
      rw [hpend] at hend
      exact ⟨none, _, hend, hdone _ (hI _ _ _ hi (hput2 _)) ((World.putObj_heap_other (by omega)).trans hk) (((hb1.mono hn₀).trans hb2).trans ((hput2 _).mono hn₀))⟩
end Go.Proofs.YtleadeaahlmmiaaGreatDoor.Loop
