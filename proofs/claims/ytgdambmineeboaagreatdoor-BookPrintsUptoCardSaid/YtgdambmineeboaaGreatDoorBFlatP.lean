/- The walk of the program's Flat. -/
import Derived.Test.YtgdambmineeboaaGreatDoorBBookA
import Derived.Test.YtgdambmineeboaaGreatDoorBMergeD
import Derived.Test.YtgdambmineeboaaGreatDoorBCheckRef
set_option linter.unusedSimpArgs false
set_option linter.unusedVariables false
namespace Go.Proofs.YtgdambmineeboaaGreatDoor.FlatP
open Go.RowKit Go.Lib Go.Proofs.YtgdambmineeboaaGreatDoor.Text Go.Proofs.YtgdambmineeboaaGreatDoor.Runes Go.Proofs.YtgdambmineeboaaGreatDoor.Print Go.Proofs.YtgdambmineeboaaGreatDoor.RefNine Go.Proofs.YtgdambmineeboaaGreatDoor.RefPrint Go.Proofs.YtgdambmineeboaaGreatDoor.Format Go.Proofs.YtgdambmineeboaaGreatDoor.Tell Go.Proofs.YtgdambmineeboaaGreatDoor.Given Go.Proofs.YtgdambmineeboaaGreatDoor.Mem Go.Proofs.YtgdambmineeboaaGreatDoor.Book Go.Proofs.YtgdambmineeboaaGreatDoor.Pred Go.Proofs.YtgdambmineeboaaGreatDoor.Touch Go.Proofs.YtgdambmineeboaaGreatDoor.Flat Go.Proofs.YtgdambmineeboaaGreatDoor.Merge Go.Proofs.YtgdambmineeboaaGreatDoor.Fine Go.Proofs.YtgdambmineeboaaGreatDoor.CheckAll Go.Proofs.YtgdambmineeboaaGreatDoor.Apart

/-- Ten cells are written. -/
theorem set10 {W : World} {g : Nat} {o0 o1 o2 o3 o4 o5 o6 o7 o8 o9 : Value} {t : TypeId} (v0 v1 v2 v3 v4 v5 v6 v7 v8 v9 : Value) (h : W.heap[g]? = some (.cells #[o0, o1, o2, o3, o4, o5, o6, o7, o8, o9] t (0, 0))) :
    let W' := (((((((((W.setCell ⟨g, 0, none⟩ v0).setCell ⟨g, 1, none⟩ v1).setCell ⟨g, 2, none⟩ v2).setCell ⟨g, 3, none⟩ v3).setCell ⟨g, 4, none⟩ v4).setCell ⟨g, 5, none⟩ v5).setCell ⟨g, 6, none⟩ v6).setCell ⟨g, 7, none⟩ v7).setCell ⟨g, 8, none⟩ v8).setCell ⟨g, 9, none⟩ v9
    W'.heap[g]? = some (.cells #[v0, v1, v2, v3, v4, v5, v6, v7, v8, v9] t (0, 0)) ∧ W'.heap.size = W.heap.size ∧ (∀ k, k ≠ g → W'.heap[k]? = W.heap[k]?) ∧ ∀ n W0, n ≤ g → Below n W0 W → Below n W0 W' := by
  intro W'
  refine ⟨?_, ?_, fun k hk => ?_, fun n W0 hn hb => ?_⟩
  · have s : ∀ (X : World) (i : Nat) (v : Value) (cs cs' : Array Value), X.heap[g]? = some (.cells cs t (0, 0)) → cs.setIfInBounds i v = cs' → (X.setCell ⟨g, i, none⟩ v).heap[g]? = some (.cells cs' t (0, 0)) := fun X i v cs cs' hX e => by rw [← e]; exact block_set hX
    have z0 := s _ 0 v0 _ #[v0, o1, o2, o3, o4, o5, o6, o7, o8, o9] h rfl
    have z1 := s _ 1 v1 _ #[v0, v1, o2, o3, o4, o5, o6, o7, o8, o9] z0 rfl
    have z2 := s _ 2 v2 _ #[v0, v1, v2, o3, o4, o5, o6, o7, o8, o9] z1 rfl
    have z3 := s _ 3 v3 _ #[v0, v1, v2, v3, o4, o5, o6, o7, o8, o9] z2 rfl
    have z4 := s _ 4 v4 _ #[v0, v1, v2, v3, v4, o5, o6, o7, o8, o9] z3 rfl
    have z5 := s _ 5 v5 _ #[v0, v1, v2, v3, v4, v5, o6, o7, o8, o9] z4 rfl
    have z6 := s _ 6 v6 _ #[v0, v1, v2, v3, v4, v5, v6, o7, o8, o9] z5 rfl
    have z7 := s _ 7 v7 _ #[v0, v1, v2, v3, v4, v5, v6, v7, o8, o9] z6 rfl
    have z8 := s _ 8 v8 _ #[v0, v1, v2, v3, v4, v5, v6, v7, v8, o9] z7 rfl
    have z9 := s _ 9 v9 _ #[v0, v1, v2, v3, v4, v5, v6, v7, v8, v9] z8 rfl
    exact z9
  · simp only [W', World.size_setCell]
  · have e : ∀ (X : World) (i : Nat) (v : Value), (X.setCell ⟨g, i, none⟩ v).heap[k]? = X.heap[k]? := fun X i v => Below.heap_setCell X ⟨g, i, none⟩ v k (by simp; omega)
    simp only [W', e]
  · have e : ∀ (X : World) (i : Nat) (v : Value), Below n W0 X → Below n W0 (X.setCell ⟨g, i, none⟩ v) := fun X i v hX => hX.setCell (by simpa using hn) _
    exact e _ _ _ (e _ _ _ (e _ _ _ (e _ _ _ (e _ _ _ (e _ _ _ (e _ _ _ (e _ _ _ (e _ _ _ (e _ _ _ hb)))))))))

/-- A block that may hold a point; and one that holds a good one. -/
def Pt (W : World) (g : Nat) : Prop := ∃ v0 v1 v2 v3 v4 v5 v6 v7 v8 v9, W.heap[g]? = some (.cells #[v0, v1, v2, v3, v4, v5, v6, v7, v8, v9] 47 (0, 0))
def Good (m : Nat) (W : World) (g : Nat) : Prop := ∃ x0 a1 c1 x2 a3 n3 c3 x4 x5 x6 x7 x8 a9 n9 c9, W.heap[g]? = some (.cells #[.int .i64 x0, .slice a1 m c1, .int .i64 x2, .slice a3 n3 c3, .bool x4, .int .i64 x5, .int .i64 x6, .bool x7, .int .i64 x8, .slice a9 n9 c9] 47 (0, 0))
def Rel (m n1 : Nat) (W W' : World) : Prop := Below n1 W W' ∧ W.heap.size ≤ W'.heap.size ∧ (∀ g, Pt W g → Pt W' g) ∧ ∀ g, Good m W g → Good m W' g
theorem rel_below {m n1 : Nat} {W W' : World} (h : Below W.heap.size W W') (hn : n1 ≤ W.heap.size) : Rel m n1 W W' :=
  ⟨h.mono hn, h.size, fun g ⟨v0, v1, v2, v3, v4, v5, v6, v7, v8, v9, e⟩ => ⟨v0, v1, v2, v3, v4, v5, v6, v7, v8, v9, (h.block g (block_lt e)).trans e⟩,
    fun g ⟨x0, a1, c1, x2, a3, n3, c3, x4, x5, x6, x7, x8, a9, n9, c9, e⟩ => ⟨x0, a1, c1, x2, a3, n3, c3, x4, x5, x6, x7, x8, a9, n9, c9, (h.block g (block_lt e)).trans e⟩⟩
theorem rel_stored {m n1 : Nat} {W W' : World} {g : Nat} (hb : Below n1 W W') (hsz : W'.heap.size = W.heap.size) (ho : ∀ k, k ≠ g → W'.heap[k]? = W.heap[k]?) (hg : Good m W' g) : Rel m n1 W W' := by
  refine ⟨hb, by omega, fun k hk => ?_, fun k hk => ?_⟩
  · by_cases e : k = g
    · subst e
      obtain ⟨x0, a1, c1, x2, a3, n3, c3, x4, x5, x6, x7, x8, a9, n9, c9, h⟩ := hg
      exact ⟨_, _, _, _, _, _, _, _, _, _, h⟩
    · unfold Pt at hk ⊢
      rwa [ho k e]
  · by_cases e : k = g
    · subst e; exact hg
    · unfold Good at hk ⊢
      rwa [ho k e]
abbrev VV := (Nat → Value) → World → Prop
def vC (i : Nat) (x : Value) : VV := fun vs _ => vs i = x
def vInt (i : Nat) : VV := fun vs _ => ∃ x, vs i = .int .i64 x
def vBool (i : Nat) : VV := fun vs _ => ∃ x, vs i = .bool x
def vSl (i n : Nat) : VV := fun vs _ => ∃ a c, vs i = .slice a n c
def vBld (i n : Nat) : VV := fun vs _ => ∃ x0 a1 c1 x2 a3 n3 c3 x4 x5 x6 x7 x8 a9 n9 c9, vs i = .agg #[.int .i64 x0, .slice a1 n c1, .int .i64 x2, .slice a3 n3 c3, .bool x4, .int .i64 x5, .int .i64 x6, .bool x7, .int .i64 x8, .slice a9 n9 c9]
def vAl (i n1 : Nat) : VV := fun vs W => ∃ g, vs i = .pointer (some ⟨g, 0, none⟩) ∧ n1 ≤ g ∧ Pt W g
def vSt (i n : Nat) : VV := fun vs W => ∃ g, vs i = .pointer (some ⟨g, 0, none⟩) ∧ Good n W g
/-- What is said stays, and speaks of its own value (and of the one that it comes after). -/
def Keeps (m n1 i : Nat) (d : List Nat) (v : VV) : Prop := (∀ vs W W', v vs W → Rel m n1 W W' → v vs W') ∧ ∀ vs vs' W, (∀ j, j = i ∨ j ∈ d → vs j = vs' j) → v vs W → v vs' W
theorem gC {m n1 : Nat} (i : Nat) (x : Value) : Keeps m n1 i [] (vC i x) := ⟨fun _ _ _ h _ => h, fun vs vs' _ h e => by unfold vC at *; rw [← h i (.inl rfl)]; exact e⟩
theorem gInt {m n1 : Nat} (i : Nat) : Keeps m n1 i [] (vInt i) := ⟨fun _ _ _ h _ => h, fun vs vs' _ h e => by unfold vInt at *; rw [← h i (.inl rfl)]; exact e⟩
theorem gBool {m n1 : Nat} (i : Nat) : Keeps m n1 i [] (vBool i) := ⟨fun _ _ _ h _ => h, fun vs vs' _ h e => by unfold vBool at *; rw [← h i (.inl rfl)]; exact e⟩
theorem gSl {m n1 : Nat} (i n : Nat) : Keeps m n1 i [] (vSl i n) := ⟨fun _ _ _ h _ => h, fun vs vs' _ h e => by unfold vSl at *; rw [← h i (.inl rfl)]; exact e⟩
theorem gBld {m n1 : Nat} (i n : Nat) : Keeps m n1 i [] (vBld i n) := ⟨fun _ _ _ h _ => h, fun vs vs' _ h e => by unfold vBld at *; rw [← h i (.inl rfl)]; exact e⟩
theorem gAl {m n1 : Nat} (i : Nat) (n2 : Nat) : Keeps m n1 i [] (vAl i n2) := ⟨fun _ _ _ ⟨g, h1, h2, h3⟩ hr => ⟨g, h1, h2, hr.2.2.1 g h3⟩, fun vs vs' _ h e => by unfold vAl at *; rw [← h i (.inl rfl)]; exact e⟩
theorem gSt {m n1 : Nat} (k i : Nat) : Keeps m n1 k [i] (vSt i m) := ⟨fun _ _ _ ⟨g, h1, h2⟩ hr => ⟨g, h1, hr.2.2.2 g h2⟩, fun vs vs' _ h e => by unfold vSt at *; rw [← h i (.inr (List.mem_singleton.2 rfl))]; exact e⟩
def AllKeep (m n1 : Nat) (D : Nat → List Nat) : List VV → Nat → Prop
  | [], _ => True
  | v :: l, k => Keeps m n1 k (D k) v ∧ AllKeep m n1 D l (k + 1)
theorem keep_at {m n1 : Nat} {D : Nat → List Nat} : ∀ {l : List VV} {k : Nat} (i : Nat), AllKeep m n1 D l k → Keeps m n1 (k + i) (D (k + i)) (l.getD i (fun _ _ => True))
  | [], k, i, _ => by rw [show ([] : List VV).getD i (fun _ _ => True) = fun _ _ => True from by simp]; exact ⟨fun _ _ _ _ _ => trivial, fun _ _ _ _ _ => trivial⟩
  | v :: l, k, 0, h => h.1
  | v :: l, k, i + 1, h => by
    have := keep_at i h.2
    rw [show k + 1 + i = k + (i + 1) from by omega] at this
    simpa using this
def dOf (i : Nat) : List Nat := if i = 42 then [41] else []
def preds (n0 n1 : Nat) (B : Mem.Book) (A : Ads) (p : Int) : List VV := [
  vC 0 (.func (.func 40) #[] #[.pointer (some ⟨n0 + 1, 0, none⟩)]),
  vC 1 (.pointer (some ⟨n0, 1, none⟩)),
  vC 2 (.slice A.sa B.status.length A.sc),
  vInt 3,
  vC 4 (.func (.func 41) #[] #[.pointer (some ⟨n0 + 1, 0, none⟩)]),
  vC 5 (.pointer (some ⟨n0, 2, none⟩)),
  vC 6 (.slice A.ma B.maps.length A.mc),
  vSl 7 (hitC B.maps p).length,
  vC 8 (.func (.func 40) #[] #[.pointer (some ⟨n0 + 1, 0, none⟩)]),
  vC 9 (.pointer (some ⟨n0, 3, none⟩)),
  vC 10 (.slice A.ka B.cls.length A.kc),
  vInt 11,
  vC 12 (.func (.func 41) #[] #[.pointer (some ⟨n0 + 1, 0, none⟩)]),
  vC 13 (.pointer (some ⟨n0, 4, none⟩)),
  vC 14 (.slice A.da B.decomp.length A.dc),
  vSl 15 (hitC B.decomp p).length,
  vC 16 (.func (.func 43) #[] #[.pointer (some ⟨n0 + 1, 0, none⟩)]),
  vC 17 (.pointer (some ⟨n0, 5, none⟩)),
  vC 18 (.slice A.xa B.excl.length A.xc),
  vBool 19,
  vC 20 (.func (.func 40) #[] #[.pointer (some ⟨n0 + 1, 0, none⟩)]),
  vC 21 (.pointer (some ⟨n0, 6, none⟩)),
  vC 22 (.slice A.ba B.bidi.length A.bc),
  vInt 23,
  vC 24 (.func (.func 40) #[] #[.pointer (some ⟨n0 + 1, 0, none⟩)]),
  vC 25 (.pointer (some ⟨n0, 7, none⟩)),
  vC 26 (.slice A.ja B.join.length A.jc),
  vInt 27,
  vC 28 (.func (.func 43) #[] #[.pointer (some ⟨n0 + 1, 0, none⟩)]),
  vC 29 (.pointer (some ⟨n0, 8, none⟩)),
  vC 30 (.slice A.qa B.marks.length A.qc),
  vBool 31,
  vC 32 (.func (.func 40) #[] #[.pointer (some ⟨n0 + 1, 0, none⟩)]),
  vC 33 (.pointer (some ⟨n0, 9, none⟩)),
  vC 34 (.slice A.ra B.script.length A.rc),
  vInt 35,
  vC 36 (.func (.func 41) #[] #[.pointer (some ⟨n0 + 1, 0, none⟩)]),
  vC 37 (.pointer (some ⟨n0, 10, none⟩)),
  vC 38 (.slice A.la B.like.length A.lc),
  vSl 39 (hitC B.like p).length,
  vBld 40 (hitC B.maps p).length,
  vAl 41 n1,
  vSt 41 (hitC B.maps p).length]
theorem preds_keep (n0 n1 : Nat) (B : Mem.Book) (A : Ads) (p : Int) : AllKeep (hitC B.maps p).length n1 dOf (preds n0 n1 B A p) 0 :=
  ⟨gC _ _, ⟨gC _ _, ⟨gC _ _, ⟨gInt _, ⟨gC _ _, ⟨gC _ _, ⟨gC _ _, ⟨gSl _ _, ⟨gC _ _, ⟨gC _ _, ⟨gC _ _, ⟨gInt _, ⟨gC _ _, ⟨gC _ _, ⟨gC _ _, ⟨gSl _ _, ⟨gC _ _, ⟨gC _ _, ⟨gC _ _, ⟨gBool _, ⟨gC _ _, ⟨gC _ _, ⟨gC _ _, ⟨gInt _, ⟨gC _ _, ⟨gC _ _, ⟨gC _ _, ⟨gInt _, ⟨gC _ _, ⟨gC _ _, ⟨gC _ _, ⟨gBool _, ⟨gC _ _, ⟨gC _ _, ⟨gC _ _, ⟨gInt _, ⟨gC _ _, ⟨gC _ _, ⟨gC _ _, ⟨gSl _ _, ⟨gBld _ _, ⟨gAl _ _, ⟨gSt _ _, trivial⟩⟩⟩⟩⟩⟩⟩⟩⟩⟩⟩⟩⟩⟩⟩⟩⟩⟩⟩⟩⟩⟩⟩⟩⟩⟩⟩⟩⟩⟩⟩⟩⟩⟩⟩⟩⟩⟩⟩⟩⟩⟩⟩

set_option maxRecDepth 100000 in
set_option maxHeartbeats 4000000 in
theorem flat_any (B : Mem.Book) (A : Ads) (p : Int) (w : World) (hs : Small B) (hL : Lies w B A) (hcn : B.names.length ≤ A.nc) (hF : Fine B) (hp0 : 0 ≤ p) (hp1 : p ≤ 1114111) (hm : 0 < (hitC B.maps p).length) :
    Calls Tryz.prog 12 #[bookV B A, .int .i32 p] w fun e w' => (∃ a1 c1 x2 a3 n3 c3 x4 x5 x6 x7 x8 a9 n9 c9, e = .returned (.tuple #[.agg #[.int .i64 4, .slice a1 (hitC B.maps p).length c1, .int .i64 x2, .slice a3 n3 c3, .bool x4, .int .i64 x5, .int .i64 x6, .bool x7, .int .i64 x8, .slice a9 n9 c9], .int .i64 0])) ∧ Below w.heap.size w w' := by
  obtain ⟨W0, hW0⟩ : ∃ W0, W0 = ((w.alloc (apiBox B A)).alloc (.cells #[.int .i32 p] 21 (0, 0))).alloc (.cells #[.int .i64 0, .slice none 0 0, .int .i64 0, .slice none 0 0, .bool false, .int .i64 0, .int .i64 0, .bool false, .int .i64 0, .slice none 0 0] 47 (0, 0)) := ⟨_, rfl⟩
  have hb0 : Below w.heap.size w W0 := by
    rw [hW0]
    exact (((Below.refl _ _).alloc (Nat.le_refl _) _).alloc (by simp) _).alloc (by simp; omega) _
  have hsz : W0.heap.size = w.heap.size + 3 := by rw [hW0]; simp
  have hbx : W0.heap[w.heap.size]? = some (apiBox B A) := by rw [hW0]; exact old_at (old_at (new_at rfl))
  have hpx : W0.heap[w.heap.size + 1]? = some (.cells #[.int .i32 p] 21 (0, 0)) := by rw [hW0]; exact old_at (new_at (by simp))
  have hrx : W0.heap[w.heap.size + 2]? = some (.cells #[.int .i64 0, .slice none 0 0, .int .i64 0, .slice none 0 0, .bool false, .int .i64 0, .int .i64 0, .bool false, .int .i64 0, .slice none 0 0] 47 (0, 0)) := by rw [hW0]; exact new_at (by simp)
  have HC := Lib.hid (checkP_any B A W0 hs (hL.below hb0) hcn)
  have HF := Lib.hid hF
  have HL := Lib.hid hL
  have HS := Lib.hid hs
  have HB0 := Lib.hid hb0
  have HBX := Lib.hid hbx
  have HPX := Lib.hid hpx
  have HRX := Lib.hid hrx
  have HSZ := Lib.hid hsz
  have HM := Lib.hid hm
  have e1 : decide (p < 0) = false := decide_eq_false (by omega)
  have e2 : decide (p > 1114111) = false := decide_eq_false (by omega)

  have kp : W0.cell? ⟨w.heap.size + 1, 0, none⟩ = some (.int .i32 p) := (block_cell (i := 0) HPX.out).trans rfl
  have KB := Lib.hid (And.intro trivial kp)
  clear hb0 hsz hbx hpx hrx hF hL hs hcn
  unfold bookV at HC ⊢
  unfold apiBox at hW0
  go_enter Tryz.func12, Tryz.ntmps12
  go_wp2_with fail
  rw [← hW0]
  refine HC.out.mono ?_
  rintro e w1 ⟨hre, hb1⟩
  obtain rfl : e = .returned (.tuple #[.agg #[.int .i64 0, .int .i64 0], .int .i64 0]) := by
    rcases hre with ⟨_, rfl⟩ | ⟨hn, _⟩
    · rfl
    · exact absurd HF.out hn
  clear hre hW0
  have hlt1 : w.heap.size + 2 < w1.heap.size := by have := hb1.size; rw [HSZ.out] at this; omega
  have hlt1b : w.heap.size + 1 < w1.heap.size := by omega
  have hpx1 := Lib.hid ((hb1.block _ (by rw [HSZ.out]; omega)).trans HPX.out)
  have kp1 : w1.cell? ⟨w.heap.size + 1, 0, none⟩ = some (.int .i32 p) := (block_cell (i := 0) hpx1.out).trans rfl
  go_wp2_with fail
  have hbW1 : Below w.heap.size w (w1.alloc (.cells #[.int .i64 0, .int .i64 0] 54 (0, 0))) := (HB0.out.trans (hb1.mono HB0.out.size)).alloc (by omega) _
  have hbox1 : w1.heap[w.heap.size]? = some (apiBox B A) := (hb1.block _ (by rw [HSZ.out]; omega)).trans HBX.out
  have hrx1 := (hb1.block _ (by rw [HSZ.out]; omega)).trans HRX.out
  have HI0 := Lib.hid (And.intro hbW1.drew (And.intro (old_at (o := .cells #[.int .i64 0, .int .i64 0] 54 (0, 0)) hbox1) (And.intro (old_at (o := .cells #[.int .i64 0, .int .i64 0] 54 (0, 0)) hpx1.out) (old_at (o := .cells #[.int .i64 0, .int .i64 0] 54 (0, 0)) hrx1))))
  clear hbW1 hbox1 hrx1
  refine MergeD.wp_region_merge (by kernel_rfl) (fun vals => { tmps := #[.agg #[.slice A.na B.names.length A.nc, .slice A.sa B.status.length A.sc, .slice A.ma B.maps.length A.mc, .slice A.ka B.cls.length A.kc, .slice A.da B.decomp.length A.dc, .slice A.xa B.excl.length A.xc, .slice A.ba B.bidi.length A.bc, .slice A.ja B.join.length A.jc, .slice A.qa B.marks.length A.qc, .slice A.ra B.script.length A.rc, .slice A.la B.like.length A.lc], .int .i32 p, .pointer (some ⟨w.heap.size, 0, none⟩), .pointer (some ⟨w.heap.size + 1, 0, none⟩), .pointer (some ⟨w.heap.size + 1 + 1, 0, none⟩), .int .i64 0, .pointer (some ⟨w1.heap.size, 0, none⟩), .int .i64 0, .func (.func 40) #[] #[.pointer (some ⟨w.heap.size + 1, 0, none⟩)], .func (.func 41) #[] #[.pointer (some ⟨w.heap.size + 1, 0, none⟩)], .func (.func 43) #[] #[.pointer (some ⟨w.heap.size + 1, 0, none⟩)], vals 41, .tuple #[.agg #[.int .i64 0, .int .i64 0], .int .i64 0], .agg #[.slice A.na B.names.length A.nc, .slice A.sa B.status.length A.sc, .slice A.ma B.maps.length A.mc, .slice A.ka B.cls.length A.kc, .slice A.da B.decomp.length A.dc, .slice A.xa B.excl.length A.xc, .slice A.ba B.bidi.length A.bc, .slice A.ja B.join.length A.jc, .slice A.qa B.marks.length A.qc, .slice A.ra B.script.length A.rc, .slice A.la B.like.length A.lc], .tuple #[.agg #[.int .i64 0, .int .i64 0], .int .i64 0], .agg #[.int .i64 0, .int .i64 0], .int .i64 0, .int .i64 0, .bool false, undef, undef, .int .i32 p, .bool false, .bool false, .int .i32 p, .bool false, .bool false, undef, .func (.func 40) #[] #[.pointer (some ⟨w.heap.size + 1, 0, none⟩)], .func (.func 41) #[] #[.pointer (some ⟨w.heap.size + 1, 0, none⟩)], .func (.func 43) #[] #[.pointer (some ⟨w.heap.size + 1, 0, none⟩)], vals 0, vals 1, vals 2, vals 3, vals 4, vals 5, vals 6, vals 7, vals 8, vals 9, vals 10, vals 11, vals 12, vals 13, vals 14, vals 15, vals 16, vals 17, vals 18, vals 19, vals 20, vals 21, vals 22, vals 23, vals 24, vals 25, vals 26, vals 27, vals 28, vals 29, vals 30, vals 31, vals 32, vals 33, vals 34, vals 35, vals 36, vals 37, vals 38, vals 39, vals 40, undef, undef, undef, undef, undef, undef], defers := [] }) (fun i => (preds w.heap.size (w1.heap.size + 1) B A p).getD i (fun _ _ => True)) dOf (fun W => Below w.heap.size w W ∧ W.heap[w.heap.size]? = some (apiBox B A) ∧ W.heap[w.heap.size + 1]? = some (.cells #[.int .i32 p] 21 (0, 0)) ∧ W.heap[w.heap.size + 2]? = some (.cells #[.int .i64 0, .slice none 0 0, .int .i64 0, .slice none 0 0, .bool false, .int .i64 0, .int .i64 0, .bool false, .int .i64 0, .slice none 0 0] 47 (0, 0)) ∧ w1.heap.size + 1 ≤ W.heap.size) (Rel (hitC B.maps p).length (w1.heap.size + 1)) (fun _ => undef) rfl
    (fun i vs W W' h hr => by have := (keep_at i (preds_keep w.heap.size (w1.heap.size + 1) B A p)).1 vs W W'; exact this h hr)
    (fun i vs vs' W h hv => by have := (keep_at i (preds_keep w.heap.size (w1.heap.size + 1) B A p)).2 vs vs' W; rw [Nat.zero_add] at this; exact this h hv)
    (fun W W' h hr => ⟨h.1.trans (hr.1.mono (by have := HB0.out.size; omega)), (hr.1.block _ (by omega)).trans h.2.1, (hr.1.block _ (by omega)).trans h.2.2.1, (hr.1.block _ (by omega)).trans h.2.2.2.1, Nat.le_trans h.2.2.2.2 hr.2.1⟩) ⟨HI0.out.1, HI0.out.2.1, HI0.out.2.2.1, HI0.out.2.2.2, by simp⟩ ?hS ?hD
  case hS =>
    refine MergeD.AllSteps.cons ⟨rfl, by rfl, (by intro d hd; simp [dOf] at hd), fun _ _ => rfl, fun vals W hi hd K hK => ?_⟩ ?_
    · go_simp
      exact hK _ _ (upd_same _ _ _) (rel_below (Below.refl _ _) hi.2.2.2.2)
    refine MergeD.AllSteps.cons ⟨rfl, by rfl, (by intro d hd; simp [dOf] at hd), fun _ _ => rfl, fun vals W hi hd K hK => ?_⟩ ?_
    · go_simp
      exact hK _ _ (upd_same _ _ _) (rel_below (Below.refl _ _) hi.2.2.2.2)
    refine MergeD.AllSteps.cons ⟨rfl, by rfl, (by intro d hd; simp [dOf] at hd), fun _ _ => rfl, fun vals W hi hd K hK => ?_⟩ ?_
    · have e1 : vals 1 = .pointer (some ⟨w.heap.size, 1, none⟩) := hd ⟨1, .data⟩ (by simp) rfl
      have kk : W.cell? ⟨w.heap.size, 1, none⟩ = some (.slice A.sa B.status.length A.sc) := (block_cell (i := 1) hi.2.1).trans rfl
      simp only [e1] at hK
      go_simp
      exact hK _ _ (upd_same _ _ _) (rel_below (Below.refl _ _) hi.2.2.2.2)
    refine MergeD.AllSteps.cons ⟨rfl, by rfl, (by intro d hd; simp [dOf] at hd), fun _ _ => rfl, fun vals W hi hd K hK => ?_⟩ ?_
    · have e1 : vals 0 = .func (.func 40) #[] #[.pointer (some ⟨w.heap.size + 1, 0, none⟩)] := hd ⟨0, .data⟩ (by simp) rfl
      have e2 : vals 2 = .slice A.sa B.status.length A.sc := hd ⟨2, .data⟩ (by simp) rfl
      have HCL := Lib.hid (value_flat p (w.heap.size + 1) A.sa B.status A.sc W HS.out.s (HL.out.s.below hi.1) (block_lt hi.2.2.1) ((block_cell (i := 0) hi.2.2.1).trans rfl))
      simp only [e1, e2] at hK
      go_simp
      refine HCL.out.mono ?_
      rintro e wn ⟨rfl, hbn⟩
      exact hK _ _ ⟨_, upd_same _ _ _⟩ (rel_below hbn hi.2.2.2.2)
    refine MergeD.AllSteps.cons ⟨rfl, by rfl, (by intro d hd; simp [dOf] at hd), fun _ _ => rfl, fun vals W hi hd K hK => ?_⟩ ?_
    · go_simp
      exact hK _ _ (upd_same _ _ _) (rel_below (Below.refl _ _) hi.2.2.2.2)
    refine MergeD.AllSteps.cons ⟨rfl, by rfl, (by intro d hd; simp [dOf] at hd), fun _ _ => rfl, fun vals W hi hd K hK => ?_⟩ ?_
    · go_simp
      exact hK _ _ (upd_same _ _ _) (rel_below (Below.refl _ _) hi.2.2.2.2)
    refine MergeD.AllSteps.cons ⟨rfl, by rfl, (by intro d hd; simp [dOf] at hd), fun _ _ => rfl, fun vals W hi hd K hK => ?_⟩ ?_
    · have e1 : vals 5 = .pointer (some ⟨w.heap.size, 2, none⟩) := hd ⟨5, .data⟩ (by simp) rfl
      have kk : W.cell? ⟨w.heap.size, 2, none⟩ = some (.slice A.ma B.maps.length A.mc) := (block_cell (i := 2) hi.2.1).trans rfl
      simp only [e1] at hK
      go_simp
      exact hK _ _ (upd_same _ _ _) (rel_below (Below.refl _ _) hi.2.2.2.2)
    refine MergeD.AllSteps.cons ⟨rfl, by rfl, (by intro d hd; simp [dOf] at hd), fun _ _ => rfl, fun vals W hi hd K hK => ?_⟩ ?_
    · have e1 : vals 4 = .func (.func 41) #[] #[.pointer (some ⟨w.heap.size + 1, 0, none⟩)] := hd ⟨4, .data⟩ (by simp) rfl
      have e2 : vals 6 = .slice A.ma B.maps.length A.mc := hd ⟨6, .data⟩ (by simp) rfl
      have HCL := Lib.hid (chars_flat p (w.heap.size + 1) A.ma B.maps A.mc W HS.out.m HS.out.mi (HL.out.m.below hi.1) (block_lt hi.2.2.1) ((block_cell (i := 0) hi.2.2.1).trans rfl))
      simp only [e1, e2] at hK
      go_simp
      refine HCL.out.mono ?_
      rintro e wn ⟨⟨a', c', rfl, _⟩, hbn⟩
      exact hK _ _ ⟨_, _, upd_same _ _ _⟩ (rel_below hbn hi.2.2.2.2)
    refine MergeD.AllSteps.cons ⟨rfl, by rfl, (by intro d hd; simp [dOf] at hd), fun _ _ => rfl, fun vals W hi hd K hK => ?_⟩ ?_
    · go_simp
      exact hK _ _ (upd_same _ _ _) (rel_below (Below.refl _ _) hi.2.2.2.2)
    refine MergeD.AllSteps.cons ⟨rfl, by rfl, (by intro d hd; simp [dOf] at hd), fun _ _ => rfl, fun vals W hi hd K hK => ?_⟩ ?_
    · go_simp
      exact hK _ _ (upd_same _ _ _) (rel_below (Below.refl _ _) hi.2.2.2.2)
    refine MergeD.AllSteps.cons ⟨rfl, by rfl, (by intro d hd; simp [dOf] at hd), fun _ _ => rfl, fun vals W hi hd K hK => ?_⟩ ?_
    · have e1 : vals 9 = .pointer (some ⟨w.heap.size, 3, none⟩) := hd ⟨9, .data⟩ (by simp) rfl
      have kk : W.cell? ⟨w.heap.size, 3, none⟩ = some (.slice A.ka B.cls.length A.kc) := (block_cell (i := 3) hi.2.1).trans rfl
      simp only [e1] at hK
      go_simp
      exact hK _ _ (upd_same _ _ _) (rel_below (Below.refl _ _) hi.2.2.2.2)
    refine MergeD.AllSteps.cons ⟨rfl, by rfl, (by intro d hd; simp [dOf] at hd), fun _ _ => rfl, fun vals W hi hd K hK => ?_⟩ ?_
    · have e1 : vals 8 = .func (.func 40) #[] #[.pointer (some ⟨w.heap.size + 1, 0, none⟩)] := hd ⟨8, .data⟩ (by simp) rfl
      have e2 : vals 10 = .slice A.ka B.cls.length A.kc := hd ⟨10, .data⟩ (by simp) rfl
      have HCL := Lib.hid (value_flat p (w.heap.size + 1) A.ka B.cls A.kc W HS.out.k (HL.out.k.below hi.1) (block_lt hi.2.2.1) ((block_cell (i := 0) hi.2.2.1).trans rfl))
      simp only [e1, e2] at hK
      go_simp
      refine HCL.out.mono ?_
      rintro e wn ⟨rfl, hbn⟩
      exact hK _ _ ⟨_, upd_same _ _ _⟩ (rel_below hbn hi.2.2.2.2)
    refine MergeD.AllSteps.cons ⟨rfl, by rfl, (by intro d hd; simp [dOf] at hd), fun _ _ => rfl, fun vals W hi hd K hK => ?_⟩ ?_
    · go_simp
      exact hK _ _ (upd_same _ _ _) (rel_below (Below.refl _ _) hi.2.2.2.2)
    refine MergeD.AllSteps.cons ⟨rfl, by rfl, (by intro d hd; simp [dOf] at hd), fun _ _ => rfl, fun vals W hi hd K hK => ?_⟩ ?_
    · go_simp
      exact hK _ _ (upd_same _ _ _) (rel_below (Below.refl _ _) hi.2.2.2.2)
    refine MergeD.AllSteps.cons ⟨rfl, by rfl, (by intro d hd; simp [dOf] at hd), fun _ _ => rfl, fun vals W hi hd K hK => ?_⟩ ?_
    · have e1 : vals 13 = .pointer (some ⟨w.heap.size, 4, none⟩) := hd ⟨13, .data⟩ (by simp) rfl
      have kk : W.cell? ⟨w.heap.size, 4, none⟩ = some (.slice A.da B.decomp.length A.dc) := (block_cell (i := 4) hi.2.1).trans rfl
      simp only [e1] at hK
      go_simp
      exact hK _ _ (upd_same _ _ _) (rel_below (Below.refl _ _) hi.2.2.2.2)
    refine MergeD.AllSteps.cons ⟨rfl, by rfl, (by intro d hd; simp [dOf] at hd), fun _ _ => rfl, fun vals W hi hd K hK => ?_⟩ ?_
    · have e1 : vals 12 = .func (.func 41) #[] #[.pointer (some ⟨w.heap.size + 1, 0, none⟩)] := hd ⟨12, .data⟩ (by simp) rfl
      have e2 : vals 14 = .slice A.da B.decomp.length A.dc := hd ⟨14, .data⟩ (by simp) rfl
      have HCL := Lib.hid (chars_flat p (w.heap.size + 1) A.da B.decomp A.dc W HS.out.d HS.out.di (HL.out.d.below hi.1) (block_lt hi.2.2.1) ((block_cell (i := 0) hi.2.2.1).trans rfl))
      simp only [e1, e2] at hK
      go_simp
      refine HCL.out.mono ?_
      rintro e wn ⟨⟨a', c', rfl, _⟩, hbn⟩
      exact hK _ _ ⟨_, _, upd_same _ _ _⟩ (rel_below hbn hi.2.2.2.2)
    refine MergeD.AllSteps.cons ⟨rfl, by rfl, (by intro d hd; simp [dOf] at hd), fun _ _ => rfl, fun vals W hi hd K hK => ?_⟩ ?_
    · go_simp
      exact hK _ _ (upd_same _ _ _) (rel_below (Below.refl _ _) hi.2.2.2.2)
    refine MergeD.AllSteps.cons ⟨rfl, by rfl, (by intro d hd; simp [dOf] at hd), fun _ _ => rfl, fun vals W hi hd K hK => ?_⟩ ?_
    · go_simp
      exact hK _ _ (upd_same _ _ _) (rel_below (Below.refl _ _) hi.2.2.2.2)
    refine MergeD.AllSteps.cons ⟨rfl, by rfl, (by intro d hd; simp [dOf] at hd), fun _ _ => rfl, fun vals W hi hd K hK => ?_⟩ ?_
    · have e1 : vals 17 = .pointer (some ⟨w.heap.size, 5, none⟩) := hd ⟨17, .data⟩ (by simp) rfl
      have kk : W.cell? ⟨w.heap.size, 5, none⟩ = some (.slice A.xa B.excl.length A.xc) := (block_cell (i := 5) hi.2.1).trans rfl
      simp only [e1] at hK
      go_simp
      exact hK _ _ (upd_same _ _ _) (rel_below (Below.refl _ _) hi.2.2.2.2)
    refine MergeD.AllSteps.cons ⟨rfl, by rfl, (by intro d hd; simp [dOf] at hd), fun _ _ => rfl, fun vals W hi hd K hK => ?_⟩ ?_
    · have e1 : vals 16 = .func (.func 43) #[] #[.pointer (some ⟨w.heap.size + 1, 0, none⟩)] := hd ⟨16, .data⟩ (by simp) rfl
      have e2 : vals 18 = .slice A.xa B.excl.length A.xc := hd ⟨18, .data⟩ (by simp) rfl
      have HCL := Lib.hid (in_flat p (w.heap.size + 1) A.xa B.excl A.xc W HS.out.x (HL.out.x.below hi.1) (block_lt hi.2.2.1) ((block_cell (i := 0) hi.2.2.1).trans rfl))
      simp only [e1, e2] at hK
      go_simp
      refine HCL.out.mono ?_
      rintro e wn ⟨rfl, hbn⟩
      exact hK _ _ ⟨_, upd_same _ _ _⟩ (rel_below hbn hi.2.2.2.2)
    refine MergeD.AllSteps.cons ⟨rfl, by rfl, (by intro d hd; simp [dOf] at hd), fun _ _ => rfl, fun vals W hi hd K hK => ?_⟩ ?_
    · go_simp
      exact hK _ _ (upd_same _ _ _) (rel_below (Below.refl _ _) hi.2.2.2.2)
    refine MergeD.AllSteps.cons ⟨rfl, by rfl, (by intro d hd; simp [dOf] at hd), fun _ _ => rfl, fun vals W hi hd K hK => ?_⟩ ?_
    · go_simp
      exact hK _ _ (upd_same _ _ _) (rel_below (Below.refl _ _) hi.2.2.2.2)
    refine MergeD.AllSteps.cons ⟨rfl, by rfl, (by intro d hd; simp [dOf] at hd), fun _ _ => rfl, fun vals W hi hd K hK => ?_⟩ ?_
    · have e1 : vals 21 = .pointer (some ⟨w.heap.size, 6, none⟩) := hd ⟨21, .data⟩ (by simp) rfl
      have kk : W.cell? ⟨w.heap.size, 6, none⟩ = some (.slice A.ba B.bidi.length A.bc) := (block_cell (i := 6) hi.2.1).trans rfl
      simp only [e1] at hK
      go_simp
      exact hK _ _ (upd_same _ _ _) (rel_below (Below.refl _ _) hi.2.2.2.2)
    refine MergeD.AllSteps.cons ⟨rfl, by rfl, (by intro d hd; simp [dOf] at hd), fun _ _ => rfl, fun vals W hi hd K hK => ?_⟩ ?_
    · have e1 : vals 20 = .func (.func 40) #[] #[.pointer (some ⟨w.heap.size + 1, 0, none⟩)] := hd ⟨20, .data⟩ (by simp) rfl
      have e2 : vals 22 = .slice A.ba B.bidi.length A.bc := hd ⟨22, .data⟩ (by simp) rfl
      have HCL := Lib.hid (value_flat p (w.heap.size + 1) A.ba B.bidi A.bc W HS.out.b (HL.out.b.below hi.1) (block_lt hi.2.2.1) ((block_cell (i := 0) hi.2.2.1).trans rfl))
      simp only [e1, e2] at hK
      go_simp
      refine HCL.out.mono ?_
      rintro e wn ⟨rfl, hbn⟩
      exact hK _ _ ⟨_, upd_same _ _ _⟩ (rel_below hbn hi.2.2.2.2)
    refine MergeD.AllSteps.cons ⟨rfl, by rfl, (by intro d hd; simp [dOf] at hd), fun _ _ => rfl, fun vals W hi hd K hK => ?_⟩ ?_
    · go_simp
      exact hK _ _ (upd_same _ _ _) (rel_below (Below.refl _ _) hi.2.2.2.2)
    refine MergeD.AllSteps.cons ⟨rfl, by rfl, (by intro d hd; simp [dOf] at hd), fun _ _ => rfl, fun vals W hi hd K hK => ?_⟩ ?_
    · go_simp
      exact hK _ _ (upd_same _ _ _) (rel_below (Below.refl _ _) hi.2.2.2.2)
    refine MergeD.AllSteps.cons ⟨rfl, by rfl, (by intro d hd; simp [dOf] at hd), fun _ _ => rfl, fun vals W hi hd K hK => ?_⟩ ?_
    · have e1 : vals 25 = .pointer (some ⟨w.heap.size, 7, none⟩) := hd ⟨25, .data⟩ (by simp) rfl
      have kk : W.cell? ⟨w.heap.size, 7, none⟩ = some (.slice A.ja B.join.length A.jc) := (block_cell (i := 7) hi.2.1).trans rfl
      simp only [e1] at hK
      go_simp
      exact hK _ _ (upd_same _ _ _) (rel_below (Below.refl _ _) hi.2.2.2.2)
    refine MergeD.AllSteps.cons ⟨rfl, by rfl, (by intro d hd; simp [dOf] at hd), fun _ _ => rfl, fun vals W hi hd K hK => ?_⟩ ?_
    · have e1 : vals 24 = .func (.func 40) #[] #[.pointer (some ⟨w.heap.size + 1, 0, none⟩)] := hd ⟨24, .data⟩ (by simp) rfl
      have e2 : vals 26 = .slice A.ja B.join.length A.jc := hd ⟨26, .data⟩ (by simp) rfl
      have HCL := Lib.hid (value_flat p (w.heap.size + 1) A.ja B.join A.jc W HS.out.j (HL.out.j.below hi.1) (block_lt hi.2.2.1) ((block_cell (i := 0) hi.2.2.1).trans rfl))
      simp only [e1, e2] at hK
      go_simp
      refine HCL.out.mono ?_
      rintro e wn ⟨rfl, hbn⟩
      exact hK _ _ ⟨_, upd_same _ _ _⟩ (rel_below hbn hi.2.2.2.2)
    refine MergeD.AllSteps.cons ⟨rfl, by rfl, (by intro d hd; simp [dOf] at hd), fun _ _ => rfl, fun vals W hi hd K hK => ?_⟩ ?_
    · go_simp
      exact hK _ _ (upd_same _ _ _) (rel_below (Below.refl _ _) hi.2.2.2.2)
    refine MergeD.AllSteps.cons ⟨rfl, by rfl, (by intro d hd; simp [dOf] at hd), fun _ _ => rfl, fun vals W hi hd K hK => ?_⟩ ?_
    · go_simp
      exact hK _ _ (upd_same _ _ _) (rel_below (Below.refl _ _) hi.2.2.2.2)
    refine MergeD.AllSteps.cons ⟨rfl, by rfl, (by intro d hd; simp [dOf] at hd), fun _ _ => rfl, fun vals W hi hd K hK => ?_⟩ ?_
    · have e1 : vals 29 = .pointer (some ⟨w.heap.size, 8, none⟩) := hd ⟨29, .data⟩ (by simp) rfl
      have kk : W.cell? ⟨w.heap.size, 8, none⟩ = some (.slice A.qa B.marks.length A.qc) := (block_cell (i := 8) hi.2.1).trans rfl
      simp only [e1] at hK
      go_simp
      exact hK _ _ (upd_same _ _ _) (rel_below (Below.refl _ _) hi.2.2.2.2)
    refine MergeD.AllSteps.cons ⟨rfl, by rfl, (by intro d hd; simp [dOf] at hd), fun _ _ => rfl, fun vals W hi hd K hK => ?_⟩ ?_
    · have e1 : vals 28 = .func (.func 43) #[] #[.pointer (some ⟨w.heap.size + 1, 0, none⟩)] := hd ⟨28, .data⟩ (by simp) rfl
      have e2 : vals 30 = .slice A.qa B.marks.length A.qc := hd ⟨30, .data⟩ (by simp) rfl
      have HCL := Lib.hid (in_flat p (w.heap.size + 1) A.qa B.marks A.qc W HS.out.q (HL.out.q.below hi.1) (block_lt hi.2.2.1) ((block_cell (i := 0) hi.2.2.1).trans rfl))
      simp only [e1, e2] at hK
      go_simp
      refine HCL.out.mono ?_
      rintro e wn ⟨rfl, hbn⟩
      exact hK _ _ ⟨_, upd_same _ _ _⟩ (rel_below hbn hi.2.2.2.2)
    refine MergeD.AllSteps.cons ⟨rfl, by rfl, (by intro d hd; simp [dOf] at hd), fun _ _ => rfl, fun vals W hi hd K hK => ?_⟩ ?_
    · go_simp
      exact hK _ _ (upd_same _ _ _) (rel_below (Below.refl _ _) hi.2.2.2.2)
    refine MergeD.AllSteps.cons ⟨rfl, by rfl, (by intro d hd; simp [dOf] at hd), fun _ _ => rfl, fun vals W hi hd K hK => ?_⟩ ?_
    · go_simp
      exact hK _ _ (upd_same _ _ _) (rel_below (Below.refl _ _) hi.2.2.2.2)
    refine MergeD.AllSteps.cons ⟨rfl, by rfl, (by intro d hd; simp [dOf] at hd), fun _ _ => rfl, fun vals W hi hd K hK => ?_⟩ ?_
    · have e1 : vals 33 = .pointer (some ⟨w.heap.size, 9, none⟩) := hd ⟨33, .data⟩ (by simp) rfl
      have kk : W.cell? ⟨w.heap.size, 9, none⟩ = some (.slice A.ra B.script.length A.rc) := (block_cell (i := 9) hi.2.1).trans rfl
      simp only [e1] at hK
      go_simp
      exact hK _ _ (upd_same _ _ _) (rel_below (Below.refl _ _) hi.2.2.2.2)
    refine MergeD.AllSteps.cons ⟨rfl, by rfl, (by intro d hd; simp [dOf] at hd), fun _ _ => rfl, fun vals W hi hd K hK => ?_⟩ ?_
    · have e1 : vals 32 = .func (.func 40) #[] #[.pointer (some ⟨w.heap.size + 1, 0, none⟩)] := hd ⟨32, .data⟩ (by simp) rfl
      have e2 : vals 34 = .slice A.ra B.script.length A.rc := hd ⟨34, .data⟩ (by simp) rfl
      have HCL := Lib.hid (value_flat p (w.heap.size + 1) A.ra B.script A.rc W HS.out.r (HL.out.r.below hi.1) (block_lt hi.2.2.1) ((block_cell (i := 0) hi.2.2.1).trans rfl))
      simp only [e1, e2] at hK
      go_simp
      refine HCL.out.mono ?_
      rintro e wn ⟨rfl, hbn⟩
      exact hK _ _ ⟨_, upd_same _ _ _⟩ (rel_below hbn hi.2.2.2.2)
    refine MergeD.AllSteps.cons ⟨rfl, by rfl, (by intro d hd; simp [dOf] at hd), fun _ _ => rfl, fun vals W hi hd K hK => ?_⟩ ?_
    · go_simp
      exact hK _ _ (upd_same _ _ _) (rel_below (Below.refl _ _) hi.2.2.2.2)
    refine MergeD.AllSteps.cons ⟨rfl, by rfl, (by intro d hd; simp [dOf] at hd), fun _ _ => rfl, fun vals W hi hd K hK => ?_⟩ ?_
    · go_simp
      exact hK _ _ (upd_same _ _ _) (rel_below (Below.refl _ _) hi.2.2.2.2)
    refine MergeD.AllSteps.cons ⟨rfl, by rfl, (by intro d hd; simp [dOf] at hd), fun _ _ => rfl, fun vals W hi hd K hK => ?_⟩ ?_
    · have e1 : vals 37 = .pointer (some ⟨w.heap.size, 10, none⟩) := hd ⟨37, .data⟩ (by simp) rfl
      have kk : W.cell? ⟨w.heap.size, 10, none⟩ = some (.slice A.la B.like.length A.lc) := (block_cell (i := 10) hi.2.1).trans rfl
      simp only [e1] at hK
      go_simp
      exact hK _ _ (upd_same _ _ _) (rel_below (Below.refl _ _) hi.2.2.2.2)
    refine MergeD.AllSteps.cons ⟨rfl, by rfl, (by intro d hd; simp [dOf] at hd), fun _ _ => rfl, fun vals W hi hd K hK => ?_⟩ ?_
    · have e1 : vals 36 = .func (.func 41) #[] #[.pointer (some ⟨w.heap.size + 1, 0, none⟩)] := hd ⟨36, .data⟩ (by simp) rfl
      have e2 : vals 38 = .slice A.la B.like.length A.lc := hd ⟨38, .data⟩ (by simp) rfl
      have HCL := Lib.hid (chars_flat p (w.heap.size + 1) A.la B.like A.lc W HS.out.l HS.out.li (HL.out.l.below hi.1) (block_lt hi.2.2.1) ((block_cell (i := 0) hi.2.2.1).trans rfl))
      simp only [e1, e2] at hK
      go_simp
      refine HCL.out.mono ?_
      rintro e wn ⟨⟨a', c', rfl, _⟩, hbn⟩
      exact hK _ _ ⟨_, _, upd_same _ _ _⟩ (rel_below hbn hi.2.2.2.2)
    refine MergeD.AllSteps.cons ⟨rfl, by rfl, (by intro d hd; simp [dOf] at hd), fun _ _ => rfl, fun vals W hi hd K hK => ?_⟩ ?_
    · obtain ⟨x0, e0⟩ := hd ⟨3, .data⟩ (by simp) rfl
      obtain ⟨a1, c1, e1⟩ := hd ⟨7, .data⟩ (by simp) rfl
      obtain ⟨x2, e2⟩ := hd ⟨11, .data⟩ (by simp) rfl
      obtain ⟨a3, c3, e3⟩ := hd ⟨15, .data⟩ (by simp) rfl
      obtain ⟨x4, e4⟩ := hd ⟨19, .data⟩ (by simp) rfl
      obtain ⟨x5, e5⟩ := hd ⟨23, .data⟩ (by simp) rfl
      obtain ⟨x6, e6⟩ := hd ⟨27, .data⟩ (by simp) rfl
      obtain ⟨x7, e7⟩ := hd ⟨31, .data⟩ (by simp) rfl
      obtain ⟨x8, e8⟩ := hd ⟨35, .data⟩ (by simp) rfl
      obtain ⟨a9, c9, e9⟩ := hd ⟨39, .data⟩ (by simp) rfl
      simp only [e0, e1, e2, e3, e4, e5, e6, e7, e8, e9] at hK
      go_simp
      exact hK _ _ ⟨_, _, _, _, _, _, _, _, _, _, _, _, _, _, _, upd_same _ _ _⟩ (rel_below (Below.refl _ _) hi.2.2.2.2)
    refine MergeD.AllSteps.cons ⟨rfl, by rfl, (by intro d hd; simp [dOf] at hd), fun _ _ => rfl, fun vals W hi hd K hK => ?_⟩ ?_
    · go_simp
      exact hK _ _ ⟨W.heap.size, upd_same _ _ _, hi.2.2.2.2, _, _, _, _, _, _, _, _, _, _, heap_alloc_new W _⟩ (rel_below ((Below.refl _ _).alloc (Nat.le_refl _) _) hi.2.2.2.2)
    refine MergeD.AllSteps.cons ⟨rfl, by rfl, (by intro d hd; simp [dOf] at hd; subst hd; exact ⟨⟨41, .data⟩, by simp, rfl, rfl⟩), fun _ _ => rfl, fun vals W hi hd K hK => ?_⟩ ?_
    · obtain ⟨g, e0, hg, v0, v1, v2, v3, v4, v5, v6, v7, v8, v9, hpt⟩ := hd ⟨41, .data⟩ (by simp) rfl
      obtain ⟨x0, a1, c1, x2, a3, n3, c3, x4, x5, x6, x7, x8, a9, n9, c9, e1⟩ := hd ⟨40, .data⟩ (by simp) rfl
      have f0 := block_free (i := 0) hpt
      have f1 := block_free (i := 1) hpt
      have f2 := block_free (i := 2) hpt
      have f3 := block_free (i := 3) hpt
      have f4 := block_free (i := 4) hpt
      have f5 := block_free (i := 5) hpt
      have f6 := block_free (i := 6) hpt
      have f7 := block_free (i := 7) hpt
      have f8 := block_free (i := 8) hpt
      have f9 := block_free (i := 9) hpt
      have c0' : W.cell? ⟨g, 0, none⟩ = some v0 := (block_cell (i := 0) hpt).trans rfl
      have c1' : W.cell? ⟨g, 1, none⟩ = some v1 := (block_cell (i := 1) hpt).trans rfl
      have c2' : W.cell? ⟨g, 2, none⟩ = some v2 := (block_cell (i := 2) hpt).trans rfl
      have c3' : W.cell? ⟨g, 3, none⟩ = some v3 := (block_cell (i := 3) hpt).trans rfl
      have c4' : W.cell? ⟨g, 4, none⟩ = some v4 := (block_cell (i := 4) hpt).trans rfl
      have c5' : W.cell? ⟨g, 5, none⟩ = some v5 := (block_cell (i := 5) hpt).trans rfl
      have c6' : W.cell? ⟨g, 6, none⟩ = some v6 := (block_cell (i := 6) hpt).trans rfl
      have c7' : W.cell? ⟨g, 7, none⟩ = some v7 := (block_cell (i := 7) hpt).trans rfl
      have c8' : W.cell? ⟨g, 8, none⟩ = some v8 := (block_cell (i := 8) hpt).trans rfl
      have c9' : W.cell? ⟨g, 9, none⟩ = some v9 := (block_cell (i := 9) hpt).trans rfl
      have HPT := Lib.hid hpt
      clear hpt
      simp only [e0, e1] at hK
      go_simp
      obtain ⟨z1, z2, z3, z4⟩ := set10 (.int .i64 x0) (.slice a1 (hitC B.maps p).length c1) (.int .i64 x2) (.slice a3 n3 c3) (.bool x4) (.int .i64 x5) (.int .i64 x6) (.bool x7) (.int .i64 x8) (.slice a9 n9 c9) HPT.out
      have hgd : Good (hitC B.maps p).length _ g := ⟨x0, a1, c1, x2, a3, n3, c3, x4, x5, x6, x7, x8, a9, n9, c9, z1⟩
      exact hK undef _ ⟨g, e0, hgd⟩ (rel_stored (z4 _ _ hg (Below.refl _ _)) z2 z3 hgd)
    exact MergeD.AllSteps.nil
  case hD =>
    intro vals W hi hv
    obtain ⟨g, e0, hg, _⟩ := hv 41 (by simp)
    obtain ⟨g', e0', x0, a1, c1, x2, a3, n3, c3, x4, x5, x6, x7, x8, a9, n9, c9, hgood⟩ := hv 42 (by simp)
    obtain rfl : g = g' := by rw [e0] at e0'; injection e0' with e; injection e with e; injection e
    have e3 : decide (((hitC B.maps p).length : Int) > 0) = true := decide_eq_true (by have := HM.out; omega)
    have HG := Lib.hid hgood
    have HI := Lib.hid hi
    have kg0 := block_cell (i := 0) hgood
    simp at kg0
    have kg1 := block_cell (i := 1) hgood
    simp at kg1
    have kg2 := block_cell (i := 2) hgood
    simp at kg2
    have kg3 := block_cell (i := 3) hgood
    simp at kg3
    have kg4 := block_cell (i := 4) hgood
    simp at kg4
    have kg5 := block_cell (i := 5) hgood
    simp at kg5
    have kg6 := block_cell (i := 6) hgood
    simp at kg6
    have kg7 := block_cell (i := 7) hgood
    simp at kg7
    have kg8 := block_cell (i := 8) hgood
    simp at kg8
    have kg9 := block_cell (i := 9) hgood
    simp at kg9
    have fg0 := block_free (i := 0) hgood
    have fr0 := block_free (i := 0) hi.2.2.2.1
    have fr1 := block_free (i := 1) hi.2.2.2.1
    have fr2 := block_free (i := 2) hi.2.2.2.1
    have fr3 := block_free (i := 3) hi.2.2.2.1
    have fr4 := block_free (i := 4) hi.2.2.2.1
    have fr5 := block_free (i := 5) hi.2.2.2.1
    have fr6 := block_free (i := 6) hi.2.2.2.1
    have fr7 := block_free (i := 7) hi.2.2.2.1
    have fr8 := block_free (i := 8) hi.2.2.2.1
    have fr9 := block_free (i := 9) hi.2.2.2.1
    have kr0 := block_cell (i := 0) hi.2.2.2.1
    simp at kr0
    have kr1 := block_cell (i := 1) hi.2.2.2.1
    simp at kr1
    have kr2 := block_cell (i := 2) hi.2.2.2.1
    simp at kr2
    have kr3 := block_cell (i := 3) hi.2.2.2.1
    simp at kr3
    have kr4 := block_cell (i := 4) hi.2.2.2.1
    simp at kr4
    have kr5 := block_cell (i := 5) hi.2.2.2.1
    simp at kr5
    have kr6 := block_cell (i := 6) hi.2.2.2.1
    simp at kr6
    have kr7 := block_cell (i := 7) hi.2.2.2.1
    simp at kr7
    have kr8 := block_cell (i := 8) hi.2.2.2.1
    simp at kr8
    have kr9 := block_cell (i := 9) hi.2.2.2.1
    simp at kr9
    have hgr : w.heap.size + 2 ≠ g := by have := hb1.size; rw [HSZ.out] at this; omega
    clear hv e0' hgood hi
    simp only [e0]
    go_wp2_with fail
    have y0 : (W.setCell ⟨g, 0, none⟩ (.int .i64 4)).heap[w.heap.size + 1 + 1]? = some (.cells #[.int .i64 0, .slice none 0 0, .int .i64 0, .slice none 0 0, .bool false, .int .i64 0, .int .i64 0, .bool false, .int .i64 0, .slice none 0 0] 47 (0, 0)) := (Below.heap_setCell W ⟨g, 0, none⟩ (.int .i64 4) _ (by simp; omega)).trans HI.out.2.2.2.1
    obtain ⟨z1, z2, z3, z4⟩ := set10 (.int .i64 4) (.slice a1 (hitC B.maps p).length c1) (.int .i64 x2) (.slice a3 n3 c3) (.bool x4) (.int .i64 x5) (.int .i64 x6) (.bool x7) (.int .i64 x8) (.slice a9 n9 c9) y0
    have zb := z4 w.heap.size w (by omega) (HI.out.1.setCell (by simp; omega) _)
    have q0 := block_cell (i := 0) z1
    simp only [List.getElem?_toArray, List.getElem?_cons_succ, List.getElem?_cons_zero] at q0
    have q1 := block_cell (i := 1) z1
    simp only [List.getElem?_toArray, List.getElem?_cons_succ, List.getElem?_cons_zero] at q1
    have q2 := block_cell (i := 2) z1
    simp only [List.getElem?_toArray, List.getElem?_cons_succ, List.getElem?_cons_zero] at q2
    have q3 := block_cell (i := 3) z1
    simp only [List.getElem?_toArray, List.getElem?_cons_succ, List.getElem?_cons_zero] at q3
    have q4 := block_cell (i := 4) z1
    simp only [List.getElem?_toArray, List.getElem?_cons_succ, List.getElem?_cons_zero] at q4
    have q5 := block_cell (i := 5) z1
    simp only [List.getElem?_toArray, List.getElem?_cons_succ, List.getElem?_cons_zero] at q5
    have q6 := block_cell (i := 6) z1
    simp only [List.getElem?_toArray, List.getElem?_cons_succ, List.getElem?_cons_zero] at q6
    have q7 := block_cell (i := 7) z1
    simp only [List.getElem?_toArray, List.getElem?_cons_succ, List.getElem?_cons_zero] at q7
    have q8 := block_cell (i := 8) z1
    simp only [List.getElem?_toArray, List.getElem?_cons_succ, List.getElem?_cons_zero] at q8
    have q9 := block_cell (i := 9) z1
    simp only [List.getElem?_toArray, List.getElem?_cons_succ, List.getElem?_cons_zero] at q9
    refine bodyPost_ret (v := .tuple #[.agg #[.int .i64 4, .slice a1 (hitC B.maps p).length c1, .int .i64 x2, .slice a3 n3 c3, .bool x4, .int .i64 x5, .int .i64 x6, .bool x7, .int .i64 x8, .slice a9 n9 c9], .int .i64 0]) ?_ rfl ⟨⟨a1, c1, x2, a3, n3, c3, x4, x5, x6, x7, x8, a9, n9, c9, rfl⟩, zb⟩
    simp [results, Tryz.results12, go_sem, q0, q1, q2, q3, q4, q5, q6, q7, q8, q9]
end Go.Proofs.YtgdambmineeboaaGreatDoor.FlatP
