/- The walks of book.Print's closures over rows: values and lists. -/
import Derived.Test.YtgdambmineeboaaGreatDoorBOpen
set_option linter.unusedSimpArgs false
set_option linter.unusedVariables false
namespace Go.Proofs.YtgdambmineeboaaGreatDoor.Vals10
open Go.RowKit Go.Lib Go.Proofs.YtgdambmineeboaaGreatDoor.Text Go.Proofs.YtgdambmineeboaaGreatDoor.Runes Go.Proofs.YtgdambmineeboaaGreatDoor.Print Go.Proofs.YtgdambmineeboaaGreatDoor.RefNine Go.Proofs.YtgdambmineeboaaGreatDoor.RefPrint Go.Proofs.YtgdambmineeboaaGreatDoor.Format Go.Proofs.YtgdambmineeboaaGreatDoor.Tell Go.Proofs.YtgdambmineeboaaGreatDoor.Given Go.Proofs.YtgdambmineeboaaGreatDoor.Mem Go.Proofs.YtgdambmineeboaaGreatDoor.Told Go.Proofs.YtgdambmineeboaaGreatDoor.Listed Go.Proofs.YtgdambmineeboaaGreatDoor.Lines10 Go.Proofs.YtgdambmineeboaaGreatDoor.Put
theorem flatMap_snoc' {α : Type} (f : α → List UInt8) (l : List α) (i : Nat) (x : α) (h : l[i]? = some x) : (l.take (i + 1)).flatMap f = (l.take i).flatMap f ++ f x := by
  rw [take_snoc' l i x h, List.flatMap_append]
  simp
theorem flatMap_le {α : Type} (f : α → List UInt8) (m : Nat) : ∀ (l : List α), (∀ x ∈ l, (f x).length ≤ m) → (l.flatMap f).length ≤ m * l.length
  | [], _ => by simp
  | x :: l, h => by
    have h1 := h x (List.mem_cons_self ..)
    have h2 := flatMap_le f m l (fun y hy => h y (List.mem_cons_of_mem _ hy))
    rw [List.flatMap_cons, List.length_append, List.length_cons, Nat.mul_add]
    omega
/-- What every round of a printing loop may lean on. -/
structure Env (OB PB base : Nat) (w0 : World) : Prop where
  t : ∀ W, Below OB w0 W → Tabs W
  p : w0.heap[PB]? = some (.cells #[.func (.func 17) #[] #[.pointer (some ⟨OB, 0, none⟩)]] 62 (0, 0))
  p1 : OB < PB
  p2 : PB < base
theorem Env.cell {OB PB base : Nat} {w0 w : World} {bs : List UInt8} (h : Env OB PB base w0) (hs : St OB base w0 bs w) : w.cell? ⟨PB, 0, none⟩ = some (.func (.func 17) #[] #[.pointer (some ⟨OB, 0, none⟩)]) :=
  (block_cell (i := 0) ((hs.k PB h.p1 h.p2).trans h.p)).trans rfl
set_option maxRecDepth 100000 in
set_option maxHeartbeats 2000000 in
theorem values_any (OB PB base : Nat) (w0 : World) (E : Env OB PB base w0) (bs : List UInt8) (kind : ByteArray) (tell : Int → ByteArray) (g : Nat) (caps : Array Value) (a : Option Addr) (l : List Val) (c : Nat) (w : World)
    (hok : ∀ x ∈ l, Sp x.a x.b) (hl : l.length ≤ 65536) (hk : Fld kind) (ht : ∀ x ∈ l, Fld (tell x.n)) (hS : ∀ W, Below OB w0 W → Vals W a l)
    (eg : ∀ args w, (callFunc g args).run Tryz.prog w = .ok (.enter g args) w)
    (hg : ∀ W x, Below OB w0 W → x ∈ l → Calls Tryz.prog g (#[.int .i64 x.n] ++ caps) W fun e w' => e = .returned (.string (tell x.n)) ∧ Below W.heap.size W w')
    (hst : St OB base w0 bs w) (hbs : bs.length ≤ 800000000) :
    Calls Tryz.prog 20 #[.string kind, .slice a l.length c, .func (.func g) #[] caps, .pointer (some ⟨PB, 0, none⟩)] w fun e w' => e = .returned (.tuple #[]) ∧ St OB base w0 (bs ++ l.flatMap fun x => lineL kind.data.toList x.a x.b (some (tell x.n))) w' := by
  have HE := Lib.hid E
  have HOK := Lib.hid hok
  have HS := Lib.hid hS
  have HG := Lib.hid hg
  have HK := Lib.hid hk
  have HTL := Lib.hid ht
  have HST := Lib.hid hst
  have HLE : Hid (∀ i, i ≤ l.length → ((l.take i).flatMap fun x => lineL kind.data.toList x.a x.b (some (tell x.n))).length ≤ 2000 * i) := Lib.hid (by
    intro i hi
    have := flatMap_le (fun x : Val => lineL kind.data.toList x.a x.b (some (tell x.n))) 2000 (l.take i) (fun x hx => line_le hk (fun m hm => by cases hm; exact ht x (List.mem_of_mem_take hx)))
    rw [List.length_take, Nat.min_eq_left hi] at this
    exact this)
  clear E hok hS hg hk ht hst
  go_enter Tryz.func20, Tryz.ntmps20
  go_wp2_with fail
  go_loopw [11] (fun v w' => ∃ (i : Nat), v = .int .i64 i ∧ i ≤ l.length ∧ Hid (St OB base w0 (bs ++ (l.take i).flatMap fun x => lineL kind.data.toList x.a x.b (some (tell x.n))) w')) (fun v _ => l.length - (intOf v).toNat)
  case atStart => exact ⟨0, rfl, Nat.zero_le _, Lib.hid (by simpa using HST.out)⟩
  case round =>
    obtain ⟨i, rfl, hi, hs⟩ := hrel
    by_cases hlt : i < l.length
    · obtain ⟨x, hx⟩ : ∃ x, l[i]? = some x := ⟨_, List.getElem?_eq_getElem hlt⟩
      rcases HS.out wr hs.out.b with h0 | ⟨bk, o, had, hbk, hc⟩
      · rw [h0] at hlt; simp at hlt
      obtain ⟨q0, q1, q2⟩ := vals_at (hc i x hx)
      have hm := List.mem_of_getElem? hx
      have HSN := Lib.hid (flatMap_snoc' (fun x : Val => lineL kind.data.toList x.a x.b (some (tell x.n))) l i x hx)
      have hle := HLE.out i hi
      have hTX := HTL.out x hm
      have HSP := HOK.out x hm
      have HGX := Lib.hid (fun W (hW : Below OB w0 W) => HG.out W x hW hm)
      obtain ⟨xa, xb, xn⟩ := x
      dsimp only at q0 q1 q2 hTX HSP HGX
      have HTX := Lib.hid hTX
      have HSPX := Lib.hid HSP
      have HA := Lib.hid ((Below.refl wr.heap.size wr).alloc (Nat.le_refl _) (.cells #[.int .i32 xa, .int .i32 xb, .int .i64 xn] 65 (0, 0)))
      have hbx := heap_alloc_new wr (.cells #[.int .i32 xa, .int .i32 xb, .int .i64 xn] 65 (0, 0))
      have HS1 := Lib.hid (hs.out.below HA.out)
      have c0 : (wr.alloc (.cells #[.int .i32 xa, .int .i32 xb, .int .i64 xn] 65 (0, 0))).cell? ⟨wr.heap.size, 0, none⟩ = some (.int .i32 xa) := (block_cell (i := 0) hbx).trans rfl
      have c1 : (wr.alloc (.cells #[.int .i32 xa, .int .i32 xb, .int .i64 xn] 65 (0, 0))).cell? ⟨wr.heap.size, 1, none⟩ = some (.int .i32 xb) := (block_cell (i := 1) hbx).trans rfl
      have c2 : (wr.alloc (.cells #[.int .i32 xa, .int .i32 xb, .int .i64 xn] 65 (0, 0))).cell? ⟨wr.heap.size, 2, none⟩ = some (.int .i64 xn) := (block_cell (i := 2) hbx).trans rfl
      have c3 := HE.out.cell HS1.out
      rw [had]
      have hbd : ∀ W : World, Below W.heap.size W W.drew := fun W => (Below.refl _ _).drew
      have HS1D := Lib.hid (HS1.out.below (hbd _))
      have hlw : wr.heap.size < (wr.alloc (.cells #[.int .i32 xa, .int .i32 xb, .int .i64 xn] 65 (0, 0))).heap.size := by simp
      have HPUT : Hid (∀ W, St OB base w0 (bs ++ (l.take i).flatMap fun x => lineL kind.data.toList x.a x.b (some (tell x.n))) W → Calls Tryz.prog 17 #[.string kind, .int .i32 xa, .int .i32 xb, .slice (some ⟨W.heap.size, 0, none⟩) 1 1, .pointer (some ⟨OB, 0, none⟩)] (W.alloc (.cells #[.string (tell xn)] 9 (0, 0))) fun e w' => e = .returned (.tuple #[]) ∧ St OB base w0 (bs ++ (l.take (i + 1)).flatMap fun x => lineL kind.data.toList x.a x.b (some (tell x.n))) w' ∧ KeepT OB W w') := Lib.hid (by
        intro W hW
        have hal := (Below.refl W.heap.size W).alloc (Nat.le_refl _) (.cells #[.string (tell xn)] 9 (0, 0))
        have hW2 := hW.below hal
        rw [HSN.out, ← List.append_assoc]
        refine (put_any OB base w0 _ kind xa xb _ (some (tell xn)) _ HSPX.out HK.out (fun m hm => by cases hm; exact HTX.out) (.one _ 1 _ ((block_cell (i := 0) (heap_alloc_new W _)).trans rfl) (Nat.le_refl _)) (HE.out.t _ hW2.b) hW2 (by rw [List.length_append]; omega)).mono ?_
        rintro e w' ⟨he, hs, hk⟩
        refine ⟨he, hs, fun k cs t hc hne ht => ?_⟩
        have hlk := block_lt hc
        exact (hk k cs t ((hal.block k hlk).trans hc) hne ht).trans (hal.block k hlk))
      have HBX1 := Lib.hid hbx
      have hPB := HE.out.p2
      have hPZ := HS1.out.z
      have hOW : OB < wr.heap.size := by have := hs.out.z; have := HE.out.p1; omega
      generalize hW1 : wr.alloc (.cells #[.int .i32 xa, .int .i32 xb, .int .i64 xn] 65 (0, 0)) = W1 at *
      have HEQ := Lib.hid hW1
      clear hc hx hm hTX HSP hbx hle
      go_wp2_with fail
      clear q0 q1 q2 hW1
      go_region_held3 (fun w' => w'.cell? ⟨wr.heap.size, 0, none⟩ = some (.int .i32 xa) ∧ w'.cell? ⟨wr.heap.size, 1, none⟩ = some (.int .i32 xb) ∧ w'.cell? ⟨wr.heap.size, 2, none⟩ = some (.int .i64 xn) ∧ w'.cell? ⟨PB, 0, none⟩ = some (.func (.func 17) #[] #[.pointer (some ⟨OB, 0, none⟩)]))
        (first | exact ⟨c0', c1', c2', c3'⟩ | exact ⟨c0, c1, c2, c3⟩ | go_keep)
        ((first
          | (go_at_fn g; refine (HGX.out _ HS1D.out.b).mono ?_; rintro e w5 ⟨rfl, hb5⟩; have HS5 := Lib.hid (HS1D.out.below hb5); have c0' := (hb5.cell (p := ⟨wr.heap.size, 0, none⟩) hlw).trans c0; have c1' := (hb5.cell (p := ⟨wr.heap.size, 1, none⟩) hlw).trans c1; have c2' := (hb5.cell (p := ⟨wr.heap.size, 2, none⟩) hlw).trans c2; have c3' := HE.out.cell HS5.out; have HBX5 := Lib.hid ((hb5.block wr.heap.size hlw).trans HBX1.out); clear hb5)
          | (go_at_call 17; refine (HPUT.out _ HS5.out).mono ?_; rintro e w7 ⟨rfl, hs7, hk7⟩; have HS7 := Lib.hid hs7; have hbx7 := (hk7 wr.heap.size _ _ HBX5.out (by omega) (by decide)).trans HBX5.out; have c0' : w7.cell? ⟨wr.heap.size, 0, none⟩ = some (.int .i32 xa) := (block_cell (i := 0) hbx7).trans rfl; have c1' : w7.cell? ⟨wr.heap.size, 1, none⟩ = some (.int .i32 xb) := (block_cell (i := 1) hbx7).trans rfl; have c2' : w7.cell? ⟨wr.heap.size, 2, none⟩ = some (.int .i64 xn) := (block_cell (i := 2) hbx7).trans rfl; have c3' := HE.out.cell HS7.out; clear hs7 hk7 hbx7)))
      all_goals
        go_wp2_with fail
        go_roundw
        case rel => exact ⟨i + 1, by go_num, by omega, HS7⟩
        case measure => simp [intOf]; omega
    · obtain rfl : i = l.length := by omega
      have HF := hs.out
      rw [List.take_length] at HF
      have HFF := Lib.hid HF
      clear HF
      go_wp2_with fail
      go_end0
      exact ⟨rfl, HFF.out⟩
def chrT (K : List UInt8) (x : Chr) : List UInt8 := lineL K x.a x.b (some ⟨(tellText x.is).toArray⟩)
theorem join_two (x y : List UInt8) (r : List (List UInt8)) : Lib.join (x :: y :: r) [32] = x ++ 32 :: Lib.join (y :: r) [32] := by simp [Lib.join]
theorem join_mem : ∀ (xs : List (List UInt8)) (c : UInt8), c ∈ Lib.join xs [32] → c = 32 ∨ ∃ x ∈ xs, c ∈ x
  | [], c, h => by simp [Lib.join] at h
  | [x], c, h => by rw [Lib.join_one] at h; exact .inr ⟨x, List.mem_cons_self .., h⟩
  | x :: y :: r, c, h => by
    rw [join_two, List.mem_append, List.mem_cons] at h
    rcases h with h | h | h
    · exact .inr ⟨x, List.mem_cons_self .., h⟩
    · exact .inl h
    · rcases join_mem (y :: r) c h with h | ⟨z, hz, hc⟩
      · exact .inl h
      · exact .inr ⟨z, List.mem_cons_of_mem _ hz, hc⟩
theorem join_head (xs : List (List UInt8)) (c : UInt8) (hne : ∀ x ∈ xs, x ≠ []) (h : (Lib.join xs [32]).head? = some c) : ∃ x ∈ xs, c ∈ x := by
  match xs, hne, h with
  | [], _, h => simp [Lib.join] at h
  | [x], _, h => rw [Lib.join_one] at h; exact ⟨x, List.mem_cons_self .., List.mem_of_mem_head? h⟩
  | x :: y :: r, hne, h =>
    have hx := hne x (List.mem_cons_self ..)
    rw [join_two] at h
    cases x with
    | nil => exact absurd rfl hx
    | cons d x' =>
      cases h
      exact ⟨_, List.mem_cons_self .., List.mem_cons_self ..⟩
theorem join_ne : ∀ (x : List UInt8) (r : List (List UInt8)), x ≠ [] → Lib.join (x :: r) [32] ≠ []
  | x, [], h => by rw [Lib.join_one]; exact h
  | x, y :: r, _ => by rw [join_two]; simp
theorem join_last : ∀ (xs : List (List UInt8)) (c : UInt8), (∀ x ∈ xs, x ≠ []) → (Lib.join xs [32]).getLast? = some c → ∃ x ∈ xs, c ∈ x
  | [], c, _, h => by simp [Lib.join] at h
  | [x], c, _, h => by rw [Lib.join_one] at h; exact ⟨x, List.mem_cons_self .., List.mem_of_mem_getLast? h⟩
  | x :: y :: r, c, hne, h => by
    have hy := join_ne y r (hne y (by simp))
    rw [join_two] at h
    have e : (x ++ 32 :: Lib.join (y :: r) [32]).getLast? = (Lib.join (y :: r) [32]).getLast? := by
      cases hj : Lib.join (y :: r) [32] with
      | nil => exact absurd hj hy
      | cons d s =>
        rw [List.getLast?_append, List.getLast?_cons_cons]
        cases hq : (d :: s).getLast? with
        | none => simp at hq
        | some q => rfl
    rw [e] at h
    obtain ⟨z, hz, hc⟩ := join_last (y :: r) c (fun z hz => hne z (List.mem_cons_of_mem _ hz)) h
    exact ⟨z, List.mem_cons_of_mem _ hz, hc⟩
theorem hexL_ne (p : Nat) : hexL p ≠ [] := by
  intro h
  have := congrArg List.length h
  unfold hexL at this
  rw [lowHex_length] at this
  simp at this
/-- A row's list of code points may be told. -/
def TellOk (is : List Int) : Prop := is.length ≤ 18 ∧ is.any badRune = false
theorem tell_plain {is : List Int} (h : TellOk is) : Fld ⟨(tellText is).toArray⟩ := by
  have hz : (⟨(tellText is).toArray⟩ : ByteArray).size ≤ 400 := by
    have := tell_len is h.2
    have h1 := h.1
    rw [← size_data]
    show (tellText is).length ≤ 400
    omega
  have hin : ∀ c x, x ∈ is.map (fun x => hexL x.toNat) → c ∈ x → Plainish c := by
    intro c x hx hc
    obtain ⟨p, _, rfl⟩ := List.mem_map.1 hx
    exact low_plain _ _ c hc
  have hne : ∀ x ∈ is.map (fun x => hexL x.toNat), x ≠ [] := by
    intro x hx
    obtain ⟨p, _, rfl⟩ := List.mem_map.1 hx
    exact hexL_ne _
  refine ⟨hz, Fields10.plain_ends (fun c hc => ?_) (fun c hc => ?_) (fun c hc => ?_)⟩
  · rcases join_mem _ c hc with h | ⟨x, hx, hc⟩
    · rw [h]; decide
    · exact (hin c x hx hc).1
  · obtain ⟨x, hx, hc⟩ := join_head _ c hne hc
    exact (hin c x hx hc).2
  · obtain ⟨x, hx, hc⟩ := join_last _ c hne hc
    exact (hin c x hx hc).2
set_option maxRecDepth 100000 in
set_option maxHeartbeats 2000000 in
theorem rowsP_any (OB PB base : Nat) (w0 : World) (E : Env OB PB base w0) (bs : List UInt8) (kind : ByteArray) (a : Option Addr) (l : List Chr) (c : Nat) (w : World)
    (hok : ∀ x ∈ l, Sp x.a x.b ∧ TellOk x.is) (hl : l.length ≤ 65536) (hk : Fld kind) (hS : ∀ W, Below OB w0 W → Chrs W a l)
    (hst : St OB base w0 bs w) (hbs : bs.length ≤ 800000000) :
    Calls Tryz.prog 21 #[.string kind, .slice a l.length c, .pointer (some ⟨PB, 0, none⟩)] w fun e w' => e = .returned (.tuple #[]) ∧ St OB base w0 (bs ++ l.flatMap (chrT kind.data.toList)) w' := by
  have HE := Lib.hid E
  have HOK := Lib.hid hok
  have HS := Lib.hid hS
  have HK := Lib.hid hk
  have HST := Lib.hid hst
  have HLE : Hid (∀ i, i ≤ l.length → ((l.take i).flatMap (chrT kind.data.toList)).length ≤ 2000 * i) := Lib.hid (by
    intro i hi
    have := flatMap_le (chrT kind.data.toList) 2000 (l.take i) (fun x hx => line_le hk (fun m hm => by cases hm; exact tell_plain (hok x (List.mem_of_mem_take hx)).2))
    rw [List.length_take, Nat.min_eq_left hi] at this
    exact this)
  clear E hok hS hk hst
  go_enter Tryz.func21, Tryz.ntmps21
  go_wp2_with fail
  go_loopw [11] (fun v w' => ∃ (i : Nat), v = .int .i64 i ∧ i ≤ l.length ∧ Hid (St OB base w0 (bs ++ (l.take i).flatMap (chrT kind.data.toList)) w')) (fun v _ => l.length - (intOf v).toNat)
  case atStart => exact ⟨0, rfl, Nat.zero_le _, Lib.hid (by simpa using HST.out)⟩
  case round =>
    obtain ⟨i, rfl, hi, hs⟩ := hrel
    by_cases hlt : i < l.length
    · obtain ⟨x, hx⟩ : ∃ x, l[i]? = some x := ⟨_, List.getElem?_eq_getElem hlt⟩
      obtain ⟨rs, htab, hmap, hrs⟩ := HS.out wr hs.out.b
      have hrl : rs.length = l.length := by rw [← hmap, List.length_map]
      obtain ⟨r, hr⟩ : ∃ r, rs[i]? = some r := ⟨_, List.getElem?_eq_getElem (by omega)⟩
      have hxr : x = r.plain := by
        rw [← hmap, List.getElem?_map, hr] at hx
        cases hx
        rfl
      rcases htab with h0 | ⟨bk, o, had, hbk, hc⟩
      · rw [h0] at hrl; simp at hrl; omega
      obtain ⟨q0, q1, q2⟩ := raws_at (hc i r hr)
      have hm := List.mem_of_getElem? hx
      have HSN := Lib.hid (flatMap_snoc' (chrT kind.data.toList) l i x hx)
      have hle := HLE.out i hi
      obtain ⟨hsp, htk⟩ := HOK.out x hm
      have hrr := hrs r (List.mem_of_getElem? hr)
      subst hxr
      obtain ⟨xa, xb, xad, xcap, xis⟩ := r
      dsimp only [Raw.plain] at q0 q1 q2 hsp htk hrr HSN
      have HSPX := Lib.hid hsp
      have HTK := Lib.hid htk
      have HRR := Lib.hid hrr
      have HA := Lib.hid ((Below.refl wr.heap.size wr).alloc (Nat.le_refl _) (.cells #[.int .i32 xa, .int .i32 xb, .slice xad xis.length xcap] 68 (0, 0)))
      have hbx := heap_alloc_new wr (.cells #[.int .i32 xa, .int .i32 xb, .slice xad xis.length xcap] 68 (0, 0))
      have HS1 := Lib.hid (hs.out.below HA.out)
      have hlw : wr.heap.size < (wr.alloc (.cells #[.int .i32 xa, .int .i32 xb, .slice xad xis.length xcap] 68 (0, 0))).heap.size := by simp
      have HTELL := Lib.hid (tell_any xad xis xcap _ (by have := htk.1; omega) (hrr.below HA.out) (HE.out.t _ HS1.out.b))
      have HFT := Lib.hid (tell_plain htk)
      have HPUT : Hid (∀ W, St OB base w0 (bs ++ (l.take i).flatMap (chrT kind.data.toList)) W → Calls Tryz.prog 17 #[.string kind, .int .i32 xa, .int .i32 xb, .slice (some ⟨W.heap.size, 0, none⟩) 1 1, .pointer (some ⟨OB, 0, none⟩)] (W.alloc (.cells #[.string ⟨(tellText xis).toArray⟩] 9 (0, 0))) fun e w' => e = .returned (.tuple #[]) ∧ St OB base w0 (bs ++ (l.take (i + 1)).flatMap (chrT kind.data.toList)) w') := Lib.hid (by
        intro W hW
        have hal := (Below.refl W.heap.size W).alloc (Nat.le_refl _) (.cells #[.string ⟨(tellText xis).toArray⟩] 9 (0, 0))
        have hW2 := hW.below hal
        rw [HSN.out, ← List.append_assoc]
        refine (put_any OB base w0 _ kind xa xb _ (some ⟨(tellText xis).toArray⟩) _ HSPX.out HK.out (fun m hm => by cases hm; exact HFT.out) (.one _ 1 _ ((block_cell (i := 0) (heap_alloc_new W _)).trans rfl) (Nat.le_refl _)) (HE.out.t _ hW2.b) hW2 (by rw [List.length_append]; omega)).mono ?_
        rintro e w' ⟨he, hs, hk⟩
        exact ⟨he, hs⟩)
      have HBX1 := Lib.hid hbx
      generalize hW1 : wr.alloc (.cells #[.int .i32 xa, .int .i32 xb, .slice xad xis.length xcap] 68 (0, 0)) = W1 at *
      have c0 : W1.cell? ⟨wr.heap.size, 0, none⟩ = some (.int .i32 xa) := (block_cell (i := 0) hbx).trans rfl
      have c1 : W1.cell? ⟨wr.heap.size, 1, none⟩ = some (.int .i32 xb) := (block_cell (i := 1) hbx).trans rfl
      have c2 : W1.cell? ⟨wr.heap.size, 2, none⟩ = some (.slice xad xis.length xcap) := (block_cell (i := 2) hbx).trans rfl
      rw [had]
      have HMAP := Lib.hid hmap
      clear hc hx hm hsp htk hrr hbx hle hr hrs hrl hmap
      go_wp2_with fail
      clear q0 q1 q2 hW1
      refine HTELL.out.mono ?_
      rintro e w2 ⟨he, hb2⟩
      rw [HTK.out.2] at he
      subst he
      have HS2 := Lib.hid (HS1.out.below hb2)
      have hbx2 := (hb2.block wr.heap.size hlw).trans HBX1.out
      have d0 : w2.cell? ⟨wr.heap.size, 0, none⟩ = some (.int .i32 xa) := (block_cell (i := 0) hbx2).trans rfl
      have d1 : w2.cell? ⟨wr.heap.size, 1, none⟩ = some (.int .i32 xb) := (block_cell (i := 1) hbx2).trans rfl
      have d3 := HE.out.cell HS2.out
      clear c0 c1 c2 hb2 hbx2
      go_wp2_with fail
      refine (HPUT.out _ HS2.out).mono ?_
      rintro e w3 ⟨rfl, hs3⟩
      have HS3 := Lib.hid hs3
      clear hs3
      go_wp2_with fail
      go_roundw
      case rel => exact ⟨i + 1, by go_num, by omega, HS3⟩
      case measure => simp [intOf]; omega
    · obtain rfl : i = l.length := by omega
      have HF := hs.out
      rw [List.take_length] at HF
      have HFF := Lib.hid HF
      clear HF
      go_wp2_with fail
      go_end0
      exact ⟨rfl, HFF.out⟩
end Go.Proofs.YtgdambmineeboaaGreatDoor.Vals10
