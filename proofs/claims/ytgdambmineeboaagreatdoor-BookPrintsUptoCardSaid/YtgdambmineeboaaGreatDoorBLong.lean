/- The walk of the reference's chars: what rows say of a code point. -/
import Derived.Test.YtgdambmineeboaaGreatDoorBOf
import Derived.Test.YtgdambmineeboaaGreatDoorBBook
import Derived.Outline
set_option linter.unusedSimpArgs false
set_option linter.unusedVariables false
namespace Go.Proofs.YtgdambmineeboaaGreatDoor.Chars
open Go.RowKit Go.Lib Go.Proofs.YtgdambmineeboaaGreatDoor.Text Go.Proofs.YtgdambmineeboaaGreatDoor.Runes Go.Proofs.YtgdambmineeboaaGreatDoor.Print Go.Proofs.YtgdambmineeboaaGreatDoor.RefNine Go.Proofs.YtgdambmineeboaaGreatDoor.RefPrint Go.Proofs.YtgdambmineeboaaGreatDoor.Format Go.Proofs.YtgdambmineeboaaGreatDoor.Tell Go.Proofs.YtgdambmineeboaaGreatDoor.Given Go.Proofs.YtgdambmineeboaaGreatDoor.Mem

def hits (p : Int) (a b : Int) : Bool := decide (a ≤ p) && decide (p ≤ b)
/-- The row that has a code point: what it says. -/
def said (p : Int) : List Chr → List Int
  | [] => []
  | x :: l => if hits p x.a x.b then x.is else said p l
theorem said_at (p : Int) : ∀ (l : List Chr) (i : Nat) (x : Chr), l[i]? = some x → hits p x.a x.b = true → (∀ j y, l[j]? = some y → j < i → hits p y.a y.b = false) → said p l = x.is
  | [], _, _, h, _, _ => by simp at h
  | y :: l, 0, x, h, hx, _ => by cases h; rw [said, if_pos hx]
  | y :: l, i + 1, x, h, hx, hq => by
    rw [said, if_neg (by rw [hq 0 y rfl (by omega)]; decide)]
    exact said_at p l i x (by simpa using h) hx fun j z hz hj => hq (j + 1) z (by simpa using hz) (by omega)
theorem said_none (p : Int) : ∀ (l : List Chr), (∀ (j : Nat) (y : Chr), l[j]? = some y → hits p y.a y.b = false) → said p l = []
  | [], _ => rfl
  | y :: l, h => by
    rw [said, if_neg (by rw [h 0 y rfl]; decide)]
    exact said_none p l fun j z hz => h (j + 1) z (by simpa using hz)

set_option maxRecDepth 100000 in
set_option maxHeartbeats 1000000 in
theorem chars_any (p : Int) (a : Option Addr) (l : List Chr) (c : Nat) (w : World) (hl : l.length ≤ 1048576) (hV : Chrs w a l) :
    Calls Tryz.prog 201 #[.slice a l.length c, .int .i32 p] w fun e w' => ∃ a' c', e = .returned (.slice a' (said p l).length c') ∧ Rs w' a' (said p l) ∧ Below w.heap.size w w' := by
  obtain ⟨rs, t1, p1, n1⟩ := hV
  have hlen : l.length = rs.length := by rw [← p1, List.length_map]
  rw [hlen] at hl ⊢
  have HV := Lib.hid t1
  have HP := Lib.hid p1
  have HN := Lib.hid n1
  clear t1 n1 p1 hlen
  go_enter Tryz.func201, Tryz.ntmps201
  go_wp2
  go_loopw [9] (fun v w' => ∃ (i : Nat), v = .int .i64 i ∧ i ≤ rs.length ∧ Hid (∀ j (y : Raw), rs[j]? = some y → j < i → hits p y.a y.b = false) ∧ Below w.heap.size w w') (fun v _ => rs.length - (intOf v).toNat)
  case atStart => exact ⟨0, rfl, Nat.zero_le _, Lib.hid (fun j y _ h => by omega), Below.refl _ _⟩
  case round =>
    obtain ⟨i, rfl, hi, hok, hb⟩ := hrel
    by_cases hlt : i < rs.length
    · obtain ⟨x, hx⟩ : ∃ x, rs[i]? = some x := ⟨_, List.getElem?_eq_getElem hlt⟩
      rcases HV.out.below hb with h0 | ⟨bk, o, rfl, hbk, hc⟩
      · subst h0; simp at hlt
      obtain ⟨q0, q1, q2⟩ := raws_at (hc i x hx)
      have hb2 := hb.alloc hb.size (.cells #[.int .i32 x.a, .int .i32 x.b, .slice x.ad x.is.length x.cap] 95 (0, 0))
      have hRs := ((HN.out x (List.mem_of_getElem? hx)).below hb2)
      have hat : ∀ (j : Nat) (y : Chr), l[j]? = some y → j < i → hits p y.a y.b = false := fun j y hy hj => by
        rw [← HP.out, List.getElem?_map] at hy
        cases hr : rs[j]? with
        | none => rw [hr] at hy; cases hy
        | some r => rw [hr] at hy; cases hy; exact hok.out j r hr hj
      have hlx : l[i]? = some x.plain := by rw [← HP.out, List.getElem?_map, hx]; rfl
      have HS : Hid (hits p x.a x.b = true → said p l = x.is) := Lib.hid (fun h => said_at p l i x.plain hlx h hat)
      have hnext : hits p x.a x.b = false → ∀ j (y : Raw), rs[j]? = some y → j < i + 1 → hits p y.a y.b = false := fun h j y hy hj => by
        by_cases e : j = i
        · subst e; rw [hx] at hy; cases hy; exact h
        · exact hok.out j y hy (by omega)
      have HNX := Lib.hid hnext
      have HRS := Lib.hid hRs
      clear hc hx hat hlx hnext hRs
      by_cases h1 : x.a ≤ p
      · by_cases h2 : p ≤ x.b
        · have HE := Lib.hid (HS.out (by unfold hits; simp [h1, h2]))
          go_wp2
          go_ret
          exact ⟨x.ad, x.cap, by rw [HE.out]; rfl, by rw [HE.out]; exact HRS.out, hb2⟩
        · have HM := Lib.hid (HNX.out (by unfold hits; simp [h2]))
          go_wp2
          go_roundw
          case rel => exact ⟨i + 1, by go_num, by omega, HM, hb2⟩
          case measure => simp [intOf]; omega
      · have HM := Lib.hid (HNX.out (by unfold hits; simp [h1]))
        go_wp2
        go_roundw
        case rel => exact ⟨i + 1, by go_num, by omega, HM, hb2⟩
        case measure => simp [intOf]; omega
    · have HE : Hid (said p l = []) := Lib.hid (said_none p l fun j y hy => by
        rw [← HP.out, List.getElem?_map] at hy
        cases hr : rs[j]? with
        | none => rw [hr] at hy; cases hy
        | some r => rw [hr] at hy; cases hy; exact hok.out j r hr (by have := (List.getElem?_eq_some_iff.1 hr).1; omega))
      go_wp2
      go_ret
      exact ⟨none, 0, by rw [HE.out]; rfl, .inl HE.out, hb⟩
end Go.Proofs.YtgdambmineeboaaGreatDoor.Chars

/- How long a full decomposition is, plainly: by fuel, as the reference has it; it stands still once there is as much fuel as there are rows. -/
namespace Go.Proofs.YtgdambmineeboaaGreatDoor.Full
open Go.Proofs.YtgdambmineeboaaGreatDoor.Mem Go.Proofs.YtgdambmineeboaaGreatDoor.Chars

def addTo (g : Int → Nat) (n : Nat) (q : Int) : Nat := if n ≤ 18 then n + g q else n
def sumTo (g : Int → Nat) (is : List Int) : Nat := is.foldl (addTo g) 0
def longF (D : List Chr) : Nat → Int → Nat
  | 0, p => if said p D = [] then 1 else 19
  | f + 1, p => if said p D = [] then 1 else if sumTo (longF D f) (said p D) ≤ 18 then sumTo (longF D f) (said p D) else 19

theorem foldl_le (g : Int → Nat) : ∀ (is : List Int) (n : Nat), is.foldl (addTo g) n ≤ 18 → n ≤ 18 ∧ is.foldl (addTo g) n = n + (is.map g).sum ∧ ∀ q ∈ is, g q ≤ 18
  | [], n, h => ⟨h, by simp, by simp⟩
  | q :: is, n, h => by
    rw [List.foldl_cons] at h
    obtain ⟨h1, h2, h3⟩ := foldl_le g is _ h
    unfold addTo at h1
    by_cases hn : n ≤ 18
    · rw [if_pos hn] at h1
      refine ⟨hn, ?_, ?_⟩
      · rw [List.foldl_cons, h2, List.map_cons, List.sum_cons]
        unfold addTo
        rw [if_pos hn]
        omega
      · intro q' hq'
        rcases List.mem_cons.1 hq' with rfl | hq'
        · omega
        · exact h3 q' hq'
    · rw [if_neg hn] at h1
      omega
theorem foldl_eq (g : Int → Nat) : ∀ (is : List Int) (n : Nat), n + (is.map g).sum ≤ 18 → is.foldl (addTo g) n = n + (is.map g).sum
  | [], n, _ => by simp
  | q :: is, n, h => by
    rw [List.map_cons, List.sum_cons] at h ⊢
    have e : addTo g n q = n + g q := by unfold addTo; rw [if_pos (by omega)]
    rw [List.foldl_cons, e, foldl_eq g is _ (by omega)]
    omega
theorem sumTo_le {g : Int → Nat} {is : List Int} (h : sumTo g is ≤ 18) : sumTo g is = (is.map g).sum ∧ ∀ q ∈ is, g q ≤ 18 := by
  obtain ⟨_, h2, h3⟩ := foldl_le g is 0 h
  exact ⟨by unfold sumTo; rw [h2, Nat.zero_add], h3⟩
theorem sumTo_eq {g : Int → Nat} {is : List Int} (h : (is.map g).sum ≤ 18) : sumTo g is = (is.map g).sum := by
  unfold sumTo
  rw [foldl_eq g is 0 (by omega), Nat.zero_add]
theorem sumTo_congr {g g' : Int → Nat} {is : List Int} (h : ∀ q ∈ is, g q = g' q) : sumTo g is = sumTo g' is := by
  unfold sumTo
  have : ∀ (is : List Int) (n : Nat), (∀ q ∈ is, g q = g' q) → is.foldl (addTo g) n = is.foldl (addTo g') n := by
    intro is
    induction is with
    | nil => intro n _; rfl
    | cons q is ih =>
      intro n hq
      rw [List.foldl_cons, List.foldl_cons]
      have e : addTo g n q = addTo g' n q := by unfold addTo; rw [hq q (List.mem_cons_self ..)]
      rw [e]
      exact ih _ fun q' h' => hq q' (List.mem_cons_of_mem _ h')
  exact this is 0 h

theorem longF_nil {D : List Chr} {p : Int} (h : said p D = []) : ∀ f, longF D f p = 1
  | 0 => by rw [longF, if_pos h]
  | f + 1 => by rw [longF, if_pos h]
theorem longF_succ (D : List Chr) (f : Nat) (p : Int) : longF D (f + 1) p = if said p D = [] then 1 else if sumTo (longF D f) (said p D) ≤ 18 then sumTo (longF D f) (said p D) else 19 := by rw [longF]
theorem longF_or (D : List Chr) (f : Nat) (p : Int) : longF D f p ≤ 18 ∨ longF D f p = 19 := by
  cases f with
  | zero => rw [longF]; split <;> simp
  | succ f => rw [longF]; split; · exact .inl (by omega)
              split
              · rename_i h; exact .inl h
              · exact .inr rfl
theorem longF_pos (D : List Chr) : ∀ (f : Nat) (p : Int), longF D f p ≠ 0 := by
  intro f
  induction f with
  | zero => intro p; rw [longF]; split <;> simp
  | succ f ih =>
    intro p
    rw [longF]
    split
    · simp
    · rename_i hne
      split
      · rename_i h
        obtain ⟨e, _⟩ := sumTo_le h
        rw [e]
        cases hs : said p D with
        | nil => exact absurd hs hne
        | cons q l =>
          rw [List.map_cons, List.sum_cons]
          have := ih q
          omega
      · simp
theorem longF_mono (D : List Chr) : ∀ (f : Nat) (p : Int), longF D f p ≤ 18 → longF D (f + 1) p = longF D f p := by
  intro f
  induction f with
  | zero =>
    intro p h
    by_cases hs : said p D = []
    · rw [longF_nil hs, longF_nil hs]
    · rw [longF, if_neg hs] at h; omega
  | succ f ih =>
    intro p h
    by_cases hs : said p D = []
    · rw [longF_nil hs, longF_nil hs]
    · rw [longF, if_neg hs] at h
      by_cases h18 : sumTo (longF D f) (said p D) ≤ 18
      · have hc : sumTo (longF D (f + 1)) (said p D) = sumTo (longF D f) (said p D) := sumTo_congr fun q hq => ih q ((sumTo_le h18).2 q hq)
        rw [longF, if_neg hs, hc, if_pos h18]
        rw [longF, if_neg hs, if_pos h18]
      · rw [if_neg h18] at h; omega
theorem longF_up (D : List Chr) (f : Nat) (p : Int) (h : longF D f p ≤ 18) : ∀ k, longF D (f + k) p = longF D f p
  | 0 => rfl
  | k + 1 => by
    have ih := longF_up D f p h k
    rw [← Nat.add_assoc, longF_mono D (f + k) p (by rw [ih]; exact h), ih]
/-- A code point's full decomposition has so many code points. -/
def Sett (D : List Chr) (p : Int) (n : Nat) : Prop := n ≤ 18 ∧ ∃ f, longF D f p = n
theorem Sett.uniq {D : List Chr} {p : Int} {n m : Nat} (h : Sett D p n) (h' : Sett D p m) : n = m := by
  obtain ⟨h1, f, rfl⟩ := h
  obtain ⟨h2, f', rfl⟩ := h'
  rcases Nat.le_total f f' with h | h
  · obtain ⟨k, rfl⟩ := Nat.exists_eq_add_of_le h
    exact (longF_up D f p h1 k).symm
  · obtain ⟨k, rfl⟩ := Nat.exists_eq_add_of_le h
    exact longF_up D f' p h2 k
theorem Sett.leaf {D : List Chr} {p : Int} (h : said p D = []) : Sett D p 1 := ⟨by omega, 0, longF_nil h 0⟩
theorem sett_list {D : List Chr} : ∀ (is : List Int) (ns : List Nat), is.length = ns.length → (∀ (j : Nat) q n, is[j]? = some q → ns[j]? = some n → Sett D q n) → ∃ f, is.map (longF D f) = ns ∧ ∀ q ∈ is, longF D f q ≤ 18
  | [], [], _, _ => ⟨0, rfl, by simp⟩
  | q :: is, n :: ns, hl, h => by
    obtain ⟨f, h1, h2⟩ := sett_list is ns (by simpa using hl) fun j q n hq hn => h (j + 1) q n (by simpa using hq) (by simpa using hn)
    obtain ⟨h3, f', h4⟩ := h 0 q n rfl rfl
    refine ⟨f + f', ?_, ?_⟩
    · rw [List.map_cons, Nat.add_comm f f', longF_up D f' q (by omega), h4]
      congr 1
      rw [← h1]
      apply List.map_congr_left
      intro q' hq'
      rw [Nat.add_comm f' f, longF_up D f q' (h2 q' hq')]
    · intro q' hq'
      rcases List.mem_cons.1 hq' with rfl | hq'
      · rw [Nat.add_comm f f', longF_up D f' _ (by omega)]; omega
      · rw [longF_up D f q' (h2 q' hq')]; exact h2 q' hq'
  | [], n :: ns, hl, _ => by simp at hl
  | q :: is, [], hl, _ => by simp at hl
theorem Sett.node {D : List Chr} {p : Int} (ns : List Nat) (hne : said p D ≠ []) (hl : (said p D).length = ns.length) (h : ∀ (j : Nat) q n, (said p D)[j]? = some q → ns[j]? = some n → Sett D q n) (hs : ns.sum ≤ 18) : Sett D p ns.sum := by
  obtain ⟨f, h1, _⟩ := sett_list _ ns hl h
  refine ⟨hs, f + 1, ?_⟩
  have e : sumTo (longF D f) (said p D) = ns.sum := by rw [sumTo_eq (by rw [h1]; exact hs), h1]
  rw [longF, if_neg hne, e, if_pos hs]
theorem Sett.split {D : List Chr} {p : Int} {n : Nat} (h : Sett D p n) (hne : said p D ≠ []) : ∃ ns : List Nat, (said p D).length = ns.length ∧ (∀ (j : Nat) q m, (said p D)[j]? = some q → ns[j]? = some m → Sett D q m) ∧ n = ns.sum := by
  obtain ⟨h1, f, rfl⟩ := h
  cases f with
  | zero => rw [longF, if_neg hne] at h1; omega
  | succ f =>
    rw [longF, if_neg hne] at h1 ⊢
    by_cases h18 : sumTo (longF D f) (said p D) ≤ 18
    · rw [if_pos h18]
      obtain ⟨e, hq⟩ := sumTo_le h18
      refine ⟨(said p D).map (longF D f), by simp, ?_, e⟩
      intro j q m hj hm
      rw [List.getElem?_map, hj] at hm
      cases hm
      exact ⟨hq q (List.mem_of_getElem? hj), f, rfl⟩
    · rw [if_neg h18] at h1; omega

/-- A code point leads to another one. -/
inductive Leads (D : List Chr) : Int → Int → Prop
  | one {p q : Int} : q ∈ said p D → Leads D p q
  | more {p q r : Int} : Leads D p q → r ∈ said q D → Leads D p r
theorem leads_down {D : List Chr} {p q : Int} (h : Leads D p q) : ∀ f, longF D f p ≤ 18 → ∃ f', f' < f ∧ longF D f' q ≤ 18 := by
  have step : ∀ (p q : Int), q ∈ said p D → ∀ f, longF D f p ≤ 18 → ∃ f', f' < f ∧ longF D f' q ≤ 18 := by
    intro p q hq f hf
    have hne : said p D ≠ [] := fun e => by rw [e] at hq; cases hq
    cases f with
    | zero => rw [longF, if_neg hne] at hf; omega
    | succ f =>
      rw [longF, if_neg hne] at hf
      by_cases h18 : sumTo (longF D f) (said p D) ≤ 18
      · exact ⟨f, Nat.lt_succ_self f, (sumTo_le h18).2 q hq⟩
      · rw [if_neg h18] at hf; omega
  induction h with
  | one hq => exact step _ _ hq
  | more _ hr ih =>
    intro f hf
    obtain ⟨f', h1, h2⟩ := ih f hf
    obtain ⟨f'', h3, h4⟩ := step _ _ hr f' h2
    exact ⟨f'', by omega, h4⟩
theorem leads_self {D : List Chr} {p : Int} (h : Leads D p p) : ∀ n, ¬ Sett D p n := by
  rintro n ⟨h1, f, hf⟩
  have : ∀ f, longF D f p ≤ 18 → False := by
    intro f
    induction f using Nat.strongRecOn with
    | _ f ih =>
      intro hf
      obtain ⟨f', h2, h3⟩ := leads_down h f hf
      exact ih f' h2 h3
  exact this f (by omega)

theorem filter_eq_of_len {α : Type} (p q : α → Bool) (hpq : ∀ x, p x = true → q x = true) : ∀ l : List α, (l.filter p).length ≤ (l.filter q).length ∧ ((l.filter p).length = (l.filter q).length → ∀ x ∈ l, p x = q x)
  | [] => ⟨Nat.le_refl _, by simp⟩
  | y :: l => by
    obtain ⟨h1, h2⟩ := filter_eq_of_len p q hpq l
    cases hp : p y with
    | true =>
      have hq := hpq y hp
      rw [List.filter_cons_of_pos hp, List.filter_cons_of_pos hq]
      refine ⟨by simpa using h1, fun e x hx => ?_⟩
      rcases List.mem_cons.1 hx with rfl | hx
      · rw [hp, hq]
      · exact h2 (by simpa using e) x hx
    | false =>
      rw [List.filter_cons_of_neg (by rw [hp]; decide)]
      cases hq : q y with
      | true =>
        rw [List.filter_cons_of_pos hq]
        refine ⟨by simp only [List.length_cons]; omega, fun e => by simp only [List.length_cons] at e; omega⟩
      | false =>
        rw [List.filter_cons_of_neg (by rw [hq]; decide)]
        refine ⟨h1, fun e x hx => ?_⟩
        rcases List.mem_cons.1 hx with rfl | hx
        · rw [hp, hq]
        · exact h2 e x hx

theorem said_row {p : Int} : ∀ {D : List Chr}, (∀ x ∈ D, x.a = x.b) → said p D ≠ [] → ∃ x ∈ D, x.a = p
  | [], _, h => absurd rfl h
  | y :: D, hD, h => by
    rw [said] at h
    by_cases hy : hits p y.a y.b
    · refine ⟨y, List.mem_cons_self .., ?_⟩
      have := hD y (List.mem_cons_self ..)
      unfold hits at hy
      simp at hy
      omega
    · rw [if_neg hy] at h
      obtain ⟨x, h1, h2⟩ := said_row (fun x hx => hD x (List.mem_cons_of_mem _ hx)) h
      exact ⟨x, List.mem_cons_of_mem _ h1, h2⟩
theorem longF_stable {D : List Chr} (hD : ∀ x ∈ D, x.a = x.b) : ∃ f, f ≤ D.length ∧ ∀ k p, longF D (f + k) p = longF D f p := by
  have key : ∀ f, (∀ x ∈ D, decide (longF D f x.a ≤ 18) = decide (longF D (f + 1) x.a ≤ 18)) → ∀ k p, longF D (f + k) p = longF D f p := by
    intro f h
    have h1 : ∀ p, longF D (f + 1) p = longF D f p := by
      intro p
      by_cases hs : said p D = []
      · rw [longF_nil hs, longF_nil hs]
      · obtain ⟨x, hx, rfl⟩ := said_row hD hs
        have := h x hx
        rcases longF_or D f x.a with h2 | h2
        · exact longF_mono D f _ h2
        · rcases longF_or D (f + 1) x.a with h3 | h3
          · rw [h2] at this
            simp at this
            omega
          · rw [h2, h3]
    have h2 : ∀ k p, longF D (f + k + 1) p = longF D (f + k) p := by
      intro k
      induction k with
      | zero => exact h1
      | succ k ih =>
        intro p
        have e : sumTo (longF D (f + (k + 1))) (said p D) = sumTo (longF D (f + k)) (said p D) := sumTo_congr fun q _ => ih q
        show longF D ((f + (k + 1)) + 1) p = longF D ((f + k) + 1) p
        rw [longF_succ D (f + (k + 1)), longF_succ D (f + k), e]
    intro k
    induction k with
    | zero => intro p; rfl
    | succ k ih => intro p; rw [← Nat.add_assoc, h2 k p, ih p]
  have count : ∀ m, (∃ f, f ≤ m ∧ ∀ x ∈ D, decide (longF D f x.a ≤ 18) = decide (longF D (f + 1) x.a ≤ 18)) ∨ m + 1 ≤ (D.filter fun x => decide (longF D (m + 1) x.a ≤ 18)).length := by
    intro m
    induction m with
    | zero =>
      obtain ⟨h1, h2⟩ := filter_eq_of_len (fun x : Chr => decide (longF D 0 x.a ≤ 18)) (fun x => decide (longF D (0 + 1) x.a ≤ 18)) (fun x hx => by
        simp only [decide_eq_true_eq] at hx ⊢
        rw [longF_mono D 0 _ hx]; exact hx) D
      by_cases e : (D.filter fun x => decide (longF D 0 x.a ≤ 18)).length = (D.filter fun x => decide (longF D (0 + 1) x.a ≤ 18)).length
      · exact .inl ⟨0, Nat.le_refl _, h2 e⟩
      · exact .inr (by omega)
    | succ m ih =>
      rcases ih with ⟨f, hf, h⟩ | ih
      · exact .inl ⟨f, by omega, h⟩
      · obtain ⟨h1, h2⟩ := filter_eq_of_len (fun x : Chr => decide (longF D (m + 1) x.a ≤ 18)) (fun x => decide (longF D (m + 1 + 1) x.a ≤ 18)) (fun x hx => by
          simp only [decide_eq_true_eq] at hx ⊢
          rw [longF_mono D (m + 1) _ hx]; exact hx) D
        by_cases e : (D.filter fun x => decide (longF D (m + 1) x.a ≤ 18)).length = (D.filter fun x => decide (longF D (m + 1 + 1) x.a ≤ 18)).length
        · exact .inl ⟨m + 1, Nat.le_refl _, h2 e⟩
        · exact .inr (by omega)
  rcases count D.length with ⟨f, hf, h⟩ | h
  · exact ⟨f, hf, key f h⟩
  · have := List.length_filter_le (fun x : Chr => decide (longF D (D.length + 1) x.a ≤ 18)) D
    omega
/-- Where there is as much fuel as there are rows, the answer is the true one. -/
theorem sett_iff {D : List Chr} (hD : ∀ x ∈ D, x.a = x.b) (p : Int) (n : Nat) : Sett D p n ↔ n ≤ 18 ∧ longF D (D.length + 1) p = n := by
  constructor
  · rintro ⟨h1, f, rfl⟩
    refine ⟨h1, ?_⟩
    obtain ⟨f0, h2, h3⟩ := longF_stable hD
    have e1 := longF_up D f p h1 (f0 + (D.length + 1))
    have e2 := h3 (f + (D.length + 1)) p
    have e3 := h3 (D.length + 1 - f0) p
    rw [show f + (f0 + (D.length + 1)) = f0 + (f + (D.length + 1)) from by omega] at e1
    rw [show f0 + (D.length + 1 - f0) = D.length + 1 from by omega] at e3
    rw [e3, ← e2, e1]
  · rintro ⟨h1, h2⟩
    exact ⟨h1, _, h2⟩
end Go.Proofs.YtgdambmineeboaaGreatDoor.Full

/- The walk of the reference's Parts. -/
namespace Go.Proofs.YtgdambmineeboaaGreatDoor.Parts
open Go.RowKit Go.Lib Go.Proofs.YtgdambmineeboaaGreatDoor.Text Go.Proofs.YtgdambmineeboaaGreatDoor.Runes Go.Proofs.YtgdambmineeboaaGreatDoor.Print Go.Proofs.YtgdambmineeboaaGreatDoor.RefNine Go.Proofs.YtgdambmineeboaaGreatDoor.RefPrint Go.Proofs.YtgdambmineeboaaGreatDoor.Format Go.Proofs.YtgdambmineeboaaGreatDoor.Tell Go.Proofs.YtgdambmineeboaaGreatDoor.Given Go.Proofs.YtgdambmineeboaaGreatDoor.Mem Go.Proofs.YtgdambmineeboaaGreatDoor.Book Go.Proofs.YtgdambmineeboaaGreatDoor.Chars

set_option maxRecDepth 100000 in
theorem parts_any (p : Int) (B : Mem.Book) (A : Ads) (w : World) (hs : Small B) (hL : Lies w B A) :
    Calls Tryz.prog 175 #[bookV B A, .int .i32 p] w fun e w' => ∃ a' c', e = .returned (.slice a' (said p B.decomp).length c') ∧ Rs w' a' (said p B.decomp) ∧ Below w.heap.size w w' := by
  have HC := Lib.hid (fun W (hW : Below w.heap.size w W) => chars_any p A.da B.decomp A.dc W hs.d (hL.d.below hW))
  clear hs hL
  unfold bookV
  go_enter Tryz.func175, Tryz.ntmps175
  go_wp2_with fail
  have hb0 : Below w.heap.size w (w.alloc (.cells #[.slice A.na B.names.length A.nc, .slice A.sa B.status.length A.sc, .slice A.ma B.maps.length A.mc, .slice A.ka B.cls.length A.kc, .slice A.da B.decomp.length A.dc, .slice A.xa B.excl.length A.xc, .slice A.ba B.bidi.length A.bc, .slice A.ja B.join.length A.jc, .slice A.qa B.marks.length A.qc, .slice A.ra B.script.length A.rc, .slice A.la B.like.length A.lc] 33 (0, 0))) := (Below.refl _ _).alloc (Nat.le_refl _) _
  refine (HC.out _ hb0).mono ?_
  rintro e w1 ⟨a', c', rfl, hr, hb⟩
  go_wp2_with fail
  go_ret
  exact ⟨a', c', rfl, hr, hb0.trans (hb.mono hb0.size)⟩
end Go.Proofs.YtgdambmineeboaaGreatDoor.Parts

/- The walk of the reference's long. -/
namespace Go.Proofs.YtgdambmineeboaaGreatDoor.Long
open Go.RowKit Go.Lib Go.Proofs.YtgdambmineeboaaGreatDoor.Text Go.Proofs.YtgdambmineeboaaGreatDoor.Runes Go.Proofs.YtgdambmineeboaaGreatDoor.Print Go.Proofs.YtgdambmineeboaaGreatDoor.RefNine Go.Proofs.YtgdambmineeboaaGreatDoor.RefPrint Go.Proofs.YtgdambmineeboaaGreatDoor.Format Go.Proofs.YtgdambmineeboaaGreatDoor.Tell Go.Proofs.YtgdambmineeboaaGreatDoor.Given Go.Proofs.YtgdambmineeboaaGreatDoor.Mem Go.Proofs.YtgdambmineeboaaGreatDoor.Book Go.Proofs.YtgdambmineeboaaGreatDoor.Chars Go.Proofs.YtgdambmineeboaaGreatDoor.Parts Go.Proofs.YtgdambmineeboaaGreatDoor.Full

theorem addTo_bound (g : Int → Nat) (hg : ∀ q, g q ≤ 19) : ∀ (is : List Int) (n : Nat), n ≤ 37 → is.foldl (addTo g) n ≤ 37
  | [], _, h => h
  | q :: is, n, h => by
    rw [List.foldl_cons]
    refine addTo_bound g hg is _ ?_
    unfold addTo
    have := hg q
    split <;> omega
theorem longF_le (D : List Chr) (f : Nat) (p : Int) : longF D f p ≤ 19 := by rcases longF_or D f p with h | h <;> omega
def part (g : Int → Nat) (is : List Int) (k : Nat) : Nat := (is.take k).foldl (addTo g) 0
theorem part_succ (g : Int → Nat) (is : List Int) (k : Nat) (q : Int) (h : is[k]? = some q) : part g is (k + 1) = addTo g (part g is k) q := by
  unfold part
  rw [take_snoc' is k q h, List.foldl_append]
  rfl
theorem part_all (g : Int → Nat) (is : List Int) : part g is is.length = sumTo g is := by
  unfold part sumTo
  rw [List.take_length]
theorem part_le (D : List Chr) (f : Nat) (is : List Int) (k : Nat) : part (longF D f) is k ≤ 37 := addTo_bound _ (longF_le D f) _ 0 (by omega)
theorem said_len (N : Nat) (p : Int) : ∀ (D : List Chr), (∀ x ∈ D, x.is.length ≤ N) → (said p D).length ≤ N
  | [], _ => Nat.zero_le _
  | x :: D, h => by
    rw [said]
    split
    · exact h x (List.mem_cons_self ..)
    · exact said_len N p D fun y hy => h y (List.mem_cons_of_mem _ hy)
def boxCells (B : Mem.Book) (A : Ads) : Obj := .cells #[.slice A.na B.names.length A.nc, .slice A.sa B.status.length A.sc, .slice A.ma B.maps.length A.mc, .slice A.ka B.cls.length A.kc, .slice A.da B.decomp.length A.dc, .slice A.xa B.excl.length A.xc, .slice A.ba B.bidi.length A.bc, .slice A.ja B.join.length A.jc, .slice A.qa B.marks.length A.qc, .slice A.ra B.script.length A.rc, .slice A.la B.like.length A.lc] 33 (0, 0)

set_option maxRecDepth 100000 in
set_option maxHeartbeats 1000000 in
theorem long_any (B : Mem.Book) (A : Ads) (hs : Small B) : ∀ (f : Nat) (p : Int) (lv : Nat) (w : World), lv + f = B.decomp.length + 1 → Lies w B A →
    Calls Tryz.prog 144 #[bookV B A, .int .i32 p, .int .i64 lv] w fun e w' => e = .returned (.int .i64 (longF B.decomp f p : Int)) ∧ Below w.heap.size w w' := by
  intro f
  induction f with
  | zero =>
    intro p lv w hlv hL
    have HP := Lib.hid (fun W (hW : Below w.heap.size w W) => parts_any p B A W hs (hL.below hW))
    have HB0 := Lib.hid ((Below.refl w.heap.size w).alloc (Nat.le_refl _) (boxCells B A))
    unfold boxCells at HB0
    have hd := hs.d
    have hgt : B.decomp.length < lv := by omega
    clear hL
    unfold bookV at *
    go_enter Tryz.func144, Tryz.ntmps144
    by_cases hs0 : said p B.decomp = []
    · have HE : Hid (longF B.decomp 0 p = 1) := Lib.hid (longF_nil hs0 0)
      rw [hs0] at HP
      clear hs0
      go_wp2_with (go_at_call 175; refine (HP.out _ HB0.out).mono ?_; rintro e w1 ⟨a', c', rfl, hr, hb⟩)
      go_ret
      exact ⟨by rw [HE.out]; rfl, HB0.out.trans (hb.mono HB0.out.size)⟩
    · have HE : Hid (longF B.decomp 0 p = 19) := Lib.hid (by rw [longF, if_neg hs0])
      have e0 : (((said p B.decomp).length : Int) == 0) = false := by rw [beq_eq_false_iff_ne]; have := List.length_pos_iff.2 hs0; omega
      generalize said p B.decomp = is at *
      clear hs0
      go_wp2_with (go_at_call 175; refine (HP.out _ HB0.out).mono ?_; rintro e w1 ⟨a', c', rfl, hr, hb⟩; have hbx := Lib.hid ((hb.block w.heap.size (by simp)).trans (heap_alloc_new w _)); have k4 : w1.cell? ⟨w.heap.size, 4, none⟩ = some (.slice A.da B.decomp.length A.dc) := (block_cell (i := 4) hbx.out).trans rfl; have hlt : w.heap.size < w1.heap.size := by have := hb.size; simp at this; omega)
      go_ret
      exact ⟨by rw [HE.out]; rfl, HB0.out.trans (hb.mono HB0.out.size)⟩
  | succ f ih =>
    intro p lv w hlv hL
    have HP := Lib.hid (fun W (hW : Below w.heap.size w W) => parts_any p B A W hs (hL.below hW))
    have HB0 := Lib.hid ((Below.refl w.heap.size w).alloc (Nat.le_refl _) (boxCells B A))
    have HIH := Lib.hid (fun (q : Int) W (hW : Below w.heap.size w W) => ih q (lv + 1) W (by omega) (hL.below hW))
    unfold boxCells at HB0
    have hd := hs.d
    have hlv2 : lv ≤ B.decomp.length := by omega
    have hgt : ¬ B.decomp.length < lv := by omega
    clear hL ih
    unfold bookV at *
    rw [show ((lv + 1 : Nat) : Int) = (lv : Int) + 1 from by omega] at HIH
    go_enter Tryz.func144, Tryz.ntmps144
    by_cases hs0 : said p B.decomp = []
    · have HE : Hid (longF B.decomp (f + 1) p = 1) := Lib.hid (longF_nil hs0 _)
      rw [hs0] at HP
      clear hs0
      go_wp2_with (go_at_call 175; refine (HP.out _ HB0.out).mono ?_; rintro e w1 ⟨a', c', rfl, hr, hb⟩)
      go_ret
      exact ⟨by rw [HE.out]; rfl, HB0.out.trans (hb.mono HB0.out.size)⟩
    · have HE := Lib.hid (longF_succ B.decomp f p)
      rw [if_neg hs0] at HE
      have e0 : (((said p B.decomp).length : Int) == 0) = false := by rw [beq_eq_false_iff_ne]; have := List.length_pos_iff.2 hs0; omega
      have hil := said_len 1048576 p B.decomp hs.di
      generalize said p B.decomp = is at *
      clear hs0
      have HG := Lib.hid (fun k => part_le B.decomp f is k)
      have HPS := Lib.hid (fun k q h => part_succ (longF B.decomp f) is k q h)
      have HPA := Lib.hid (part_all (longF B.decomp f) is)
      have HL19 := Lib.hid (fun q => longF_le B.decomp f q)
      generalize longF B.decomp f = g at *
      go_wp2_with (go_at_call 175; refine (HP.out _ HB0.out).mono ?_; rintro e w1 ⟨a', c', rfl, hr, hb⟩; have hbx := Lib.hid ((hb.block w.heap.size (by simp)).trans (heap_alloc_new w _)); have k4 : w1.cell? ⟨w.heap.size, 4, none⟩ = some (.slice A.da B.decomp.length A.dc) := (block_cell (i := 4) hbx.out).trans rfl; have hlt : w.heap.size < w1.heap.size := by have := hb.size; simp at this; omega)
      have hbW : Below w.heap.size w w1 := HB0.out.trans (hb.mono HB0.out.size)
      clear hb k4
      have hpar : Hid (part g is 0 = 0) := Lib.hid rfl
      go_loopw [8, 24] (fun u v w' => ∃ (k m : Nat), v = .int .i64 k ∧ k ≤ is.length ∧ u = .int .i64 m ∧ Hid (part g is k = m) ∧ Below w.heap.size w w' ∧ Hid (w'.heap[w.heap.size]? = some (.cells #[.slice A.na B.names.length A.nc, .slice A.sa B.status.length A.sc, .slice A.ma B.maps.length A.mc, .slice A.ka B.cls.length A.kc, .slice A.da B.decomp.length A.dc, .slice A.xa B.excl.length A.xc, .slice A.ba B.bidi.length A.bc, .slice A.ja B.join.length A.jc, .slice A.qa B.marks.length A.qc, .slice A.ra B.script.length A.rc, .slice A.la B.like.length A.lc] 33 (0, 0))) ∧ w.heap.size < w'.heap.size ∧ Below w1.heap.size w1 w') (fun _ v _ => is.length - (intOf v).toNat)
      case atStart => exact ⟨0, 0, rfl, Nat.zero_le _, rfl, hpar, hbW, hbx, hlt, Below.refl _ _⟩
      case round =>
        obtain ⟨k, m, rfl, hk, rfl, hm, hb, hx, hlw, hb1w⟩ := hrel
        have hm37 : m ≤ 37 := by rw [← hm.out]; exact HG.out k
        by_cases hkl : k < is.length
        · obtain ⟨q, hq⟩ : ∃ q, is[k]? = some q := ⟨_, List.getElem?_eq_getElem hkl⟩
          rcases hr.below hb1w with h0 | ⟨b1, o1, rfl, hbl, hc1⟩
          · rw [h0] at hkl; simp at hkl
          have q0 := hc1 k q hq
          have HPK := Lib.hid ((HPS.out k q hq).trans (by rw [hm.out]))
          have hg19 := HL19.out q
          have HC := Lib.hid (HIH.out q wr hb)
          clear hq hc1
          have k0 : wr.cell? ⟨w.heap.size, 0, none⟩ = some (.slice A.na B.names.length A.nc) := (block_cell (i := 0) hx.out).trans rfl
          have k1 : wr.cell? ⟨w.heap.size, 1, none⟩ = some (.slice A.sa B.status.length A.sc) := (block_cell (i := 1) hx.out).trans rfl
          have k2 : wr.cell? ⟨w.heap.size, 2, none⟩ = some (.slice A.ma B.maps.length A.mc) := (block_cell (i := 2) hx.out).trans rfl
          have k3 : wr.cell? ⟨w.heap.size, 3, none⟩ = some (.slice A.ka B.cls.length A.kc) := (block_cell (i := 3) hx.out).trans rfl
          have k4 : wr.cell? ⟨w.heap.size, 4, none⟩ = some (.slice A.da B.decomp.length A.dc) := (block_cell (i := 4) hx.out).trans rfl
          have k5 : wr.cell? ⟨w.heap.size, 5, none⟩ = some (.slice A.xa B.excl.length A.xc) := (block_cell (i := 5) hx.out).trans rfl
          have k6 : wr.cell? ⟨w.heap.size, 6, none⟩ = some (.slice A.ba B.bidi.length A.bc) := (block_cell (i := 6) hx.out).trans rfl
          have k7 : wr.cell? ⟨w.heap.size, 7, none⟩ = some (.slice A.ja B.join.length A.jc) := (block_cell (i := 7) hx.out).trans rfl
          have k8 : wr.cell? ⟨w.heap.size, 8, none⟩ = some (.slice A.qa B.marks.length A.qc) := (block_cell (i := 8) hx.out).trans rfl
          have k9 : wr.cell? ⟨w.heap.size, 9, none⟩ = some (.slice A.ra B.script.length A.rc) := (block_cell (i := 9) hx.out).trans rfl
          have k10 : wr.cell? ⟨w.heap.size, 10, none⟩ = some (.slice A.la B.like.length A.lc) := (block_cell (i := 10) hx.out).trans rfl
          by_cases h18 : m ≤ 18
          · have HPK2 : Hid (part g is (k + 1) = m + g q) := Lib.hid (by rw [HPK.out]; unfold addTo; rw [if_pos h18])
            generalize g q = gq at *
            go_wp2_with (go_at_call 144; refine HC.out.mono ?_; rintro e w2 ⟨rfl, hb2⟩)
            go_roundw
            case rel => exact ⟨k + 1, m + gq, by go_num, by omega, by go_num, HPK2, hb.trans (hb2.mono hb.size), Lib.hid ((hb2.block _ hlw).trans hx.out), by have := hb2.size; omega, hb1w.trans (hb2.mono hb1w.size)⟩
            case measure => simp [intOf]; omega
          · have HPK2 : Hid (part g is (k + 1) = m) := Lib.hid (by rw [HPK.out]; unfold addTo; rw [if_neg h18])
            go_wp2_with fail
            go_roundw
            case rel => exact ⟨k + 1, m, by go_num, by omega, rfl, HPK2, hb, hx, hlw, hb1w⟩
            case measure => simp [intOf]; omega
        · obtain rfl : k = is.length := by omega
          have hsm : sumTo g is = m := HPA.out.symm.trans hm.out
          by_cases h18 : m ≤ 18
          · have HF : Hid (longF B.decomp (f + 1) p = m) := Lib.hid (by rw [HE.out, hsm, if_pos h18])
            clear hsm
            go_wp2_with fail
            go_ret
            exact ⟨by rw [HF.out]; rfl, hb⟩
          · have HF : Hid (longF B.decomp (f + 1) p = 19) := Lib.hid (by rw [HE.out, hsm, if_neg h18])
            clear hsm
            go_wp2_with fail
            go_ret
            exact ⟨by rw [HF.out]; rfl, hb⟩
end Go.Proofs.YtgdambmineeboaaGreatDoor.Long
