/- Plain facts (no program in sight): texts cut at a byte; what line.cut tells of a line; a line that was printed is cut into what was printed. -/
import Derived.Test.YtleadeaahlmmiaaGreatDoorPrint
import Derived.Test.YtleadeaahlmmiaaGreatDoorTrim
import Derived.Lib.Split
import Derived.Lib.SlTrimSet
namespace Go.Proofs.YtleadeaahlmmiaaGreatDoor.Split
open Go.Lib Go.Proofs.YtleadeaahlmmiaaGreatDoor.Text Go.Proofs.YtleadeaahlmmiaaGreatDoor.Runes Go.Proofs.YtleadeaahlmmiaaGreatDoor.Print

/-- A text's pieces between a byte. -/
def pieces (c : UInt8) : List UInt8 → List (List UInt8)
  | [] => [[]]
  | b :: l => if b = c then [] :: pieces c l else
    match pieces c l with
    | [] => [[b]]
    | h :: t => (b :: h) :: t

theorem pieces_none (c : UInt8) : ∀ (l : List UInt8), c ∉ l → pieces c l = [l]
  | [], _ => rfl
  | b :: l, h => by
    rw [pieces, if_neg (fun e => h (by rw [e]; exact List.mem_cons_self ..)), pieces_none c l (fun hc => h (List.mem_cons_of_mem _ hc))]
theorem pieces_hit (c : UInt8) (y : List UInt8) : ∀ (x : List UInt8), c ∉ x → pieces c (x ++ c :: y) = x :: pieces c y
  | [], _ => by rw [List.nil_append, pieces, if_pos rfl]
  | b :: x, h => by
    rw [List.cons_append, pieces, if_neg (fun e => h (by rw [e]; exact List.mem_cons_self ..)), pieces_hit c y x (fun hc => h (List.mem_cons_of_mem _ hc))]

theorem byte_none (c : UInt8) : ∀ (l : List UInt8), c ∉ l → Lib.indexByte l c = -1
  | [], _ => rfl
  | b :: l, h => by
    have hb : (b == c) = false := by rw [beq_eq_false_iff_ne]; exact fun e => h (by rw [e]; exact List.mem_cons_self ..)
    rw [Lib.indexByte, hb, byte_none c l (fun hc => h (List.mem_cons_of_mem _ hc))]
    rfl
theorem byte_hit (c : UInt8) (y : List UInt8) : ∀ (x : List UInt8), c ∉ x → Lib.indexByte (x ++ c :: y) c = x.length
  | [], _ => by rw [List.nil_append, Lib.indexByte]; simp
  | b :: x, h => by
    have hb : (b == c) = false := by rw [beq_eq_false_iff_ne]; exact fun e => h (by rw [e]; exact List.mem_cons_self ..)
    rw [List.cons_append, Lib.indexByte, hb, byte_hit c y x (fun hc => h (List.mem_cons_of_mem _ hc))]
    have : ((x.length : Int) == -1) = false := by rw [beq_eq_false_iff_ne]; omega
    rw [this]
    simp
theorem idx_none {c : UInt8} {l : List UInt8} (h : c ∉ l) : Lib.index l [c] = -1 := (Lib.index_one l c).trans (byte_none c l h)
theorem idx_hit {c : UInt8} {x : List UInt8} (y : List UInt8) (h : c ∉ x) : Lib.index (x ++ c :: y) [c] = x.length := (Lib.index_one _ c).trans (byte_hit c y x h)

theorem first_cut (c : UInt8) : ∀ (l : List UInt8), c ∉ l ∨ ∃ x y, l = x ++ c :: y ∧ c ∉ x
  | [] => .inl (by simp)
  | b :: l => by
    by_cases hb : b = c
    · exact .inr ⟨[], l, by rw [hb]; rfl, by simp⟩
    · rcases first_cut c l with h | ⟨x, y, e, h⟩
      · exact .inl (by simp [h, Ne.symm hb])
      · exact .inr ⟨b :: x, y, by rw [e]; rfl, by simp [h, Ne.symm hb]⟩

theorem cut_none {c : UInt8} {l : List UInt8} (h : c ∉ l) : Lib.cut l [c] = (l, [], false) := by
  unfold Lib.cut
  rw [idx_none h, if_neg (by decide)]
theorem cut_hit {c : UInt8} {x : List UInt8} (y : List UInt8) (h : c ∉ x) : Lib.cut (x ++ c :: y) [c] = (x, y, true) := by
  unfold Lib.cut
  rw [idx_hit y h, if_pos (by omega)]
  simp

/-- What strings.Split tells at one byte. -/
theorem split_pieces (c : UInt8) : ∀ (n : Nat) (l : List UInt8), l.length ≤ n → Lib.splitK [c] 0 (Lib.count l [c]) l = pieces c l := by
  intro n
  induction n with
  | zero =>
    intro l hl
    obtain rfl : l = [] := List.length_eq_zero_iff.1 (by omega)
    rw [Lib.count_miss (idx_none (by simp))]
    rfl
  | succ n ih =>
    intro l hl
    rcases first_cut c l with h | ⟨x, y, rfl, h⟩
    · rw [Lib.count_miss (idx_none h), pieces_none c l h]
      rfl
    · rw [Lib.count_hit (by simp) (idx_hit y h), pieces_hit c y x h]
      have hd : (x ++ c :: y).drop (x.length + [c].length) = y := by simp
      rw [hd, Nat.add_comm, Lib.splitK, idx_hit y h]
      have e1 : ((x.length : Int) == -1) = false := by rw [beq_eq_false_iff_ne]; omega
      rw [e1]
      simp only [Bool.false_eq_true, if_false, Int.toNat_natCast, Nat.add_zero]
      rw [hd, ih y (by simp at hl; omega)]
      simp
theorem splitB_pieces (c : UInt8) (s : ByteArray) : (Lib.splitB ⟨#[c]⟩ 0 (Lib.countB s ⟨#[c]⟩) s).map (·.data.toList) = pieces c s.data.toList := by
  rw [Lib.splitB_data]
  exact split_pieces c _ _ (Nat.le_refl _)
theorem splitB_length (c : UInt8) (s : ByteArray) : (Lib.splitB ⟨#[c]⟩ 0 (Lib.countB s ⟨#[c]⟩) s).length = (pieces c s.data.toList).length := by
  rw [← splitB_pieces c s, List.length_map]
theorem count_pieces (c : UInt8) : ∀ (n : Nat) (l : List UInt8), l.length ≤ n → Lib.count l [c] + 1 = (pieces c l).length := by
  intro n
  induction n with
  | zero =>
    intro l hl
    obtain rfl : l = [] := List.length_eq_zero_iff.1 (by omega)
    rw [Lib.count_miss (idx_none (by simp))]
    rfl
  | succ n ih =>
    intro l hl
    rcases first_cut c l with h | ⟨x, y, rfl, h⟩
    · rw [Lib.count_miss (idx_none h), pieces_none c l h]
      rfl
    · rw [Lib.count_hit (by simp) (idx_hit y h), pieces_hit c y x h]
      have hd : (x ++ c :: y).drop (x.length + [c].length) = y := by simp
      rw [hd, Nat.add_comm, List.length_cons, ← ih y (by simp at hl; omega)]
      omega
theorem pieces_le (c : UInt8) : ∀ (l : List UInt8), (pieces c l).length ≤ l.length + 1 := fun l => by
  induction l with
  | nil => simp [pieces]
  | cons b l ih =>
    rw [pieces]
    split
    · simp; omega
    · split
      · simp
      · rename_i h t e; rw [e] at ih; simp at ih ⊢; omega
theorem pieces_size (c : UInt8) : ∀ (l : List UInt8), ∀ p ∈ pieces c l, p.length ≤ l.length := fun l => by
  induction l with
  | nil => intro p hp; simp [pieces] at hp; simp [hp]
  | cons b l ih =>
    intro p hp
    rw [pieces] at hp
    split at hp
    · rcases List.mem_cons.1 hp with rfl | hp
      · simp
      · have := ih p hp; simp; omega
    · split at hp
      · simp at hp; simp [hp]
      · rename_i h t e
        rcases List.mem_cons.1 hp with rfl | hp
        · have := ih h (by rw [e]; exact List.mem_cons_self ..); simp; omega
        · have := ih p (by rw [e]; exact List.mem_cons_of_mem _ hp); simp; omega
theorem pieces_ne (c : UInt8) (l : List UInt8) : pieces c l ≠ [] := by
  cases l with
  | nil => simp [pieces]
  | cons b l =>
    rw [pieces]
    split
    · simp
    · split <;> simp

/-! ### ends -/
theorem while_all {p : UInt8 → Bool} {a l : List UInt8} (h : ∀ x ∈ a, p x = true) : (a ++ l).dropWhile p = l.dropWhile p := by
  induction a with
  | nil => rfl
  | cons x a ih =>
    rw [List.cons_append, List.dropWhile_cons_of_pos (h x (List.mem_cons_self ..)), ih fun y hy => h y (List.mem_cons_of_mem _ hy)]
theorem while_head {p : UInt8 → Bool} {l : List UInt8} (h : ∀ x, l.head? = some x → p x = false) : l.dropWhile p = l := by
  cases l with
  | nil => rfl
  | cons x l => rw [List.dropWhile_cons_of_neg (by rw [h x rfl]; decide)]

def Ends (set l : List UInt8) : Prop := (∀ x, l.head? = some x → set.contains x = false) ∧ (∀ x, l.reverse.head? = some x → set.contains x = false)

theorem while_id {p : UInt8 → Bool} {l : List UInt8} (h : (l.dropWhile p).length = l.length) : ∀ x, l.head? = some x → p x = false := by
  cases l with
  | nil => intro x hx; cases hx
  | cons y l =>
    intro x hx
    cases hx
    cases hp : p y with
    | false => rfl
    | true =>
      rw [List.dropWhile_cons_of_pos hp] at h
      have := (List.dropWhile_sublist p (l := l)).length_le
      simp at h
      omega
theorem ends_of_btrim {set l : List UInt8} (h : btrim set l = l) : Ends set l := by
  have h1 := ltrim_le set l
  have h2 := rtrim_le set (ltrim set l)
  have h3 : (rtrim set (ltrim set l)).length = l.length := congrArg List.length h
  have hl : (ltrim set l).length = l.length := by omega
  have e1 : ltrim set l = l := while_head (while_id hl)
  refine ⟨while_id hl, ?_⟩
  have h4 : rtrim set l = l := by
    have h5 : rtrim set (ltrim set l) = l := h
    rwa [e1] at h5
  refine while_id ?_
  have h6 := congrArg List.length h4
  unfold rtrim ltrim at h6
  rw [List.length_reverse] at h6
  rw [List.length_reverse]
  exact h6

theorem trim_pad {set a l b : List UInt8} (he : Ends set l) (ha : ∀ x ∈ a, set.contains x = true) (hb : ∀ x ∈ b, set.contains x = true) : Lib.trimS (a ++ (l ++ b)) set = l := by
  have hr : Lib.trimRightS (a ++ (l ++ b)) set = if l = [] then [] else a ++ l := by
    unfold Lib.trimRightS
    rw [List.reverse_append, List.reverse_append, List.append_assoc, while_all (fun x hx => hb x (List.mem_reverse.1 hx))]
    by_cases h0 : l = []
    · subst h0
      have e := while_all (l := []) (a := a.reverse) (p := fun x => set.contains x) (fun x hx => ha x (List.mem_reverse.1 hx))
      rw [List.append_nil] at e
      rw [if_pos rfl, List.reverse_nil, List.nil_append, e]
      rfl
    · rw [if_neg h0, while_head (fun x hx => he.2 x (by
        cases hh : l.reverse with
        | nil => exact absurd (List.reverse_eq_nil_iff.1 hh) h0
        | cons y r => rw [hh] at hx; simpa using hx))]
      simp
  unfold Lib.trimS
  rw [hr]
  unfold Lib.trimLeftS
  by_cases h0 : l = []
  · rw [if_pos h0, h0]; rfl
  · rw [if_neg h0, while_all ha, while_head he.1]

/-! ### what line.cut tells -/
def body (b : List UInt8) : List UInt8 := Lib.trimSuffix b [13]
def lineNote (b : List UInt8) : List UInt8 := Lib.trimS (Lib.cut (body b) [35]).2.1 [32, 9]
def lineFields (b : List UInt8) : List (List UInt8) := (pieces 59 (Lib.cut (body b) [35]).1).map fun p => Lib.trimS p [32, 9]
def lineSome (b : List UInt8) : Bool := decide (1 < (lineFields b).length) || !((lineFields b).headD []).isEmpty

theorem body_none {b : List UInt8} (h : (13 : UInt8) ∉ b) : body b = b := by
  unfold body Lib.trimSuffix
  have e : Lib.hasSuffix b [13] = false := by
    cases hs : Lib.hasSuffix b [13] with
    | false => rfl
    | true =>
      have := (List.isSuffixOf_iff_suffix.1 hs).mem (List.mem_singleton_self (13 : UInt8))
      exact absurd this h
  rw [e]
  rfl

/-- The fields of a line that was printed, with blanks ahead and behind. -/
theorem fields_back (tl : List UInt8) (htl : ∀ x ∈ tl, ([32, 9] : List UInt8).contains x = true) : ∀ (fs : List (List UInt8)) (pre : List UInt8), fs ≠ [] → (∀ x ∈ pre, ([32, 9] : List UInt8).contains x = true) →
    (∀ f ∈ fs, Ends [32, 9] f ∧ (59 : UInt8) ∉ f) → (pieces 59 (pre ++ (Lib.join fs [59, 32] ++ tl))).map (fun p => Lib.trimS p [32, 9]) = fs
  | [], _, h, _, _ => absurd rfl h
  | [f], pre, _, hp, hf => by
    obtain ⟨he, hn⟩ := hf f (List.mem_cons_self ..)
    have e : Lib.join [f] [59, 32] = f := by simp [Lib.join]
    have hno : (59 : UInt8) ∉ pre ++ (f ++ tl) := by
      intro hm
      rcases List.mem_append.1 hm with h | h
      · exact absurd (hp _ h) (by decide)
      · rcases List.mem_append.1 h with h | h
        · exact hn h
        · exact absurd (htl _ h) (by decide)
    rw [e, pieces_none 59 _ hno, List.map_cons, List.map_nil, trim_pad he hp htl]
  | f :: g :: r, pre, _, hp, hf => by
    obtain ⟨he, hn⟩ := hf f (List.mem_cons_self ..)
    have e : pre ++ (Lib.join (f :: g :: r) [59, 32] ++ tl) = (pre ++ f) ++ 59 :: ([32] ++ (Lib.join (g :: r) [59, 32] ++ tl)) := by
      have : Lib.join (f :: g :: r) [59, 32] = f ++ [59, 32] ++ Lib.join (g :: r) [59, 32] := by simp [Lib.join]
      rw [this]
      simp
    have hno : (59 : UInt8) ∉ pre ++ f := by
      intro hm
      rcases List.mem_append.1 hm with h | h
      · exact absurd (hp _ h) (by decide)
      · exact hn h
    have et : Lib.trimS (pre ++ f) [32, 9] = f := by
      have := trim_pad (b := []) he hp (fun x hx => by cases hx)
      rwa [List.append_nil] at this
    rw [e, pieces_hit 59 _ _ hno, List.map_cons, et, fields_back tl htl (g :: r) [32] (by simp) (fun x hx => by simp at hx; subst hx; decide) (fun q hq => hf q (List.mem_cons_of_mem _ hq))]

theorem join_free {c : UInt8} (h1 : c ≠ 59) (h2 : c ≠ 32) : ∀ (fs : List (List UInt8)), (∀ f ∈ fs, c ∉ f) → c ∉ Lib.join fs [59, 32]
  | [], _ => by simp [Lib.join]
  | [f], h => by have := h f (List.mem_cons_self ..); simpa [Lib.join] using this
  | f :: g :: r, h => by
    have e : Lib.join (f :: g :: r) [59, 32] = f ++ [59, 32] ++ Lib.join (g :: r) [59, 32] := by simp [Lib.join]
    have := join_free h1 h2 (g :: r) (fun q hq => h q (List.mem_cons_of_mem _ hq))
    have := h f (List.mem_cons_self ..)
    rw [e]
    simp [*]
theorem free_of_hasL {l set : List UInt8} (h : hasL l set = false) (c : UInt8) (hc : set.contains c = true) : c ∉ l := fun hm => by
  have := List.any_eq_false.1 h c hm
  exact this hc

/-- What line.Print's text is without its end. -/
def oneLine (l : List ByteArray) (note : ByteArray) : List UInt8 := Lib.join (l.map (·.data.toList)) [59, 32] ++ noteTail note

theorem plain_parts {without s : List UInt8} (h : plainB without s = true) : hasL s without = false ∧ Ends [32, 9] s := by
  unfold plainB at h
  rw [Bool.and_eq_true, Bool.not_eq_true'] at h
  exact ⟨h.1, ends_of_btrim (eq_of_beq h.2)⟩

theorem printed (l : List ByteArray) (note : ByteArray) (hh : badHead l note = false) (hf : badField l = false) :
    (10 : UInt8) ∉ oneLine l note ∧ lineFields (oneLine l note) = l.map (·.data.toList) ∧ lineNote (oneLine l note) = note.data.toList ∧ lineSome (oneLine l note) = true := by
  unfold badHead at hh
  rw [Bool.or_eq_false_iff, Bool.or_eq_false_iff, Bool.not_eq_false'] at hh
  obtain ⟨⟨h0, h1⟩, hn⟩ := hh
  obtain ⟨hn1, hn2⟩ := plain_parts hn
  have hfs : ∀ f ∈ l.map (·.data.toList), hasL f [10, 13, 59, 35] = false ∧ Ends [32, 9] f := by
    intro f hm
    obtain ⟨s, hs, rfl⟩ := List.mem_map.1 hm
    have := List.any_eq_false.1 hf s hs
    exact plain_parts (by simpa using this)
  have hne : l.map (·.data.toList) ≠ [] := by
    intro e
    have : l = [] := List.map_eq_nil_iff.1 e
    subst this
    simp at h0
  have hfree : ∀ c, ([10, 13, 59, 35] : List UInt8).contains c = true → c ≠ 59 → c ∉ Lib.join (l.map (·.data.toList)) [59, 32] := fun c hc h59 =>
    join_free h59 (by rintro rfl; exact absurd hc (by decide)) _ fun f hm => free_of_hasL (hfs f hm).1 c hc
  have hnfree : ∀ c, ([10, 13] : List UInt8).contains c = true → c ∉ noteTail note := by
    intro c hc hm
    unfold noteTail at hm
    split at hm
    · cases hm
    · rcases List.mem_append.1 hm with h | h
      · have h32 : c = 32 ∨ c = 35 ∨ c = 32 := by simpa using h
        rcases h32 with rfl | rfl | rfl <;> exact absurd hc (by decide)
      · exact free_of_hasL hn1 c hc h
  have h10 : (10 : UInt8) ∉ oneLine l note := by
    intro hm
    rcases List.mem_append.1 hm with h | h
    · exact hfree 10 (by decide) (by decide) h
    · exact hnfree 10 (by decide) h
  have h13 : (13 : UInt8) ∉ oneLine l note := by
    intro hm
    rcases List.mem_append.1 hm with h | h
    · exact hfree 13 (by decide) (by decide) h
    · exact hnfree 13 (by decide) h
  have hb := body_none h13
  have hcut : ∃ tl n, Lib.cut (oneLine l note) [35] = (Lib.join (l.map (·.data.toList)) [59, 32] ++ tl, n, !note.data.toList.isEmpty) ∧ (∀ x ∈ tl, ([32, 9] : List UInt8).contains x = true) ∧ Lib.trimS n [32, 9] = note.data.toList := by
    by_cases h : note.data.toList = []
    · refine ⟨[], [], ?_, (fun x hx => by cases hx), by rw [h]; rfl⟩
      unfold oneLine noteTail
      rw [if_pos h, List.append_nil, cut_none (hfree 35 (by decide) (by decide)), h]
      rfl
    · refine ⟨[32], [32] ++ note.data.toList, ?_, (fun x hx => by simp at hx; subst hx; decide), ?_⟩
      · unfold oneLine noteTail
        rw [if_neg h]
        have e : Lib.join (l.map (·.data.toList)) [59, 32] ++ ([32, 35, 32] ++ note.data.toList) = (Lib.join (l.map (·.data.toList)) [59, 32] ++ [32]) ++ 35 :: ([32] ++ note.data.toList) := by simp
        rw [e, cut_hit _ (by
          intro hm
          rcases List.mem_append.1 hm with h' | h'
          · exact hfree 35 (by decide) (by decide) h'
          · simp at h'), show note.data.toList.isEmpty = false from List.isEmpty_eq_false_iff.2 h]
        rfl
      · have := trim_pad (b := []) (a := [32]) hn2 (fun x hx => by simp at hx; subst hx; decide) (fun x hx => by cases hx)
        rwa [List.append_nil] at this
  obtain ⟨tl, n, hc, htl, hnote⟩ := hcut
  have hfields : lineFields (oneLine l note) = l.map (·.data.toList) := by
    unfold lineFields
    rw [hb, hc]
    exact fields_back tl htl _ [] hne (fun x hx => by cases hx) fun f hm => ⟨(hfs f hm).2, free_of_hasL (hfs f hm).1 59 (by decide)⟩
  refine ⟨h10, hfields, ?_, ?_⟩
  · unfold lineNote
    rw [hb, hc]
    exact hnote
  · unfold lineSome
    rw [hfields, List.length_map]
    cases l with
    | nil => exact absurd rfl hne
    | cons x r =>
      cases r with
      | nil =>
        have : (x.data.toList == []) = false := by simpa using h1
        rw [beq_eq_false_iff_ne] at this
        simp only [List.map_cons, List.map_nil, List.headD_cons]
        rw [show x.data.toList.isEmpty = false from List.isEmpty_eq_false_iff.2 this]
        rfl
      | cons y r => simp
end Go.Proofs.YtleadeaahlmmiaaGreatDoor.Split
