/- The walk of the reference's lists: rows of code points, copied. -/
import Derived.Test.YtgdambmineeboaaGreatDoorBOf
import Derived.Deep.RegionLaw
set_option linter.unusedSimpArgs false
set_option linter.unusedVariables false
namespace Go.Proofs.YtgdambmineeboaaGreatDoor.Lists
open Go.RowKit Go.Lib Go.Proofs.YtgdambmineeboaaGreatDoor.Text Go.Proofs.YtgdambmineeboaaGreatDoor.Runes Go.Proofs.YtgdambmineeboaaGreatDoor.Print Go.Proofs.YtgdambmineeboaaGreatDoor.RefNine Go.Proofs.YtgdambmineeboaaGreatDoor.RefPrint Go.Proofs.YtgdambmineeboaaGreatDoor.Format Go.Proofs.YtgdambmineeboaaGreatDoor.Tell Go.Proofs.YtgdambmineeboaaGreatDoor.Given Go.Proofs.YtgdambmineeboaaGreatDoor.Mem Go.Proofs.YtgdambmineeboaaGreatDoor.Of

theorem info_rune : (Tryz.prog.info? 21).map (fun i => (i.zero, i.size, i.bytes)) = some (some (.int .i32 0), 1, 4) := by kernel_rfl
def runeV (x : Int) : Value := .int .i32 x

/-- A row's own list, in a block of its own. -/
def Inner (w : World) (r : Raw) : Prop :=
  r.is = [] ∨ ∃ g cur, r.ad = some ⟨g, 0, none⟩ ∧ w.heap[g]? = some (.cells cur 21 (0, 0)) ∧ ∀ (j : Nat) x, r.is[j]? = some x → cur[j]? = some (.int .i32 x)
theorem Inner.rs {w : World} {r : Raw} (h : Inner w r) : Rs w r.ad r.is := by
  rcases h with h | ⟨g, cur, h1, h2, h3⟩
  · exact .inl h
  · exact .inr ⟨g, 0, h1, block_lt h2, fun j x hx => by rw [Nat.zero_add]; exact (block_cell h2).trans (h3 j x hx)⟩
theorem Inner.below {w w' : World} {r : Raw} (h : Inner w r) {n : Nat} (hb : Below n w w') (hn : n = w.heap.size) : Inner w' r := by
  subst hn
  rcases h with h | ⟨g, cur, h1, h2, h3⟩
  · exact .inl h
  · exact .inr ⟨g, cur, h1, (hb.block g (block_lt h2)).trans h2, h3⟩
/-- It stays where a row of another kind of elements grows. -/
theorem Inner.grown {w w' : World} {r : Raw} (h : Inner w r) {row : Option Nat} (hg : w.grownBy w' row) {t : TypeId} (ht : t ≠ 21) (hr : ∀ k, row = some k → ∃ cur, w.heap[k]? = some (.cells cur t (0, 0))) : Inner w' r := by
  rcases h with h | ⟨g, cur, h1, h2, h3⟩
  · exact .inl h
  · refine .inr ⟨g, cur, h1, grown_block hg h2 (fun e => ?_), h3⟩
    obtain ⟨cur', h'⟩ := hr g e.symm
    rw [h2] at h'
    cases h'
    exact ht rfl
theorem own_type {w : World} {base : Nat} {e : TypeId} {size n : Nat} {v : Value} {xs : List Value} (h : w.ownsRow base e size v n xs) : ∀ k, v.ownBlock = some k → ∃ cur, w.heap[k]? = some (.cells cur e (0, 0)) := by
  intro k hk
  rcases h.2 with ⟨rfl, _⟩ | ⟨g, cap, cur, rfl, _, hg, _⟩
  · simp [Value.ownBlock] at hk
  · simp [Value.ownBlock] at hk
    subst hk
    exact ⟨cur, hg⟩
theorem inner_of_own {w : World} {base g cap : Nat} {a b : Int} {is : List Int} (h : w.ownsRow base 21 1 (.slice (some ⟨g, 0, none⟩) is.length cap) is.length (is.map runeV)) : Inner w ⟨a, b, some ⟨g, 0, none⟩, cap, is⟩ := by
  obtain ⟨cur, hc⟩ := own_type h g rfl
  refine .inr ⟨g, cur, rfl, hc, fun j x hx => ?_⟩
  have := h.cells (g := g) rfl j (.int .i32 x) (by rw [List.getElem?_map, hx]; rfl)
  rw [Lib.add_plain, Nat.zero_add, block_cell hc] at this
  exact this

set_option maxRecDepth 100000 in
set_option maxHeartbeats 4000000 in
theorem lists_any (a : Option Addr) (l : List Chr) (c : Nat) (w : World) (hl : l.length ≤ 1048576) (hz : ∀ x ∈ l, x.is.length ≤ 1048576) (hV : Chrs w a l) :
    Calls Tryz.prog 14 #[.slice a l.length c] w fun e w' => ∃ a' c', e = .returned (.slice a' l.length c') ∧ Chrs w' a' l ∧ Below w.heap.size w w' ∧ l.length ≤ c' := by
  obtain ⟨rs, htab, hpl, hin⟩ := hV
  have hlen : l.length = rs.length := by rw [← hpl, List.length_map]
  rw [hlen]
  have HV := Lib.hid htab
  have HI := Lib.hid hin
  have HZ : Hid (∀ r ∈ rs, r.is.length ≤ 1048576) := Lib.hid fun r hr => hz r.plain (by rw [← hpl]; exact List.mem_map.2 ⟨r, hr, rfl⟩)
  have HPL := Lib.hid hpl
  rw [hlen] at hl
  clear htab hin hz hpl hlen
  obtain ⟨i0, hi, hz0, hz1, hz2⟩ := info_parts info_chr
  obtain ⟨i1, hj, hj0, hj1, hj2⟩ := info_parts info_rune
  go_enter Tryz.func14, Tryz.ntmps14
  go_wp2
  go_loopw [3, 9] (fun u v w' => ∃ (i : Nat) (qs : List Raw), v = .int .i64 i ∧ i ≤ rs.length ∧ qs.length = i ∧ Hid (qs.map Raw.plain = (rs.take i).map Raw.plain) ∧ w'.ownsRow w.heap.size 95 3 u i (flat Mem.encR qs) ∧ Hid (∀ q ∈ qs, Inner w' q) ∧ Below w.heap.size w w') (fun _ v _ => rs.length - (intOf v).toNat)
  case atStart => exact ⟨0, [], rfl, Nat.zero_le _, rfl, Lib.hid rfl, by
    have := World.ownsRow_made (base := w.heap.size) (e := 95) (size := 3) w #[] 0 (Nat.le_refl _) (by decide) rfl
    exact this, Lib.hid (fun q hq => by cases hq), (Below.refl _ _).alloc (Nat.le_refl _) _⟩
  case round =>
    obtain ⟨i, qs, rfl, hi', hql, hqp, hown, hin, hb⟩ := hrel
    by_cases hlt : i < rs.length
    · obtain ⟨x, hx⟩ : ∃ x, rs[i]? = some x := ⟨_, List.getElem?_eq_getElem hlt⟩
      rcases HV.out.below hb with h0 | ⟨bk, o, rfl, hbk, hc⟩
      · subst h0; simp at hlt
      obtain ⟨q0, q1, q2⟩ := raws_at (hc i x hx)
      have hxl := HZ.out x (List.mem_of_getElem? hx)
      have hRx := (HI.out x (List.mem_of_getElem? hx)).below hb
      obtain ⟨xa, xb, xd, xc, xi⟩ := x
      dsimp only at q0 q1 q2 hxl hRx
      have HB3 := Lib.hid hb
      have hwz := hb.size
      have hsz : wr.heap.size + 2 ≤ ((wr.alloc (.cells #[.int .i32 xa, .int .i32 xb, .slice xd xi.length xc] 68 (0, 0))).alloc (.cells #[] 21 (0, 0))).drew.heap.size := by simp
      have hbW : Below wr.heap.size wr ((wr.alloc (.cells #[.int .i32 xa, .int .i32 xb, .slice xd xi.length xc] 68 (0, 0))).alloc (.cells #[] 21 (0, 0))).drew :=
        (((Below.refl _ _).alloc (Nat.le_refl _) _).alloc (by simp) _).drew
      have hownW := own_below hown hbW
      have hmade : ((wr.alloc (.cells #[.int .i32 xa, .int .i32 xb, .slice xd xi.length xc] 68 (0, 0))).alloc (.cells #[] 21 (0, 0))).drew.ownsRow (wr.heap.size + 1) 21 1 (.slice (some ⟨wr.heap.size + 1, 0, none⟩) 0 0) 0 [] := by
        have := (World.ownsRow_made (base := wr.heap.size + 1) (e := 21) (size := 1) (wr.alloc (.cells #[.int .i32 xa, .int .i32 xb, .slice xd xi.length xc] 68 (0, 0))) #[] 0 (by simp) (by decide) rfl).drew
        simpa using this
      have hou : ∀ k, u3.ownBlock = some k → k < wr.heap.size := fun k hk => (hown.lt k hk).2
      by_cases hx0 : xi = []
      · subst hx0
        have HIN := Lib.hid hin.out
        clear hin hc hb hRx hownW hmade hbW hsz
        rcases xd with _ | ad
        · have HOWN2 := Lib.hid (own_below hown ((((Below.refl wr.heap.size wr).alloc (Nat.le_refl _) (.cells #[.int .i32 xa, .int .i32 xb, .slice none 0 xc] 68 (0, 0))).alloc (by simp) (.cells #[] 21 (0, 0))).alloc (by simp; omega) (.cells #[.int .i32 xa, .int .i32 xb, .slice (some ⟨wr.heap.size + 1, 0, none⟩) 0 0] 95 (0, 0))).drew)
          have hblk : (((wr.alloc (.cells #[.int .i32 xa, .int .i32 xb, .slice none 0 xc] 68 (0, 0))).alloc (.cells #[] 21 (0, 0))).alloc (.cells #[.int .i32 xa, .int .i32 xb, .slice (some ⟨wr.heap.size + 1, 0, none⟩) 0 0] 95 (0, 0))).drew.heap[wr.heap.size + 2]? = some (.cells #[.int .i32 xa, .int .i32 xb, .slice (some ⟨wr.heap.size + 1, 0, none⟩) 0 0] 95 (0, 0)) := by
            have := heap_alloc_new ((wr.alloc (.cells #[.int .i32 xa, .int .i32 xb, .slice none 0 xc] 68 (0, 0))).alloc (.cells #[] 21 (0, 0))) (.cells #[.int .i32 xa, .int .i32 xb, .slice (some ⟨wr.heap.size + 1, 0, none⟩) 0 0] 95 (0, 0))
            rw [show ((wr.alloc (.cells #[.int .i32 xa, .int .i32 xb, .slice none 0 xc] 68 (0, 0))).alloc (.cells #[] 21 (0, 0))).heap.size = wr.heap.size + 2 from by simp] at this
            exact this
          have HNEW2 := Lib.hid (World.news_of_block hblk)
          have hbW2 := Lib.hid (((((Below.refl wr.heap.size wr).alloc (Nat.le_refl _) (.cells #[.int .i32 xa, .int .i32 xb, .slice none 0 xc] 68 (0, 0))).alloc (by simp) (.cells #[] 21 (0, 0))).alloc (by simp; omega) (.cells #[.int .i32 xa, .int .i32 xb, .slice (some ⟨wr.heap.size + 1, 0, none⟩) 0 0] 95 (0, 0))).drew)
          clear hown hblk
          go_wp2_with fail
          go_region_held3 (fun w' => w'.cell? ⟨wr.heap.size, 0, none⟩ = some (.int .i32 xa) ∧ w'.cell? ⟨wr.heap.size, 1, none⟩ = some (.int .i32 xb) ∧ w'.cell? ⟨wr.heap.size, 2, none⟩ = some (.slice none 0 xc))
            (first
              | go_keep
              | (go_split_ands
                 refine ⟨?_, ?_, ?_⟩
                 · (rw [hgrow8.cell_far _ (by simp; omega) hnw]; assumption)
                 · (rw [hgrow8.cell_far _ (by simp; omega) hnw]; assumption)
                 · (rw [hgrow8.cell_far _ (by simp; omega) hnw]; assumption)))
            ((first
              | (refine step_append_lies _ (by rfl) _ _ _ (by rfl) w.heap.size 95 i0 _ 3 32 Tryz.underlying30 hi hz0 hz1 hz2 rfl (by omega) u3 i (flat Mem.encR qs) (by rfl) HOWN2.out
                  ⟨wr.heap.size + 2, 0, none⟩ 1 1 [.int .i32 xa, .int .i32 xb, .slice (some ⟨wr.heap.size + 1, 0, none⟩) 0 0] (by rfl) (by simp) HNEW2.out (by simp [Value.oneCell']) (by omega) (by unfold maxLen; omega) (by omega) (by simp; omega) (wr.heap.size + 3) (by simp) ?_
                 intro g2 cap2 w8 hown8 hgrow8 hat8 hlt8
                 have hnw : some wr.heap.size ≠ u3.ownBlock := fun e => by have := hou _ e.symm; omega)))
          have hsz8 := hgrow8.size
          have h8 := fun (q : Raw) (hq : Inner wr q) => (hq.below hbW2.out rfl).grown hgrow8 (t := 95) (by decide) (own_type HOWN2.out)
          have hin8 := Lib.hid (show ∀ q ∈ qs ++ [(⟨xa, xb, some ⟨wr.heap.size + 1, 0, none⟩, 0, []⟩ : Raw)], Inner w8 q from by
            intro q hq
            rcases List.mem_append.1 hq with hq | hq
            · exact h8 q (HIN.out q hq)
            · simp only [List.mem_singleton] at hq
              subst hq
              exact .inl rfl)
          have hbw8 : Below w.heap.size w w8 := (HB3.out.trans (hbW2.out.mono hwz)).grown hgrow8 (by simp; omega) (fun k hk => (HOWN2.out.lt k hk).1)
          have hown9 : w8.ownsRow w.heap.size 95 3 (.slice (some ⟨g2, 0, none⟩) (i + 1) cap2) (i + 1) (flat Mem.encR (qs ++ [(⟨xa, xb, some ⟨wr.heap.size + 1, 0, none⟩, 0, []⟩ : Raw)])) := by
            have e : flat Mem.encR (qs ++ [(⟨xa, xb, some ⟨wr.heap.size + 1, 0, none⟩, 0, []⟩ : Raw)]) = flat Mem.encR qs ++ [.int .i32 xa, .int .i32 xb, .slice (some ⟨wr.heap.size + 1, 0, none⟩) 0 0] := by
              unfold flat
              rw [List.flatMap_append]
              rfl
            rw [e]
            exact hown8
          have hqp9 := Lib.hid (show (qs ++ [(⟨xa, xb, some ⟨wr.heap.size + 1, 0, none⟩, 0, []⟩ : Raw)]).map Raw.plain = (rs.take (i + 1)).map Raw.plain from by
            rw [List.map_append, hqp.out, take_snoc' rs i _ hx, List.map_append]
            rfl)
          clear hgrow8 hown8 h8 HOWN2 HNEW2 hbW2
          go_wp2
          go_roundw
          case rel => exact ⟨i + 1, _, by go_num, by omega, by simp [hql], hqp9, hown9, hin8, hbw8⟩
          case measure => simp [intOf]; omega
        · have HOWN2 := Lib.hid (own_below hown ((((Below.refl wr.heap.size wr).alloc (Nat.le_refl _) (.cells #[.int .i32 xa, .int .i32 xb, .slice (some ad) 0 xc] 68 (0, 0))).alloc (by simp) (.cells #[] 21 (0, 0))).alloc (by simp; omega) (.cells #[.int .i32 xa, .int .i32 xb, .slice (some ⟨wr.heap.size + 1, 0, none⟩) 0 0] 95 (0, 0))).drew)
          have hblk : (((wr.alloc (.cells #[.int .i32 xa, .int .i32 xb, .slice (some ad) 0 xc] 68 (0, 0))).alloc (.cells #[] 21 (0, 0))).alloc (.cells #[.int .i32 xa, .int .i32 xb, .slice (some ⟨wr.heap.size + 1, 0, none⟩) 0 0] 95 (0, 0))).drew.heap[wr.heap.size + 2]? = some (.cells #[.int .i32 xa, .int .i32 xb, .slice (some ⟨wr.heap.size + 1, 0, none⟩) 0 0] 95 (0, 0)) := by
            have := heap_alloc_new ((wr.alloc (.cells #[.int .i32 xa, .int .i32 xb, .slice (some ad) 0 xc] 68 (0, 0))).alloc (.cells #[] 21 (0, 0))) (.cells #[.int .i32 xa, .int .i32 xb, .slice (some ⟨wr.heap.size + 1, 0, none⟩) 0 0] 95 (0, 0))
            rw [show ((wr.alloc (.cells #[.int .i32 xa, .int .i32 xb, .slice (some ad) 0 xc] 68 (0, 0))).alloc (.cells #[] 21 (0, 0))).heap.size = wr.heap.size + 2 from by simp] at this
            exact this
          have HNEW2 := Lib.hid (World.news_of_block hblk)
          have hbW2 := Lib.hid (((((Below.refl wr.heap.size wr).alloc (Nat.le_refl _) (.cells #[.int .i32 xa, .int .i32 xb, .slice (some ad) 0 xc] 68 (0, 0))).alloc (by simp) (.cells #[] 21 (0, 0))).alloc (by simp; omega) (.cells #[.int .i32 xa, .int .i32 xb, .slice (some ⟨wr.heap.size + 1, 0, none⟩) 0 0] 95 (0, 0))).drew)
          clear hown hblk
          go_wp2_with fail
          go_region_held3 (fun w' => w'.cell? ⟨wr.heap.size, 0, none⟩ = some (.int .i32 xa) ∧ w'.cell? ⟨wr.heap.size, 1, none⟩ = some (.int .i32 xb) ∧ w'.cell? ⟨wr.heap.size, 2, none⟩ = some (.slice (some ad) 0 xc))
            (first
              | go_keep
              | (go_split_ands
                 refine ⟨?_, ?_, ?_⟩
                 · (rw [hgrow8.cell_far _ (by simp; omega) hnw]; assumption)
                 · (rw [hgrow8.cell_far _ (by simp; omega) hnw]; assumption)
                 · (rw [hgrow8.cell_far _ (by simp; omega) hnw]; assumption)))
            ((first
              | (refine step_append_lies _ (by rfl) _ _ _ (by rfl) w.heap.size 95 i0 _ 3 32 Tryz.underlying30 hi hz0 hz1 hz2 rfl (by omega) u3 i (flat Mem.encR qs) (by rfl) HOWN2.out
                  ⟨wr.heap.size + 2, 0, none⟩ 1 1 [.int .i32 xa, .int .i32 xb, .slice (some ⟨wr.heap.size + 1, 0, none⟩) 0 0] (by rfl) (by simp) HNEW2.out (by simp [Value.oneCell']) (by omega) (by unfold maxLen; omega) (by omega) (by simp; omega) (wr.heap.size + 3) (by simp) ?_
                 intro g2 cap2 w8 hown8 hgrow8 hat8 hlt8
                 have hnw : some wr.heap.size ≠ u3.ownBlock := fun e => by have := hou _ e.symm; omega)))
          have hsz8 := hgrow8.size
          have h8 := fun (q : Raw) (hq : Inner wr q) => (hq.below hbW2.out rfl).grown hgrow8 (t := 95) (by decide) (own_type HOWN2.out)
          have hin8 := Lib.hid (show ∀ q ∈ qs ++ [(⟨xa, xb, some ⟨wr.heap.size + 1, 0, none⟩, 0, []⟩ : Raw)], Inner w8 q from by
            intro q hq
            rcases List.mem_append.1 hq with hq | hq
            · exact h8 q (HIN.out q hq)
            · simp only [List.mem_singleton] at hq
              subst hq
              exact .inl rfl)
          have hbw8 : Below w.heap.size w w8 := (HB3.out.trans (hbW2.out.mono hwz)).grown hgrow8 (by simp; omega) (fun k hk => (HOWN2.out.lt k hk).1)
          have hown9 : w8.ownsRow w.heap.size 95 3 (.slice (some ⟨g2, 0, none⟩) (i + 1) cap2) (i + 1) (flat Mem.encR (qs ++ [(⟨xa, xb, some ⟨wr.heap.size + 1, 0, none⟩, 0, []⟩ : Raw)])) := by
            have e : flat Mem.encR (qs ++ [(⟨xa, xb, some ⟨wr.heap.size + 1, 0, none⟩, 0, []⟩ : Raw)]) = flat Mem.encR qs ++ [.int .i32 xa, .int .i32 xb, .slice (some ⟨wr.heap.size + 1, 0, none⟩) 0 0] := by
              unfold flat
              rw [List.flatMap_append]
              rfl
            rw [e]
            exact hown8
          have hqp9 := Lib.hid (show (qs ++ [(⟨xa, xb, some ⟨wr.heap.size + 1, 0, none⟩, 0, []⟩ : Raw)]).map Raw.plain = (rs.take (i + 1)).map Raw.plain from by
            rw [List.map_append, hqp.out, take_snoc' rs i _ hx, List.map_append]
            rfl)
          clear hgrow8 hown8 h8 HOWN2 HNEW2 hbW2
          go_wp2
          go_roundw
          case rel => exact ⟨i + 1, _, by go_num, by omega, by simp [hql], hqp9, hown9, hin8, hbw8⟩
          case measure => simp [intOf]; omega
      · rcases hRx with h0 | ⟨b1, o1, rfl, hb1, hc1⟩
        · exact absurd h0 hx0
        have hpos : 0 < xi.length := by cases xi with | nil => exact absurd rfl hx0 | cons => simp
        have HN := Lib.hid (show ∀ j u, (xi.map runeV)[j]? = some u → ((wr.alloc (.cells #[.int .i32 xa, .int .i32 xb, .slice (some ⟨b1, o1, none⟩) xi.length xc] 68 (0, 0))).alloc (.cells #[] 21 (0, 0))).drew.cell? ((⟨b1, o1, none⟩ : Addr).add j) = some u from by
          intro j u hu
          rw [Lib.add_plain]
          rw [List.getElem?_map] at hu
          cases hq : xi[j]? with
          | none => rw [hq] at hu; cases hu
          | some y => rw [hq] at hu; cases hu; exact (hbW.cell (p := ⟨b1, o1 + j, none⟩) hb1).trans (hc1 j y hq))
        have HIN := Lib.hid hin.out
        have hlq : (xi.map runeV).length = xi.length := List.length_map _
        clear hown hin hc hc1 hb
        go_wp2_with fail
        have hoc : ∀ u ∈ xi.map runeV, u.oneCell' = true := fun u hu => by obtain ⟨x, _, rfl⟩ := List.mem_map.1 hu; rfl
        have hzz : 0 + xi.length = xi.length := Nat.zero_add _
        go_region_held3 (fun w' => w'.cell? ⟨wr.heap.size, 0, none⟩ = some (.int .i32 xa) ∧ w'.cell? ⟨wr.heap.size, 1, none⟩ = some (.int .i32 xb) ∧ w'.cell? ⟨wr.heap.size, 2, none⟩ = some (.slice (some ⟨b1, o1, none⟩) xi.length xc))
          (first
            | go_keep
            | (go_split_ands
               refine ⟨?_, ?_, ?_⟩
               · (rw [hgrow.cell_far _ (by simp; omega) (by simp [Value.ownBlock])]; assumption)
               · (rw [hgrow.cell_far _ (by simp; omega) (by simp [Value.ownBlock])]; assumption)
               · (rw [hgrow.cell_far _ (by simp; omega) (by simp [Value.ownBlock])]; assumption))
            | (go_split_ands
               refine ⟨?_, ?_, ?_⟩
               · (rw [hgrow8.cell_far _ (by simp; omega) hnw]; assumption)
               · (rw [hgrow8.cell_far _ (by simp; omega) hnw]; assumption)
               · (rw [hgrow8.cell_far _ (by simp; omega) hnw]; assumption)))
          ((first
            | (refine step_append_lies _ (by rfl) _ _ _ (by rfl) (wr.heap.size + 1) 21 i1 _ 1 4 Tryz.underlying45 hj hj0 hj1 hj2 rfl (by omega) (.slice (some ⟨wr.heap.size + 1, 0, none⟩) 0 0) 0 [] (by rfl) hmade
                ⟨b1, o1, none⟩ xi.length xc (xi.map runeV) (by rfl) (by omega) HN.out hoc hpos (by unfold maxLen; omega) (by omega) (by omega) (wr.heap.size + 2) (by simp) ?_
               intro g cap w6 hown6 hgrow hat hlt6
               have hown7 := hownW.kept hgrow (.inr (fun e => by have := hou _ (show u3.ownBlock = some (wr.heap.size + 1) from e); omega))
               have hs6 := hgrow.size)
            | (refine step_append_lies _ (by rfl) _ _ _ (by rfl) w.heap.size 95 i0 _ 3 32 Tryz.underlying30 hi hz0 hz1 hz2 rfl (by omega) u3 i (flat Mem.encR qs) (by rfl) (hown7.alloc _)
                ⟨w6.heap.size, 0, none⟩ 1 1 [.int .i32 xa, .int .i32 xb, .slice (some ⟨g, 0, none⟩) xi.length cap] (by rfl) (by simp) (news1 w6 #[.int .i32 xa, .int .i32 xb, .slice (some ⟨g, 0, none⟩) xi.length cap] 95) (by simp [Value.oneCell']) (by omega) (by unfold maxLen; omega) (by omega) (by simp; omega) (w6.heap.size + 1) (by simp) ?_
               intro g2 cap2 w8 hown8 hgrow8 hat8 hlt8
               have hnw : some wr.heap.size ≠ u3.ownBlock := fun e => by have := hou _ e.symm; omega)))
        rw [hzz, List.nil_append] at hown6
        have hb6 : Below wr.heap.size wr w6 := hbW.grown hgrow (by omega) (fun k hk => by have := (show some (wr.heap.size + 1) = some k from hk); cases this; omega)
        have hsz8 := hgrow8.size
        have h8 := fun (q : Raw) (hq : Inner w6 q) => (hq.below ((Below.refl w6.heap.size w6).alloc (Nat.le_refl _) (.cells #[.int .i32 xa, .int .i32 xb, .slice (some ⟨g, 0, none⟩) xi.length cap] 95 (0, 0))) rfl).grown hgrow8 (t := 95) (by decide) (own_type (hown7.alloc _))
        have hnew := h8 _ (inner_of_own (a := xa) (b := xb) hown6)
        have hin8 := Lib.hid (show ∀ q ∈ qs ++ [(⟨xa, xb, some ⟨g, 0, none⟩, cap, xi⟩ : Raw)], Inner w8 q from by
          intro q hq
          rcases List.mem_append.1 hq with hq | hq
          · exact h8 q ((HIN.out q hq).below hb6 rfl)
          · simp only [List.mem_singleton] at hq
            subst hq
            exact hnew)
        have hbw8 : Below w.heap.size w w8 := ((HB3.out.trans (hb6.mono hwz)).alloc (by have := hb6.size; omega) _).grown hgrow8 (by have := hb6.size; simp; omega) (fun k hk => ((hown7.alloc (.cells #[.int .i32 xa, .int .i32 xb, .slice (some ⟨g, 0, none⟩) xi.length cap] 95 (0, 0))).lt k hk).1)
        have hown9 : w8.ownsRow w.heap.size 95 3 (.slice (some ⟨g2, 0, none⟩) (i + 1) cap2) (i + 1) (flat Mem.encR (qs ++ [(⟨xa, xb, some ⟨g, 0, none⟩, cap, xi⟩ : Raw)])) := by
          have e : flat Mem.encR (qs ++ [(⟨xa, xb, some ⟨g, 0, none⟩, cap, xi⟩ : Raw)]) = flat Mem.encR qs ++ [.int .i32 xa, .int .i32 xb, .slice (some ⟨g, 0, none⟩) xi.length cap] := by
            unfold flat
            rw [List.flatMap_append]
            rfl
          rw [e]
          exact hown8
        have hqp9 := Lib.hid (show (qs ++ [(⟨xa, xb, some ⟨g, 0, none⟩, cap, xi⟩ : Raw)]).map Raw.plain = (rs.take (i + 1)).map Raw.plain from by
          rw [List.map_append, hqp.out, take_snoc' rs i _ hx, List.map_append]
          rfl)
        clear hown6 hgrow hown8 hgrow8 hb6 h8 hnew hown7 hownW hmade HN hbW hsz
        go_wp2
        go_roundw
        case rel => exact ⟨i + 1, _, by go_num, by omega, by simp [hql], hqp9, hown9, hin8, hbw8⟩
        case measure => simp [intOf]; omega
    · obtain rfl : i = rs.length := by omega
      rw [← hql] at hown
      obtain ⟨a', c', rfl, ht, hcp⟩ := tab_of_own Mem.encR_len hown
      have hq : Chrs wr a' l := ⟨qs, ht, by rw [hqp.out, List.take_length]; exact HPL.out, fun q hq => (hin.out q hq).rs⟩
      have HQL := Lib.hid hql
      have HCP := Lib.hid hcp
      clear hown ht hin hcp
      go_wp2
      go_ret
      exact ⟨a', c', by rw [← HQL.out]; rfl, hq, hb, by have := HCP.out; rw [HQL.out] at this; exact this⟩
end Go.Proofs.YtgdambmineeboaaGreatDoor.Lists
