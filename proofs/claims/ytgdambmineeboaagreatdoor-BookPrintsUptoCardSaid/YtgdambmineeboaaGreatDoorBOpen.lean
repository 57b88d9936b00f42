/- The walks of the reference's told, spanned and decimal. -/
import Derived.Test.YtgdambmineeboaaGreatDoorBCheckAll
import Derived.Outline
import Derived.Test.YtgdambmineeboaaGreatDoorBMapK
import Derived.Laws.AppendOwnNone
import Derived.Test.YtgdambmineeboaaGreatDoorBTouch
import Derived.Lib.AppendStr
import Derived.Laws.EntriesVeiled
import Derived.Test.YtgdambmineeboaaGreatDoorRows
import Derived.Test.YtgdambmineeboaaGreatDoorBBook
import Derived.Deep.Slices
import Derived.Deep.Fields
import Derived.ChangeSame
import Derived.SliceStrings
import Derived.Lib.SmallJoins
set_option linter.unusedSimpArgs false
set_option linter.unusedVariables false
namespace Go.Proofs.YtgdambmineeboaaGreatDoor.Told
open Go.RowKit Go.Lib Go.Proofs.YtgdambmineeboaaGreatDoor.Text Go.Proofs.YtgdambmineeboaaGreatDoor.Runes Go.Proofs.YtgdambmineeboaaGreatDoor.Print Go.Proofs.YtgdambmineeboaaGreatDoor.RefNine Go.Proofs.YtgdambmineeboaaGreatDoor.RefPrint Go.Proofs.YtgdambmineeboaaGreatDoor.Format Go.Proofs.YtgdambmineeboaaGreatDoor.Tell Go.Proofs.YtgdambmineeboaaGreatDoor.Given Go.Proofs.YtgdambmineeboaaGreatDoor.Mem
theorem conv1 (W : World) (v : Int) (b : UInt8) (hv : v = (b.toNat : Int)) : Sem.run Tryz.prog (convert 57 9 (.slice (some ⟨W.heap.size, 0, none⟩) 1 1)) (W.alloc (.cells #[.int .u8 v] 5 (0, 0))) = .ok (.string ⟨#[b]⟩) (W.alloc (.cells #[.int .u8 v] 5 (0, 0))) := by
  refine run_convert_bytes_back (P := Tryz.prog) _ 57 9 5 ⟨W.heap.size, 0, none⟩ 1 [b] (by kernel_rfl) (by kernel_rfl) (by kernel_rfl) ?_
  intro j hj
  have : j = 0 := by simpa using hj
  subst this
  rw [hv]
  exact (block_cell (i := 0) (heap_alloc_new W _)).trans rfl
theorem digit_at : ∀ d : Nat, (h : d < 16) → ((⟨#[48, 49, 50, 51, 52, 53, 54, 55, 56, 57, 65, 66, 67, 68, 69, 70]⟩ : ByteArray)[d]'h).toNat = (Text.hexDigit d).toNat := by decide +kernel
set_option maxRecDepth 100000 in
set_option maxHeartbeats 1000000 in
theorem told_any (p : Nat) (w : World) (hp : p < 16777216) :
    Calls Tryz.prog 90 #[.int .i32 p] w fun e w' => e = .returned (.string ⟨(hexL p).toArray⟩) ∧ Below w.heap.size w w' := by
  have hnd := nd_le p
  go_enter Tryz.func90, Tryz.ntmps90
  go_wp2_with fail
  go_loopw [0, 3] (fun a b w' => ∃ (i q : Nat) (o : ByteArray), a = .int .i32 q ∧ b = .string o ∧ i ≤ max 4 (nd p) ∧ q < 16777216 ∧ o.size = i ∧ Hid (q = p / 16 ^ i) ∧ Hid (o.data.toList = lowHex i p) ∧ Below w.heap.size w w') (fun _ b _ => 6 - strLen b)
  case atStart => exact ⟨0, p, ⟨#[]⟩, rfl, rfl, Nat.zero_le _, hp, rfl, Lib.hid (by simp), Lib.hid rfl, Below.refl _ _⟩
  case round =>
    obtain ⟨i, q, o, rfl, rfl, hi, hq, ho, hqp, hop, hqu⟩ := hrel
    have hstep : ∀ (_ : i < max 4 (nd p)), Hid (((⟨#[Text.hexDigit (q % 16)]⟩ : ByteArray) ++ o).data.toList = lowHex (i + 1) p ∧ q / 16 = p / 16 ^ (i + 1)) := fun _ => Lib.hid (by
      rw [Go.Joins.data_append, lowHex_cons, hop.out, ← hqp.out]
      exact ⟨rfl, by rw [hqp.out, Nat.div_div_eq_div_mul, Nat.pow_succ]⟩)
    have hpos : 4 ≤ i → (0 < q ↔ i < nd p) := fun h => by rw [hqp.out]; exact nd_pos p i hp h (by omega)
    have hcases : (0 < q) ∨ (¬ 0 < q ∧ i < 4) ∨ (¬ 0 < q ∧ ¬ i < 4) := by omega
    rcases hcases with hq0 | ⟨hq0, h4⟩ | ⟨hq0, h4⟩
    · have hlt : i < max 4 (nd p) := by
        by_cases h : i < 4
        · omega
        · have := (hpos (by omega)).1 hq0; omega
      have HS := hstep hlt
      have HZ : Hid (((⟨#[Text.hexDigit (q % 16)]⟩ : ByteArray) ++ o).size = o.size + 1) := Lib.hid (by rw [ByteArray.size_append]; show 1 + o.size = _; omega)
      have hsz : (o.size : Int) ≤ 6 := by omega
      have hx : q % 16 < 16 := Nat.mod_lt _ (by decide)
      have hv := digit_at (q % 16) hx
      clear hstep hpos
      have hcv := conv1 wr _ (Text.hexDigit (q % 16)) rfl
      go_wp2_with fail
      go_roundw
      case rel => exact ⟨i + 1, q / 16, _, by go_num, rfl, by omega, by omega, by rw [← size_data, HS.out.1, lowHex_length], Lib.hid HS.out.2, Lib.hid HS.out.1, hqu.alloc hqu.size _⟩
      case measure =>
        show 6 - ((⟨#[Text.hexDigit (q % 16)]⟩ : ByteArray) ++ o).size < 6 - o.size
        rw [HZ.out]
        omega
    · have HS := hstep (by omega)
      have HZ : Hid (((⟨#[Text.hexDigit (q % 16)]⟩ : ByteArray) ++ o).size = o.size + 1) := Lib.hid (by rw [ByteArray.size_append]; show 1 + o.size = _; omega)
      have hsz : (o.size : Int) ≤ 6 := by omega
      have hx : q % 16 < 16 := Nat.mod_lt _ (by decide)
      have hv := digit_at (q % 16) hx
      have hs4 : (o.size : Int) < 4 := by omega
      clear hstep hpos
      have hcv := conv1 wr _ (Text.hexDigit (q % 16)) rfl
      go_wp2_with fail
      go_roundw
      case rel => exact ⟨i + 1, q / 16, _, by go_num, rfl, by omega, by omega, by rw [← size_data, HS.out.1, lowHex_length], Lib.hid HS.out.2, Lib.hid HS.out.1, hqu.alloc hqu.size _⟩
      case measure =>
        show 6 - ((⟨#[Text.hexDigit (q % 16)]⟩ : ByteArray) ++ o).size < 6 - o.size
        rw [HZ.out]
        omega
    · have h5 : ¬ i < nd p := fun h => hq0 ((hpos (by omega)).2 h)
      have HE : Hid (i = max 4 (nd p)) := Lib.hid (by omega)
      have hs4 : ¬ (o.size : Int) < 4 := by omega
      clear hstep hpos
      go_wp2_with fail
      go_ret
      exact ⟨ret_string (by unfold hexL; rw [← HE.out, ← hop.out, toList_toArray]), hqu⟩
set_option maxRecDepth 100000 in
set_option maxHeartbeats 1000000 in
theorem decimal_any (n : Nat) (w : World) (hp : n < 1000000) :
    Calls Tryz.prog 31 #[.int .i64 n] w fun e w' => e = .returned (.string ⟨(Lib.decDigits n).toArray⟩) ∧ Below w.heap.size w w' := by
  go_enter Tryz.func31, Tryz.ntmps31
  go_wp2_with fail
  go_loopw [0, 3] (fun a b w' => ∃ (q : Nat) (o : ByteArray), a = .int .i64 q ∧ b = .string o ∧ q < 1000000 ∧ o.size < 140737488351232 - q ∧ Hid ((q = 0 ∧ 0 < o.size ∧ o.data.toList = Lib.decDigits n) ∨ (0 < q ∧ Lib.decDigits q ++ o.data.toList = Lib.decDigits n) ∨ (q = 0 ∧ n = 0 ∧ o.data.toList = [])) ∧ Below w.heap.size w w') (fun a b _ => 2 * (intOf a).toNat + (1 - strLen b))
  case atStart =>
    refine ⟨n, ⟨#[]⟩, rfl, rfl, hp, by have : (⟨#[]⟩ : ByteArray).size = 0 := rfl; omega, Lib.hid ?_, Below.refl _ _⟩
    by_cases h : n = 0
    · exact .inr (.inr ⟨h, h, rfl⟩)
    · exact .inr (.inl ⟨by omega, by simp⟩)
  case round =>
    obtain ⟨q, o, rfl, rfl, hq, ho, hh, hqu⟩ := hrel
    obtain ⟨d, hd⟩ : ∃ d : UInt8, d = UInt8.ofNat (48 + q % 10) := ⟨_, rfl⟩
    have hb8 : (((48 : Int) + (q : Int) % 10)) = (d.toNat : Int) := by
      rw [hd, UInt8.toNat_ofNat_of_lt' (by show 48 + q % 10 < 256; omega)]
      omega
    have hcv := conv1 wr (48 + (q : Int) % 10) d hb8
    have HS : Hid (((⟨#[d]⟩ : ByteArray) ++ o).data.toList = d :: o.data.toList) := Lib.hid (by rw [Go.Joins.data_append]; rfl)
    have HZ : Hid (((⟨#[d]⟩ : ByteArray) ++ o).size = o.size + 1) := Lib.hid (by rw [ByteArray.size_append]; show 1 + o.size = _; omega)
    have hdd := Lib.hid hd
    clear hb8 hd
    have hos : (o.size : Int) < 140737488351232 := by omega
    by_cases hq0 : 0 < q
    · go_wp2_with fail
      go_roundw
      case rel =>
        refine ⟨q / 10, _, by go_num, rfl, by omega, by rw [HZ.out]; omega, Lib.hid ?_, hqu.alloc hqu.size _⟩
        have hdq : Lib.decDigits q ++ o.data.toList = Lib.decDigits n := by
          rcases hh.out with h | h | h
          · omega
          · exact h.2
          · omega
        rw [HS.out, HZ.out]
        by_cases h10 : q < 10
        · refine .inl ⟨by omega, by omega, ?_⟩
          rw [← hdq, Lib.decDigits, dif_pos h10, hdd.out, Nat.mod_eq_of_lt h10]
          rfl
        · refine .inr (.inl ⟨by omega, ?_⟩)
          rw [← hdq]
          conv => rhs; rw [Lib.decDigits, dif_neg h10]
          rw [hdd.out]
          simp
      case measure =>
        show 2 * ((q : Int) / 10).toNat + (1 - ((⟨#[d]⟩ : ByteArray) ++ o).size) < 2 * (q : Int).toNat + (1 - o.size)
        rw [HZ.out]
        omega
    · obtain rfl : q = 0 := by omega
      clear hcv HS HZ hdd
      by_cases hz : o = ⟨#[]⟩
      · have HN : Hid (n = 0) := Lib.hid (by
          rcases hh.out with h | h | h
          · exact absurd (by rw [hz]; rfl : o.size = 0) (by omega)
          · omega
          · exact h.2.1)
        have hcv := conv1 wr 48 48 rfl
        clear hh
        go_wp2_with fail
        go_roundw
        case rel => exact ⟨0, _, rfl, rfl, by omega, by rw [show ((⟨#[48]⟩ : ByteArray) ++ ⟨#[]⟩).size = 1 from rfl]; omega, Lib.hid (.inl ⟨rfl, by decide, by rw [HN.out, Lib.decDigits, dif_pos (by decide)]; rfl⟩), hqu.alloc hqu.size _⟩
        case measure =>
          rw [hz]
          decide
      · have HT : Hid (o.data.toList = Lib.decDigits n) := Lib.hid (by
          rcases hh.out with h | h | h
          · exact h.2.2
          · omega
          · exact absurd (ba_ext (b := ⟨#[]⟩) h.2.2) hz)
        have hs1 := Lib.hid hz
        have hs2 : (o.toList == []) = false := by rw [ByteArray.toList_eq, beq_eq_false_iff_ne]; exact fun h => hz (ba_ext (b := ⟨#[]⟩) h)
        clear hz hh
        go_wp2_with fail

        go_ret
        exact ⟨ret_string (by rw [← HT.out, toList_toArray]), hqu⟩
/-- A span in digits. -/
def atL (a b : Int) : List UInt8 := if a = b then hexL a.toNat else hexL a.toNat ++ [46, 46] ++ hexL b.toNat
theorem hexL_le (p : Nat) : (hexL p).length ≤ 6 := by
  unfold hexL
  rw [lowHex_length]
  have := nd_le p
  omega
theorem atL_le (a b : Int) : (atL a b).length ≤ 14 := by
  unfold atL
  have h1 := hexL_le a.toNat
  have h2 := hexL_le b.toNat
  split <;> simp <;> omega
set_option maxRecDepth 100000 in
set_option maxHeartbeats 1000000 in
theorem spanned_any (a b : Int) (w : World) (ha : 0 ≤ a ∧ a < 16777216) (hb : 0 ≤ b ∧ b < 16777216) :
    Calls Tryz.prog 29 #[.int .i32 a, .int .i32 b] w fun e w' => e = .returned (.string ⟨(atL a b).toArray⟩) ∧ Below w.heap.size w w' := by
  obtain ⟨x, rfl⟩ : ∃ x : Nat, a = x := ⟨a.toNat, by omega⟩
  obtain ⟨y, rfl⟩ : ∃ y : Nat, b = y := ⟨b.toNat, by omega⟩
  have HX := Lib.hid (fun W => told_any x W (by omega))
  have HY := Lib.hid (fun W => told_any y W (by omega))
  have hxs : (hexL x).length ≤ 6 := hexL_le x
  have hys : (hexL y).length ≤ 6 := hexL_le y
  by_cases h : x = y
  · subst h
    have HE : Hid (atL x x = hexL x) := Lib.hid (by unfold atL; rw [if_pos rfl, Int.toNat_natCast])
    have e1 : ((x : Int) == x) = true := by simp
    go_enter Tryz.func29, Tryz.ntmps29
    go_wp2_with fail
    refine (HX.out _).mono ?_
    rintro e w1 ⟨rfl, hb1⟩
    go_wp2_with fail
    go_ret
    exact ⟨by rw [HE.out]; rfl, hb1⟩
  · have HE : Hid (atL x y = hexL x ++ [46, 46] ++ hexL y) := Lib.hid (by unfold atL; rw [if_neg (by omega), Int.toNat_natCast, Int.toNat_natCast])
    have e1 : ((x : Int) == y) = false := by rw [beq_eq_false_iff_ne]; omega
    have hxz : (⟨(hexL x).toArray⟩ : ByteArray).size ≤ 6 := hxs
    have hyz : (⟨(hexL y).toArray⟩ : ByteArray).size ≤ 6 := hys
    go_enter Tryz.func29, Tryz.ntmps29
    go_wp2_with fail
    refine (HX.out _).mono ?_
    rintro e w1 ⟨rfl, hb1⟩
    go_wp2_with fail
    refine (HY.out _).mono ?_
    rintro e w2 ⟨rfl, hb2⟩
    go_wp2_with fail
    go_ret
    refine ⟨?_, hb1.trans (hb2.mono hb1.size)⟩
    refine ret_string ?_
    apply ba_ext
    rw [HE.out]
    simp [Go.Joins.data_append]
end Go.Proofs.YtgdambmineeboaaGreatDoor.Told

/- The walk of the reference's listed. -/
namespace Go.Proofs.YtgdambmineeboaaGreatDoor.Listed
open Go.RowKit Go.Lib Go.Proofs.YtgdambmineeboaaGreatDoor.Text Go.Proofs.YtgdambmineeboaaGreatDoor.Runes Go.Proofs.YtgdambmineeboaaGreatDoor.Print Go.Proofs.YtgdambmineeboaaGreatDoor.RefNine Go.Proofs.YtgdambmineeboaaGreatDoor.RefPrint Go.Proofs.YtgdambmineeboaaGreatDoor.Format Go.Proofs.YtgdambmineeboaaGreatDoor.Tell Go.Proofs.YtgdambmineeboaaGreatDoor.Given Go.Proofs.YtgdambmineeboaaGreatDoor.Mem Go.Proofs.YtgdambmineeboaaGreatDoor.Told
/-- Code points behind a semicolon. -/
def tailT (is : List Int) : List UInt8 := is.flatMap fun p => 32 :: hexL p.toNat
/-- The line of a row of code points. -/
def listT (K : List UInt8) (x : Chr) : List UInt8 := K ++ [59, 32] ++ atL x.a x.b ++ [59] ++ tailT x.is ++ [10]
/-- What a row must be so that its line is as long as a line may be. -/
def Pts (x : Chr) : Prop := (0 ≤ x.a ∧ x.a < 16777216) ∧ (0 ≤ x.b ∧ x.b < 16777216) ∧ x.is.length ≤ 18 ∧ ∀ p ∈ x.is, 0 ≤ p ∧ p < 16777216
theorem tailT_le (is : List Int) : (tailT is).length ≤ 7 * is.length := by
  induction is with
  | nil => simp [tailT]
  | cons p l ih =>
    have := hexL_le p.toNat
    unfold tailT at ih ⊢
    rw [List.flatMap_cons, List.length_append, List.length_cons, List.length_cons]
    omega
theorem listT_le (K : List UInt8) (x : Chr) (hK : K.length ≤ 16) (h : x.is.length ≤ 18) : (listT K x).length ≤ 200 := by
  unfold listT
  have h1 := atL_le x.a x.b
  have h2 := tailT_le x.is
  simp only [List.length_append, List.length_cons, List.length_nil]
  omega
theorem flatMap_le {α : Type} (f : α → List UInt8) (m : Nat) (l : List α) (h : ∀ x ∈ l, (f x).length ≤ m) : (l.flatMap f).length ≤ m * l.length := by
  induction l with
  | nil => simp
  | cons x l ih =>
    have h1 := h x (List.mem_cons_self ..)
    have h2 := ih fun y hy => h y (List.mem_cons_of_mem _ hy)
    rw [List.flatMap_cons, List.length_append, List.length_cons, Nat.mul_succ]
    omega
theorem flatMap_snoc {α : Type} (f : α → List UInt8) (l : List α) (i : Nat) (x : α) (h : l[i]? = some x) : (l.take (i + 1)).flatMap f = (l.take i).flatMap f ++ f x := by
  rw [take_snoc' l i x h, List.flatMap_append]
  simp
set_option maxRecDepth 100000 in
set_option maxHeartbeats 2000000 in
theorem listed_any (kind : ByteArray) (a : Option Addr) (l : List Chr) (c : Nat) (w : World) (hk : kind.size ≤ 16) (hl : l.length ≤ 65536) (hp : ∀ x ∈ l, Pts x) (hV : Chrs w a l) :
    Calls Tryz.prog 30 #[.string kind, .slice a l.length c] w fun e w' => ∃ s : ByteArray, e = .returned (.string s) ∧ s.data.toList = l.flatMap (listT kind.data.toList) ∧ Below w.heap.size w w' := by
  obtain ⟨rs, t1, p1, n1⟩ := hV
  have hml : l.length = rs.length := by rw [← p1, List.length_map]
  have HL := Lib.hid (fun (i : Nat) (x : Raw) (h : rs[i]? = some x) => (show l[i]? = some x.plain by rw [← p1, List.getElem?_map, h]; rfl))
  have HP := Lib.hid hp
  have HV := Lib.hid t1
  have HN := Lib.hid n1
  have HK : Hid (kind.data.toList.length ≤ 16) := Lib.hid (by rw [size_data]; exact hk)
  have HML := Lib.hid hml
  rw [hml] at hl ⊢
  clear hp t1 n1 p1 hml
  go_enter Tryz.func30, Tryz.ntmps30
  go_wp2_with fail
  go_loopw [5, 12] (fun u v w' => ∃ (i : Nat) (s : ByteArray), v = .int .i64 i ∧ u = .string s ∧ i ≤ rs.length ∧ s.size ≤ 200 * i ∧ Hid (s.data.toList = (l.take i).flatMap (listT kind.data.toList)) ∧ Below w.heap.size w w') (fun _ v _ => rs.length - (intOf v).toNat)
  case atStart => exact ⟨0, _, rfl, rfl, Nat.zero_le _, by decide, Lib.hid rfl, Below.refl _ _⟩
  case round =>
    obtain ⟨i, s, rfl, rfl, hi, hs, hh, hb⟩ := hrel
    by_cases hlt : i < rs.length
    · obtain ⟨x, hx⟩ : ∃ x, rs[i]? = some x := ⟨_, List.getElem?_eq_getElem hlt⟩
      rcases HV.out.below hb with h0 | ⟨bk, o, rfl, hbk, hc⟩
      · subst h0; simp at hlt
      obtain ⟨q0, q1, q2⟩ := raws_at (hc i x hx)
      have hb2 := hb.alloc hb.size (.cells #[.int .i32 x.a, .int .i32 x.b, .slice x.ad x.is.length x.cap] 95 (0, 0))
      have HRS := Lib.hid ((HN.out x (List.mem_of_getElem? hx)).below hb2)
      have hpl := HL.out i x hx
      obtain ⟨hpa, hpb, hpn, hpp⟩ := HP.out x.plain (List.mem_of_getElem? hpl)
      have HPP := Lib.hid hpp
      have hxn : x.is.length ≤ 18 := hpn
      have HSN := Lib.hid (flatMap_snoc (listT kind.data.toList) l i x.plain hpl)
      have HSP := Lib.hid (fun W => spanned_any x.a x.b W hpa hpb)
      have hal : (⟨(atL x.a x.b).toArray⟩ : ByteArray).size ≤ 14 := atL_le x.a x.b
      have hwz := hb.size
      clear hc hx hpl hpa hpb hpp hpn
      go_wp2_with fail
      refine (HSP.out _).mono ?_
      rintro e w1 ⟨rfl, hb1⟩
      have hxb := (hb1.block wr.heap.size (by simp)).trans (heap_alloc_new wr (.cells #[.int .i32 x.a, .int .i32 x.b, .slice x.ad x.is.length x.cap] 95 (0, 0)))
      have k2 : w1.cell? ⟨wr.heap.size, 2, none⟩ = some (.slice x.ad x.is.length x.cap) := (block_cell (i := 2) hxb).trans rfl
      have HR1 := Lib.hid (HRS.out.below hb1)
      have hbw1 := hb2.trans (hb1.mono hb2.size)
      have hs2 : s.size ≤ 13107200 := by omega
      have hka : ((kind ++ ⟨#[59, 32]⟩ : ByteArray)).size ≤ 18 := by rw [ByteArray.size_append]; show kind.size + 2 ≤ 18; omega
      clear hxb hb1 q0 q1 q2 hb2
      generalize hat : (⟨(atL x.a x.b).toArray⟩ : ByteArray) = at1 at *
      have HAT := Lib.hid hat
      have hkb : (((kind ++ ⟨#[59, 32]⟩) ++ at1 : ByteArray)).size ≤ 32 := by rw [ByteArray.size_append]; omega
      have hkc : (((kind ++ ⟨#[59, 32]⟩) ++ at1 ++ ⟨#[59]⟩ : ByteArray)).size ≤ 33 := by rw [ByteArray.size_append]; show _ + 1 ≤ 33; omega
      clear hat
      go_wp2_with fail
      obtain ⟨t0, ht0⟩ : ∃ t0 : ByteArray, t0 = s ++ (kind ++ ⟨#[59, 32]⟩ ++ at1 ++ ⟨#[59]⟩) := ⟨_, rfl⟩
      have HT0 : Hid (t0.data.toList = s.data.toList ++ (kind.data.toList ++ [59, 32] ++ atL x.a x.b ++ [59])) := Lib.hid (by
        rw [ht0, ← HAT.out]
        simp [Go.Joins.data_append])
      have hz0 : t0.size ≤ 200 * i + 33 := by rw [ht0, ByteArray.size_append]; omega
      rw [← ht0]
      clear ht0 hkb hkc hka HSP
      go_loopw [5, 30] (fun u v w' => ∃ (j : Nat) (t : ByteArray), v = .int .i64 j ∧ u = .string t ∧ j ≤ x.is.length ∧ t.size ≤ t0.size + 7 * j ∧ Hid (t.data.toList = t0.data.toList ++ tailT (x.is.take j)) ∧ Below w1.heap.size w1 w') (fun _ v _ => x.is.length - (intOf v).toNat)
      case atStart => exact ⟨0, t0, rfl, rfl, Nat.zero_le _, by omega, Lib.hid (by simp [tailT]), Below.refl _ _⟩
      case round =>
        obtain ⟨j, t, rfl, rfl, hj, ht, htt, hb3⟩ := hrel
        by_cases hjl : j < x.is.length
        · obtain ⟨q, hq⟩ : ∃ q, x.is[j]? = some q := ⟨_, List.getElem?_eq_getElem hjl⟩
          rcases HR1.out.below hb3 with h0 | ⟨b1, o1, had, hb1, hc1⟩
          · rw [h0] at hjl; simp at hjl
          have q3 := hc1 j q hq
          rw [had] at *
          obtain ⟨hq0, hq1⟩ := HPP.out q (List.mem_of_getElem? hq)
          obtain ⟨qn, rfl⟩ : ∃ qn : Nat, q = qn := ⟨q.toNat, by omega⟩
          have HTS := Lib.hid (flatMap_snoc (fun p : Int => (32 : UInt8) :: hexL p.toNat) x.is j (qn : Int) hq)
          have HTD := Lib.hid (fun W => told_any qn W (by omega))
          have hqs : (⟨(hexL qn).toArray⟩ : ByteArray).size ≤ 6 := hexL_le qn
          have hqs2 : ((⟨#[32]⟩ : ByteArray) ++ (⟨(hexL qn).toArray⟩ : ByteArray)).size ≤ 7 := by rw [ByteArray.size_append]; show 1 + _ ≤ 7; omega
          have hts : t.size ≤ 13200000 := by omega
          generalize hgx : (⟨(hexL qn).toArray⟩ : ByteArray) = gx at *
          have HGX := Lib.hid hgx
          clear hc1 hq hgx
          go_wp2_with fail
          refine (HTD.out _).mono ?_
          rintro e w4 ⟨rfl, hb4⟩
          go_wp2_with fail
          go_roundw
          case rel => exact ⟨j + 1, _, by go_num, rfl, by omega, by rw [ByteArray.size_append]; omega, Lib.hid (by
            unfold tailT at htt ⊢
            rw [HTS.out, Go.Joins.data_append, htt.out, ← HGX.out]
            simp [Go.Joins.data_append]), hb3.trans (hb4.mono hb3.size)⟩
          case measure => simp [intOf]; omega
        · obtain rfl : j = x.is.length := by omega
          rw [List.take_length] at htt
          clear hj hjl k2 HR1 HPP
          have hts : t.size ≤ 13200000 := by omega
          go_wp2_with fail
          go_roundw
          case rel => exact ⟨i + 1, _, by go_num, rfl, by omega, by rw [ByteArray.size_append]; show _ + 1 ≤ _; omega, Lib.hid (by
            rw [HSN.out, Go.Joins.data_append, htt.out, HT0.out, hh.out]
            unfold listT Raw.plain
            simp), hbw1.trans (hb3.mono hbw1.size)⟩
          case measure => simp [intOf]; omega
    · obtain rfl : i = rs.length := by omega
      go_wp2_with fail
      go_ret
      exact ⟨s, rfl, by rw [hh.out, ← HML.out, List.take_length], hb⟩
end Go.Proofs.YtgdambmineeboaaGreatDoor.Listed

/- Plainly: what a book that may be says of its rows; and the text of a book. -/
namespace Go.Proofs.YtgdambmineeboaaGreatDoor.Lines10
open Go.RowKit Go.Lib Go.Proofs.YtgdambmineeboaaGreatDoor.Text Go.Proofs.YtgdambmineeboaaGreatDoor.Runes Go.Proofs.YtgdambmineeboaaGreatDoor.Print Go.Proofs.YtgdambmineeboaaGreatDoor.RefNine Go.Proofs.YtgdambmineeboaaGreatDoor.RefPrint Go.Proofs.YtgdambmineeboaaGreatDoor.Format Go.Proofs.YtgdambmineeboaaGreatDoor.Tell Go.Proofs.YtgdambmineeboaaGreatDoor.Given Go.Proofs.YtgdambmineeboaaGreatDoor.Mem Go.Proofs.YtgdambmineeboaaGreatDoor.Pred Go.Proofs.YtgdambmineeboaaGreatDoor.Many Go.Proofs.YtgdambmineeboaaGreatDoor.NamesAll Go.Proofs.YtgdambmineeboaaGreatDoor.Numbered Go.Proofs.YtgdambmineeboaaGreatDoor.Written Go.Proofs.YtgdambmineeboaaGreatDoor.Fine Go.Proofs.YtgdambmineeboaaGreatDoor.Told Go.Proofs.YtgdambmineeboaaGreatDoor.Listed
def Sp (a b : Int) : Prop := 0 ≤ a ∧ a ≤ b ∧ b ≤ 1114111
theorem okRows_get {l : List Spn} {ws : List Bool} (h : okRows l ws = true) : l.length ≤ 65536 ∧ ∀ (i : Nat) x, l[i]? = some x → Sp x.a x.b ∧ ws.getD i false = false := by
  unfold okRows at h
  rw [Bool.and_eq_true] at h
  refine ⟨of_decide_eq_true h.1, fun i x hx => ?_⟩
  have h1 := List.all_eq_true.1 h.2 i (List.mem_range.2 (List.getElem?_eq_some_iff.1 hx).1)
  unfold okAt at h1
  rw [hx] at h1
  simp only [Bool.and_eq_true, Bool.not_eq_true'] at h1
  refine ⟨?_, h1.2⟩
  have h2 := h1.1
  unfold rowB at h2
  simp only [Bool.and_eq_true, decide_eq_true_eq] at h2
  exact ⟨h2.1.1.1, h2.1.1.2, h2.1.2⟩
theorem vals_ok {lo hi : Int} {ap : Bool} {l : List Val} (h : okRows (spV l) (l.map (wrongV lo hi ap)) = true) : l.length ≤ 65536 ∧ ∀ x ∈ l, Sp x.a x.b ∧ lo ≤ x.n ∧ x.n ≤ hi := by
  obtain ⟨h1, h2⟩ := okRows_get h
  refine ⟨by simpa [spV] using h1, fun x hx => ?_⟩
  obtain ⟨i, hi⟩ := List.getElem?_of_mem hx
  obtain ⟨h3, h4⟩ := h2 i ⟨x.a, x.b⟩ (by unfold spV; rw [List.getElem?_map, hi]; rfl)
  rw [List.getD_eq_getElem?_getD, List.getElem?_map, hi] at h4
  have h5 : wrongV lo _ ap x = false := h4
  unfold wrongV at h5
  simp only [Bool.or_eq_false_iff, decide_eq_false_iff_not] at h5
  exact ⟨h3, by omega, by omega⟩
theorem chrs_ok {most : Int} (hm : most ≤ 18) {f : Chr → Bool} (hf : ∀ x, f x = false → wrongC most x.is = false) {l : List Chr} (h : okRows (spC l) (l.map f) = true) : l.length ≤ 65536 ∧ ∀ x ∈ l, Sp x.a x.b ∧ 1 ≤ x.is.length ∧ (x.is.length : Int) ≤ most ∧ ∀ p ∈ x.is, scalarB p = true := by
  obtain ⟨h1, h2⟩ := okRows_get h
  refine ⟨by simpa [spC] using h1, fun x hx => ?_⟩
  obtain ⟨i, hi⟩ := List.getElem?_of_mem hx
  obtain ⟨h3, h4⟩ := h2 i ⟨x.a, x.b⟩ (by unfold spC; rw [List.getElem?_map, hi]; rfl)
  rw [List.getD_eq_getElem?_getD, List.getElem?_map, hi] at h4
  have h5 := hf x h4
  unfold wrongC at h5
  simp only [Bool.or_eq_false_iff, decide_eq_false_iff_not] at h5
  refine ⟨h3, by omega, by omega, fun p hp => ?_⟩
  have h6 := List.any_eq_false.1 h5.2 p hp
  simpa using h6
theorem spns_ok {ws : List Bool} {l : List Spn} (h : okRows l ws = true) : l.length ≤ 65536 ∧ ∀ x ∈ l, Sp x.a x.b := by
  obtain ⟨h1, h2⟩ := okRows_get h
  refine ⟨h1, fun x hx => ?_⟩
  obtain ⟨i, hi⟩ := List.getElem?_of_mem hx
  exact (h2 i x hi).1
def OkChrs (l : List Chr) : Prop := l.length ≤ 65536 ∧ ∀ x ∈ l, Sp x.a x.b ∧ 1 ≤ x.is.length ∧ x.is.length ≤ 18 ∧ ∀ p ∈ x.is, scalarB p = true
def OkVals (lo hi : Int) (l : List Val) : Prop := l.length ≤ 65536 ∧ ∀ x ∈ l, Sp x.a x.b ∧ lo ≤ x.n ∧ x.n ≤ hi
def OkSpns (l : List Spn) : Prop := l.length ≤ 65536 ∧ ∀ x ∈ l, Sp x.a x.b
/-- What a book that may be says of its rows. -/
structure Good (B : Mem.Book) : Prop where
  n : OkNames B.names
  s : OkVals 1 3 B.status
  m : OkChrs B.maps
  k : OkVals 1 254 B.cls
  d : OkChrs B.decomp
  x : OkSpns B.excl
  b : OkVals 0 22 B.bidi
  j : OkVals 0 5 B.join
  q : OkSpns B.marks
  r : OkVals 1 B.names.length B.script
  l : OkChrs B.like
theorem good_of {B : Mem.Book} (h : Fine B) : Good B := by
  have g : ∀ p ∈ conds B, p := h.1
  have at' : ∀ (i : Nat) p, (conds B)[i]? = some p → p := fun i p hp => g p (List.mem_of_getElem? hp)
  have chr : ∀ {most : Int} (hm : most ≤ 18) {f : Chr → Bool} (hf : ∀ x, f x = false → wrongC most x.is = false) {l : List Chr}, okRows (spC l) (l.map f) = true → OkChrs l := fun hm _ hf _ h => by
    obtain ⟨h1, h2⟩ := chrs_ok hm hf h
    exact ⟨h1, fun x hx => by
      obtain ⟨a, b, c, d⟩ := h2 x hx
      exact ⟨a, b, by omega, d⟩⟩
  exact ⟨at' 0 _ rfl, vals_ok (at' 1 _ rfl), chr (most := 18) (by omega) (f := wrongM B.status) (fun x h => by unfold wrongM at h; rw [Bool.or_eq_false_iff] at h; exact h.1) (at' 2 _ rfl), vals_ok (at' 3 _ rfl),
    chr (most := 2) (by omega) (f := wrongDc) (fun x h => by unfold wrongDc at h; simp only [Bool.or_eq_false_iff] at h; exact h.1.1.1) (at' 4 _ rfl), spns_ok (at' 5 _ rfl), vals_ok (at' 6 _ rfl), vals_ok (at' 7 _ rfl), spns_ok (at' 8 _ rfl), vals_ok (at' 9 _ rfl),
    chr (most := 18) (by omega) (f := wrongCh 18) (fun x h => h) (at' 10 _ rfl)⟩
theorem scalar_pts {p : Int} (h : scalarB p = true) : 0 ≤ p ∧ p ≤ 1114111 := by
  unfold scalarB at h
  simp only [Bool.or_eq_true, Bool.and_eq_true, decide_eq_true_eq] at h
  omega
theorem pts_of {l : List Chr} (h : OkChrs l) : ∀ x ∈ l, Pts x := fun x hx => by
  obtain ⟨⟨a1, a2, a3⟩, _, b, c⟩ := h.2 x hx
  exact ⟨⟨by omega, by omega⟩, ⟨by omega, by omega⟩, b, fun p hp => by have := scalar_pts (c p hp); omega⟩

/-- The names of statuses. -/
def stN (n : Int) : List UInt8 := if n = 1 then [118, 97, 108, 105, 100] else if n = 2 then [105, 103, 110, 111, 114, 101, 100] else [100, 101, 118, 105, 97, 116, 105, 111, 110]
def spnT (K : List UInt8) (x : Spn) : List UInt8 := K ++ [59, 32] ++ atL x.a x.b ++ [10]
def staT (x : Val) : List UInt8 := stN x.n ++ [59, 32] ++ atL x.a x.b ++ [10]
def valT (K : List UInt8) (tell : Int → List UInt8) (x : Val) : List UInt8 := K ++ [59, 32] ++ atL x.a x.b ++ [59, 32] ++ tell x.n ++ [10]
def kMapped : List UInt8 := [109, 97, 112, 112, 101, 100]
def kClass : List UInt8 := [99, 108, 97, 115, 115]
def kDecomposed : List UInt8 := [100, 101, 99, 111, 109, 112, 111, 115, 101, 100]
def kExcluded : List UInt8 := [101, 120, 99, 108, 117, 100, 101, 100]
def kBidi : List UInt8 := [98, 105, 100, 105]
def kJoining : List UInt8 := [106, 111, 105, 110, 105, 110, 103]
def kMark : List UInt8 := [109, 97, 114, 107]
def kScript : List UInt8 := [115, 99, 114, 105, 112, 116]
def kLike : List UInt8 := [108, 105, 107, 101]
def nameAt (l : List ByteArray) (n : Int) : List UInt8 := (l.getD n.toNat ⟨#[]⟩).data.toList
theorem staT_le (x : Val) : (staT x).length ≤ 200 := by
  unfold staT stN
  have := atL_le x.a x.b
  split <;> (try split) <;> simp <;> omega
theorem spnT_le (K : List UInt8) (x : Spn) (h : K.length ≤ 16) : (spnT K x).length ≤ 200 := by
  unfold spnT
  have := atL_le x.a x.b
  simp
  omega
theorem valT_le (K : List UInt8) (tell : Int → List UInt8) (x : Val) (h : K.length ≤ 16) (ht : (tell x.n).length ≤ 100) : (valT K tell x).length ≤ 200 := by
  unfold valT
  have := atL_le x.a x.b
  simp
  omega
end Go.Proofs.YtgdambmineeboaaGreatDoor.Lines10

/- Plainly: which texts may stand in a field. -/
namespace Go.Proofs.YtgdambmineeboaaGreatDoor.Fields10
open Go.RowKit Go.Lib Go.Proofs.YtgdambmineeboaaGreatDoor.Text Go.Proofs.YtgdambmineeboaaGreatDoor.Runes Go.Proofs.YtgdambmineeboaaGreatDoor.Print Go.Proofs.YtgdambmineeboaaGreatDoor.RefNine
theorem ltrim_head {c : UInt8} {l set : List UInt8} (h : set.contains c = false) : ltrim set (c :: l) = c :: l := by
  unfold ltrim
  rw [List.dropWhile_cons, if_neg (by rw [h]; decide)]
theorem btrim_ends {set l : List UInt8} (hh : ∀ c, l.head? = some c → set.contains c = false) (hl : ∀ c, l.getLast? = some c → set.contains c = false) : btrim set l = l := by
  unfold btrim rtrim
  have e1 : ltrim set l = l := by
    cases l with
    | nil => rfl
    | cons c r => exact ltrim_head (hh c rfl)
  rw [e1]
  have e2 : ltrim set l.reverse = l.reverse := by
    cases h : l.reverse with
    | nil => rfl
    | cons c r =>
      refine ltrim_head (hl c ?_)
      rw [← List.head?_reverse, h]
      rfl
  rw [e2, List.reverse_reverse]
theorem plain_ends {l : List UInt8} (h0 : ∀ c ∈ l, c ≠ 10 ∧ c ≠ 13 ∧ c ≠ 59 ∧ c ≠ 35) (hh : ∀ c, l.head? = some c → c ≠ 32 ∧ c ≠ 9) (hl : ∀ c, l.getLast? = some c → c ≠ 32 ∧ c ≠ 9) : plainB [10, 13, 59, 35] l = true := by
  unfold plainB
  have e1 : hasL l [10, 13, 59, 35] = false := by
    unfold hasL
    rw [List.any_eq_false]
    intro c hc
    obtain ⟨a, b, d, e⟩ := h0 c hc
    simp [a, b, d, e]
  have e2 : btrim [32, 9] l = l := btrim_ends (fun c hc => by obtain ⟨a, b⟩ := hh c hc; simp [a, b]) (fun c hc => by obtain ⟨a, b⟩ := hl c hc; simp [a, b])
  rw [e1, e2]
  simp
end Go.Proofs.YtgdambmineeboaaGreatDoor.Fields10

/- The walks of the closures of the program's Print. -/
namespace Go.Proofs.YtgdambmineeboaaGreatDoor.Put
open Go.RowKit Go.Lib Go.Proofs.YtgdambmineeboaaGreatDoor.Text Go.Proofs.YtgdambmineeboaaGreatDoor.Runes Go.Proofs.YtgdambmineeboaaGreatDoor.Print Go.Proofs.YtgdambmineeboaaGreatDoor.RefNine Go.Proofs.YtgdambmineeboaaGreatDoor.RefPrint Go.Proofs.YtgdambmineeboaaGreatDoor.Format Go.Proofs.YtgdambmineeboaaGreatDoor.Tell Go.Proofs.YtgdambmineeboaaGreatDoor.Given Go.Proofs.YtgdambmineeboaaGreatDoor.Mem Go.Proofs.YtgdambmineeboaaGreatDoor.Told Go.Proofs.YtgdambmineeboaaGreatDoor.Listed Go.Proofs.YtgdambmineeboaaGreatDoor.Lines10
def bytesV (bs : List UInt8) : List Value := bs.map fun c => .int .u8 (c.toNat : Int)
/-- The state of what is printed: its box, its bytes; what lies below the box is as it was, the boxes behind it too. -/
structure St (OB base : Nat) (w0 : World) (bs : List UInt8) (w : World) : Prop where
  b : Below OB w0 w
  k : ∀ j, OB < j → j < base → w.heap[j]? = w0.heap[j]?
  o : ∃ v, w.heap[OB]? = some (.cells #[v] 57 (0, 0)) ∧ w.ownsRow base 5 1 v bs.length (bytesV bs)
  z : base ≤ w.heap.size
  l : OB < base
theorem St.below {OB base : Nat} {w0 : World} {bs : List UInt8} {w w' : World} (h : St OB base w0 bs w) (hb : Below w.heap.size w w') : St OB base w0 bs w' := by
  obtain ⟨v, h1, h2⟩ := h.o
  have hl := h.l
  have hz := h.z
  exact ⟨h.b.trans (hb.mono (by omega)), fun j hj hj2 => (hb.block j (by omega)).trans (h.k j hj hj2), ⟨v, (hb.block OB (by omega)).trans h1, own_below h2 hb⟩, Nat.le_trans hz hb.size, hl⟩
/-- One line. -/
def moreL : Option ByteArray → List UInt8
  | none => []
  | some m => [59, 32] ++ m.data.toList
def lineL (kind : List UInt8) (a b : Int) (m : Option ByteArray) : List UInt8 := kind ++ [59, 32] ++ atL a b ++ moreL m ++ [10]
/-- What more is said, in memory. -/
inductive More (w : World) : Value → Option ByteArray → Prop
  | nil : More w (.slice none 0 0) none
  | one (bk : Nat) (c : Nat) (m : ByteArray) : w.cell? ⟨bk, 0, none⟩ = some (.string m) → 1 ≤ c → More w (.slice (some ⟨bk, 0, none⟩) 1 c) (some m)
/-- May a text stand in a field? -/
def Fld (s : ByteArray) : Prop := s.size ≤ 400 ∧ plainB [10, 13, 59, 35] s.data.toList = true
theorem own_two {w : World} {k at1 : ByteArray} : (w.alloc (.cells #[.string k, .string at1] 9 (0, 0))).ownsRow w.heap.size 9 1 (.slice (some ⟨w.heap.size, 0, none⟩) 2 2) 2 [.string k, .string at1] :=
  ⟨by simp, .inr ⟨w.heap.size, 2, _, rfl, Nat.le_refl _, heap_alloc_new w _, by decide, by decide, rfl, by simp⟩⟩
theorem grown_set (w : World) (a : Addr) (v : Value) : w.grownBy (w.setCell a v) (some a.block) := ⟨rfl, rfl, rfl, by simp, fun k _ hk => Below.heap_setCell w a v k (fun e => hk (by rw [e]))⟩
theorem St.put {OB base : Nat} {w0 : World} {bs : List UInt8} {W : World} (h : St OB base w0 bs W) {v v' : Value} {W' : World} {m : ByteArray}
    (hv : W.heap[OB]? = some (.cells #[v] 57 (0, 0))) (hown : W.ownsRow base 5 1 v bs.length (bytesV bs)) (hown' : W'.ownsRow base 5 1 v' (bs.length + m.size) (bytesV bs ++ strCells m)) (hg : W.grownBy W' v.ownBlock) :
    St OB base w0 (bs ++ m.data.toList) (W'.setCell ⟨OB, 0, none⟩ v') := by
  have hl := h.l
  have hz := h.z
  have hge : ∀ k, v.ownBlock = some k → base ≤ k := fun k hk => (hown.lt k hk).1
  have hne : ∀ j, j < base → some j ≠ v.ownBlock := fun j hj e => by have := hge j e.symm; omega
  have hset := grown_set W' ⟨OB, 0, none⟩ v'
  have hOB : W'.heap[OB]? = some (.cells #[v] 57 (0, 0)) := (hg.block OB (by omega) (hne OB hl)).trans hv
  refine ⟨(h.b.grown hg (by omega) (fun k hk => by have := hge k hk; omega)).grown hset (by have := hg.size; omega) (fun k hk => by cases hk; exact Nat.le_refl _), fun j hj hj2 => ?_, ⟨v', ?_, ?_⟩, ?_, hl⟩
  · rw [Below.heap_setCell _ _ _ _ (by show j ≠ OB; omega), hg.block j (by omega) (hne j hj2)]
    exact h.k j hj hj2
  · have := Go.heap_setCell_same W' OB 0 #[v] 57 v' hOB
    simpa using this
  · have e1 : (bs ++ m.data.toList).length = bs.length + m.size := by rw [List.length_append, size_data]
    have e2 : bytesV (bs ++ m.data.toList) = bytesV bs ++ strCells m := by unfold bytesV strCells; rw [List.map_append]
    rw [e1, e2]
    exact ownsRow_setCell_below hown' hl v'
  · have := hg.size
    have := hset.size
    omega
theorem flds_join {k at1 : ByteArray} {mo : Option ByteArray} {a b : Int} (hat : at1.data.toList = atL a b) : Lib.join (([k, at1] ++ mo.toList).map (·.data.toList)) [59, 32] ++ [10] = lineL k.data.toList a b mo := by
  cases mo with
  | none => simp [Lib.join, lineL, moreL, hat]
  | some m => simp [Lib.join, lineL, moreL, hat]
/-- What line.Print makes of two or three fields that may stand in a line. -/
theorem flds_any (ad : Option Addr) (l : List ByteArray) (c : Nat) (W : World) (h2 : 2 ≤ l.length) (h3 : l.length ≤ 3) (hF : ∀ s ∈ l, Fld s) (hc : l.length ≤ c) (hS : Strs W ad l) (hT : Tabs W) :
    Calls Tryz.prog 19 #[.agg #[.int .i64 0, .slice ad l.length c, .string ⟨#[]⟩]] W fun e w' => e = .returned (.tuple #[.string ⟨(Lib.join (l.map (fun x : ByteArray => x.data.toList)) [59, 32] ++ [10]).toArray⟩, .int .i64 0]) ∧ Below W.heap.size W w' := by
  have hjl : (Lib.join (l.map (·.data.toList)) [59, 32]).length ≤ 140737488355328 := by
    match l, h2, h3, hF with
    | [x, y], _, _, hF =>
      have h1 := (hF x (by simp)).1
      have h2 := (hF y (by simp)).1
      have e1 := size_data x
      have e2 := size_data y
      simp [Lib.join]
      omega
    | [x, y, z], _, _, hF =>
      have h1 := (hF x (by simp)).1
      have h2 := (hF y (by simp)).1
      have h3 := (hF z (by simp)).1
      have e1 := size_data x
      have e2 := size_data y
      have e3 := size_data z
      simp [Lib.join]
      omega
  refine (print_any 0 ad l c ⟨#[]⟩ W (by omega) (fun s hs => by have := (hF s hs).1; omega) (by decide) hc hjl hS hT.1).mono ?_
  rintro e w' ⟨he, hb⟩
  have hbh : badHead l ⟨#[]⟩ = false := by
    unfold badHead
    have e0 : (l.length == 0) = false := by rw [beq_eq_false_iff_ne]; omega
    have e1 : (l.length == 1) = false := by rw [beq_eq_false_iff_ne]; omega
    rw [e0, e1]
    rfl
  have hbf : badField l = false := by
    unfold badField
    rw [List.any_eq_false]
    intro s hs
    rw [(hF s hs).2]
    decide
  rw [hbh, hbf] at he
  refine ⟨?_, hb⟩
  rw [he]
  simp [lineText, noteTail]
/-- The rest of a field list, at an address. -/
def Flds (w : World) (v : Value) (l : List ByteArray) : Prop := ∃ ad c, v = .slice ad l.length c ∧ Strs w ad l ∧ l.length ≤ c
theorem hex_plain : ∀ d : Nat, d < 16 → (Text.hexDigit d ≠ 10 ∧ Text.hexDigit d ≠ 13 ∧ Text.hexDigit d ≠ 59 ∧ Text.hexDigit d ≠ 35) ∧ Text.hexDigit d ≠ 32 ∧ Text.hexDigit d ≠ 9 := by decide +kernel
def Plainish (c : UInt8) : Prop := (c ≠ 10 ∧ c ≠ 13 ∧ c ≠ 59 ∧ c ≠ 35) ∧ c ≠ 32 ∧ c ≠ 9
theorem fld_of {s : ByteArray} (hz : s.size ≤ 400) (h : ∀ c ∈ s.data.toList, Plainish c) : Fld s :=
  ⟨hz, Fields10.plain_ends (fun c hc => (h c hc).1) (fun c hc => (h c (List.mem_of_mem_head? hc)).2) (fun c hc => (h c (List.mem_of_mem_getLast? hc)).2)⟩
theorem low_plain : ∀ i p, ∀ c ∈ lowHex i p, Plainish c
  | 0, _, c, h => by simp [lowHex] at h
  | i + 1, p, c, h => by
    rw [lowHex, List.mem_append] at h
    rcases h with h | h
    · exact low_plain i _ c h
    · simp only [List.mem_singleton] at h
      rw [h]
      exact hex_plain _ (Nat.mod_lt p (by decide))
theorem at_plain (a b : Int) : ∀ c ∈ atL a b, Plainish c := by
  intro c hc
  unfold atL at hc
  split at hc
  · exact low_plain _ _ c hc
  · rw [List.mem_append, List.mem_append] at hc
    rcases hc with (h | h) | h
    · exact low_plain _ _ c h
    · simp only [List.mem_cons, List.not_mem_nil, or_false, or_self] at h
      subst h
      unfold Plainish
      decide
    · exact low_plain _ _ c h
theorem at_fld {s : ByteArray} {a b : Int} (h : s.data.toList = atL a b) : Fld s := by
  have := atL_le a b
  rw [← h, size_data] at this
  exact fld_of (by omega) (by rw [h]; exact at_plain a b)
theorem More.below {w w' : World} {mv : Value} {mo : Option ByteArray} (h : More w mv mo) (hb : Below w.heap.size w w') : More w' mv mo := by
  cases h with
  | nil => exact .nil
  | one bk c m hc h1 => exact .one bk c m ((hb.cell (p := ⟨bk, 0, none⟩) (World.block_lt_of_cell? _ _ hc)).trans hc) h1
/-- The append of what more is said to a kind and its span. -/
theorem wp_more {ops : Array Oper} {rest : List Oper} {o : Oper} {act : Act} {Q : Exit → Act → World → Prop} (hgd : o.guard = none) (s x : Operand)
    (ho : o.op = .call { callee := .builtin .append, args := #[s, x], argTypes := #[22, 22] }) (W : World) (kind at1 : ByteArray) (mv : Value) (mo : Option ByteArray)
    (hs : act.eval s = .slice (some ⟨W.heap.size, 0, none⟩) 2 2) (hx : act.eval x = mv) (hM : More W mv mo)
    (h : ∀ n ad c w3, Hid (n = ([kind, at1] ++ mo.toList).length) → Strs w3 ad ([kind, at1] ++ mo.toList) → n ≤ c → Below W.heap.size W w3 → wpList Tryz.prog ops Q rest (act.put o.dst (.slice ad n c)) w3) :
    wpList Tryz.prog ops Q (o :: rest) act (W.alloc (.cells #[.string kind, .string at1] 9 (0, 0))) := by
  obtain ⟨i0, hi, hz0, hz1, hz2⟩ := info_parts info_str
  have hA : Below W.heap.size W (W.alloc (.cells #[.string kind, .string at1] 9 (0, 0))) := (Below.refl _ _).alloc (Nat.le_refl _) _
  have hblk := heap_alloc_new W (.cells #[.string kind, .string at1] 9 (0, 0))
  cases hM with
  | nil =>
    refine wpList_append_own_none hgd s x 22 ho W.heap.size 9 i0 1 Tryz.underlying22 hi _ 2 [.string kind, .string at1] hs own_two hx ?_
    refine h 2 _ 2 _ (Lib.hid (by simp)) (.inr ⟨W.heap.size, 0, rfl, by simp, fun j y hy => ?_⟩) (Nat.le_refl _) hA
    rw [Nat.zero_add]
    refine (block_cell (i := j) hblk).trans ?_
    match j, hy with
    | 0, hy => cases hy; rfl
    | 1, hy => cases hy; rfl
    | j + 2, hy => simp at hy
  | one bk c m hc h1 =>
    refine wpList_append_own _ hgd s x 22 ho W.heap.size 9 i0 (.string ⟨#[]⟩) 1 16 Tryz.underlying22 hi hz0 hz1 hz2 rfl (by decide) _ 2 [.string kind, .string at1] hs own_two ⟨bk, 0, none⟩ 1 c [.string m] hx rfl
      (fun j u hu => by
        match j, hu with
        | 0, hu => cases hu; rw [Lib.add_plain]; exact (hA.cell (p := ⟨bk, 0, none⟩) (World.block_lt_of_cell? _ _ hc)).trans hc
        | j + 1, hu => simp at hu)
      (fun u hu => by simp only [List.mem_singleton] at hu; subst hu; rfl) (by unfold maxLen; omega) (by omega) hA.size ?_
    intro v' w3 hown hgrow _
    have hbw : Below W.heap.size W w3 := hA.grown hgrow hA.size (fun k hk => by cases hk; exact Nat.le_refl _)
    rcases hown.2 with ⟨_, h0⟩ | ⟨g, cap, cur, rfl, hg, hcur, hnc, hcm, hcs, htk⟩
    · omega
    · refine h 3 (some ⟨g, 0, none⟩) cap _ (Lib.hid (by simp)) (.inr ⟨g, 0, rfl, block_lt hcur, fun j y hy => ?_⟩) hnc hbw
      have hcell := hown.cells (g := g) rfl j (.string y) (by
        match j, hy with
        | 0, hy => cases hy; rfl
        | 1, hy => cases hy; rfl
        | 2, hy => cases hy; rfl
        | j + 3, hy => simp at hy)
      rw [Lib.add_plain] at hcell
      exact hcell
theorem info_u8 : (Tryz.prog.info? 5).map (fun i => (i.zero, i.size, i.bytes)) = some (some (.int .u8 0), 1, 1) := by kernel_rfl
theorem line_le {kind : ByteArray} {a b : Int} {mo : Option ByteArray} (hk : Fld kind) (hm : ∀ m, mo = some m → Fld m) : (lineL kind.data.toList a b mo).length ≤ 2000 := by
  have h1 := atL_le a b
  have h2 := hk.1
  have e2 := size_data kind
  unfold lineL
  cases mo with
  | none => simp [moreL]; omega
  | some m =>
    have h3 := (hm m rfl).1
    have e3 := size_data m
    simp [moreL]
    omega
theorem own_slice {w : World} {base : Nat} {e : TypeId} {k : Nat} {v : Value} {n : Nat} {xs : List Value} (h : w.ownsRow base e k v n xs) : ∃ a m c, v = .slice a m c := by
  rcases h.2 with ⟨rfl, _⟩ | ⟨g, cap, cur, rfl, _⟩
  · exact ⟨_, _, _, rfl⟩
  · exact ⟨_, _, _, rfl⟩
/-- What a call of put leaves of blocks that are no bytes. -/
def KeepT (OB : Nat) (w w' : World) : Prop := ∀ k cs t, w.heap[k]? = some (.cells cs t (0, 0)) → k ≠ OB → t ≠ (5 : TypeId) → w'.heap[k]? = w.heap[k]?
theorem keep_of {OB base : Nat} {w w4 w5 : World} {v v' : Value} {n : Nat} {xs : List Value} (hb : Below w.heap.size w w4) (hown : w4.ownsRow base 5 1 v n xs) (hg : w4.grownBy w5 v.ownBlock) : KeepT OB w (w5.setCell ⟨OB, 0, none⟩ v') := by
  intro k cs t hk hne ht
  have hlt := block_lt hk
  have h4 := hb.block k hlt
  rw [Below.heap_setCell _ _ _ _ hne, hg.block k (Nat.lt_of_lt_of_le hlt hb.size) ?_, h4]
  intro e
  rcases hown.2 with ⟨rfl, _⟩ | ⟨g, cap, cur, rfl, _, hcur, _⟩
  · cases e
  · cases e
    rw [h4, hk] at hcur
    cases hcur
    exact ht rfl
def hexB (p : Int) : ByteArray := ⟨(hexL p.toNat).toArray⟩
theorem hexB_data (p : Int) : (hexB p).data.toList = hexL p.toNat := rfl
theorem hexB_le (p : Int) : (hexB p).size ≤ 100 := by
  have := atL_le p p
  unfold atL at this
  rw [if_pos rfl, ← hexB_data, size_data] at this
  omega
set_option maxRecDepth 100000 in
set_option maxHeartbeats 1000000 in
theorem put_any (OB base : Nat) (w0 : World) (bs : List UInt8) (kind : ByteArray) (a b : Int) (mv : Value) (mo : Option ByteArray) (w : World) (ha : Sp a b) (hk : Fld kind) (hmf : ∀ m, mo = some m → Fld m) (hM : More w mv mo) (hT : Tabs w) (hst : St OB base w0 bs w) (hbs : bs.length ≤ 1000000000) :
    Calls Tryz.prog 17 #[.string kind, .int .i32 a, .int .i32 b, mv, .pointer (some ⟨OB, 0, none⟩)] w fun e w' => e = .returned (.tuple #[]) ∧ St OB base w0 (bs ++ lineL kind.data.toList a b mo) w' ∧ KeepT OB w w' := by
  obtain ⟨ha0, hab, hb1⟩ := ha
  have HT := Lib.hid hT
  have HST := Lib.hid hst
  have HK := Lib.hid hk
  have HMF := Lib.hid hmf
  have hal : ∀ (W : World) (p : Int), Rs (W.alloc (.cells #[.int .i32 p] 21 (0, 0))) (some ⟨W.heap.size, 0, none⟩) [p] := fun W p => .inr ⟨W.heap.size, 0, rfl, by simp, fun j x hx => by
    have : j = 0 := by have := (List.getElem?_eq_some_iff.1 hx).1; simpa using this
    subst this
    cases hx
    exact (block_cell (i := 0) (heap_alloc_new W _)).trans rfl⟩
  have HTL : Hid (∀ (W : World) (p : Int), 0 ≤ p → p ≤ 1114111 → Below w.heap.size w W → Calls Tryz.prog 18 #[.slice (some ⟨W.heap.size, 0, none⟩) 1 1] (W.alloc (.cells #[.int .i32 p] 21 (0, 0))) fun e w' => e = .returned (.tuple #[.string (hexB p), .int .i64 0]) ∧ Below w.heap.size w w' ∧ w.heap.size ≤ w'.heap.size) := Lib.hid (fun W p h0 h1 hW => by
    have hA : Below W.heap.size W (W.alloc (.cells #[.int .i32 p] 21 (0, 0))) := (Below.refl _ _).alloc (Nat.le_refl _) _
    refine (tell_any (some ⟨W.heap.size, 0, none⟩) [p] 1 (W.alloc (.cells #[.int .i32 p] 21 (0, 0))) (by simp) (hal W p) ((HT.out.below hW).below hA)).mono ?_
    rintro e w' ⟨he, hb⟩
    have hbad : ([p] : List Int).any badRune = false := by unfold badRune; simp; omega
    rw [hbad] at he
    have hs := hW.size
    have hs2 := hA.size
    have hbw : Below w.heap.size w w' := hW.trans ((hA.mono hs).trans (hb.mono (by omega)))
    exact ⟨by rw [he]; simp [tellText, Lib.join, hexB], hbw, hbw.size⟩)
  have hll := line_le (a := a) (b := b) hk hmf
  clear hT hst hal hk hmf
  obtain ⟨iu, hu, hu0, hu1, hu2⟩ := info_parts info_u8
  obtain ⟨i0, hi, hz0, hz1, hz2⟩ := info_parts info_str
  have HXX : Hid (∀ (W : World) (at1 : ByteArray) (ad : Option Addr) (n c : Nat), Below w.heap.size w W → at1.data.toList = atL a b → n = ([kind, at1] ++ mo.toList).length → Strs W ad ([kind, at1] ++ mo.toList) → n ≤ c →
      Calls Tryz.prog 19 #[.agg #[.int .i64 0, .slice ad n c, .string ⟨#[]⟩]] W fun e w' => e = .returned (.tuple #[.string ⟨(lineL kind.data.toList a b mo).toArray⟩, .int .i64 0]) ∧ Below w.heap.size w w') := Lib.hid (by
    rintro W at1 ad n c hW hat rfl hS hc
    refine (flds_any ad _ c W (by simp) (by cases mo <;> simp) ?_ hc hS (HT.out.below hW)).mono ?_
    · intro s hs
      simp only [List.mem_append, List.mem_cons, List.not_mem_nil, or_false, Option.mem_toList] at hs
      rcases hs with (rfl | rfl) | h
      · exact HK.out
      · exact at_fld hat
      · exact HMF.out s h
    · rintro e w' ⟨he, hb⟩
      rw [flds_join hat] at he
      exact ⟨he, hW.trans (hb.mono hW.size)⟩)
  have HMM := Lib.hid hM
  clear hM
  by_cases hne : b = a
  case' pos =>
    have HAT : Hid ((hexB a).data.toList = atL a b) := Lib.hid (by unfold atL; rw [if_pos hne.symm]; rfl)
    have e2 : (b != a) = false := by simp [hne]
    clear hne
    go_enter Tryz.func17, Tryz.ntmps17
    go_wp2_with fail
    refine (HTL.out _ _ ha0 (by omega) (Below.refl _ _)).mono ?_
    rintro e w2 ⟨rfl, hbw, hsz⟩
    generalize hexB a = at1 at *
    clear HTL ha0 hab hb1
    have hm2 := HMM.out.below hbw
    go_wp2_with (at_builtin; refine wp_more rfl _ _ rfl w2 kind at1 mv mo rfl rfl hm2 ?_)
  case' neg =>
    have HAT : Hid ((hexB a ++ ((⟨#[46, 46]⟩ : ByteArray) ++ hexB b)).data.toList = atL a b) := Lib.hid (by
      unfold atL
      rw [if_neg (fun h => hne h.symm), Go.Joins.data_append, Go.Joins.data_append, hexB_data, hexB_data]
      simp)
    have e2 : (b != a) = true := by simp [hne]
    have hq1 := hexB_le a
    have hq2 := hexB_le b
    clear hne
    go_enter Tryz.func17, Tryz.ntmps17
    go_wp2_with fail
    refine (HTL.out _ _ ha0 (by omega) (Below.refl _ _)).mono ?_
    rintro e w1 ⟨rfl, hbw1, hsz1⟩
    generalize hexB a = p1 at *
    go_wp2_with fail
    refine (HTL.out _ _ (by omega) hb1 hbw1).mono ?_
    rintro e w2 ⟨rfl, hbw, hsz⟩
    generalize hexB b = p2 at *
    clear HTL ha0 hab hb1 hbw1 hsz1
    have hm2 := HMM.out.below hbw
    obtain ⟨at1, hat1⟩ : ∃ at1, p1 ++ ((⟨#[46, 46]⟩ : ByteArray) ++ p2) = at1 := ⟨_, rfl⟩
    rw [hat1] at HAT
    have HA1 := Lib.hid hat1
    clear hat1
    go_wp2_with (at_builtin; rw [HA1.out]; refine wp_more rfl _ _ rfl w2 kind at1 mv mo rfl rfl hm2 ?_)
    clear hq1 hq2 HA1
  all_goals
    intro n ad c w3 hn3 hS3 hc3 hb3
    have hw3 := hbw.trans (hb3.mono hsz)
    have HP := Lib.hid (HXX.out w3 at1 ad n c hw3 HAT.out hn3.out hS3 hc3)
    clear hS3 hc3 hb3 hm2 hn3
    go_wp2_with fail
    refine HP.out.mono ?_
    rintro e w4 ⟨rfl, hb4⟩
    have HST4 := Lib.hid (HST.out.below hb4)
    have HB4 := Lib.hid hb4
    obtain ⟨v, hv, hown⟩ := HST4.out.o
    have k0 : w4.cell? ⟨OB, 0, none⟩ = some v := (block_cell (i := 0) hv).trans rfl
    have hbase := HST4.out.z
    have hOB := HST4.out.l
    have HV := Lib.hid hv
    obtain ⟨ln, hln⟩ : ∃ ln : ByteArray, ⟨(lineL kind.data.toList a b mo).toArray⟩ = ln := ⟨_, rfl⟩
    have HLN : Hid (ln.data.toList = lineL kind.data.toList a b mo) := Lib.hid (by rw [← hln])
    have hls : ln.size ≤ 2000 := by rw [← size_data, HLN.out]; exact hll
    rw [hln]
    clear hln hll hb4 hv
    have HOW := Lib.hid hown
    clear hown HST HP HXX
    go_wp2_with (at_builtin; refine wpList_append_own_string _ rfl _ _ 57 9 rfl base 5 iu Tryz.underlying57 Tryz.underlying9 hu hu0 hu1 hu2 v bs.length (bytesV bs) rfl HOW.out ln rfl (by unfold maxLen; omega) (by omega) hbase ?_)
    intro v' w5 hown5 hg5 _
    have hne : some OB ≠ v.ownBlock := fun e => by have := (HOW.out.lt OB e.symm).1; omega
    have hb5 := (hg5.block OB (by omega) hne).trans HV.out
    have f0 := block_free (i := 0) hb5
    have k5 : w5.cell? ⟨OB, 0, none⟩ = some v := (block_cell (i := 0) hb5).trans rfl
    have HFIN := Lib.hid (HST4.out.put HV.out HOW.out hown5 hg5)
    have HKEEP := Lib.hid (keep_of (OB := OB) (v' := v') HB4.out HOW.out hg5)
    obtain ⟨va, vn, vc, rfl⟩ := own_slice hown5
    clear hb5 hown5 hg5 hne
    go_wp2_with fail
    go_end0
    exact ⟨rfl, by rw [← HLN.out]; exact HFIN.out, HKEEP.out⟩
end Go.Proofs.YtgdambmineeboaaGreatDoor.Put

/- The statement's argument, opened: a book's lists as they lie, and how great they are. -/
namespace Go.Proofs.YtgdambmineeboaaGreatDoor.Open
open Go Go.ChangeShapes Go.WideShapes Go.Deep Go.Joins
open Go.Proofs.YtgdambmineeboaaGreatDoor.Print Go.Proofs.YtgdambmineeboaaGreatDoor.RefNine Go.Proofs.YtgdambmineeboaaGreatDoor.Mem Go.Proofs.YtgdambmineeboaaGreatDoor.Book

theorem bulk_pos {H : Type} : ∀ d : DataW H, 1 ≤ Rows.uptoBulk d
  | .lit l => by cases l <;> simp [Rows.uptoBulk]
  | .nil | .ptr _ | .slice .. | .agg _ | .iface .. | .map _ | .held _ => by simp [Rows.uptoBulk]
theorem bulk_mem {H : Type} : ∀ (l : List (DataW H)) (d : DataW H), d ∈ l → Rows.uptoBulk d ≤ Rows.uptoBulkAll l
  | [], _, h => by cases h
  | x :: l, d, h => by
    rcases List.mem_cons.1 h with rfl | h
    · simp only [Rows.uptoBulkAll]; omega
    · have := bulk_mem l d h
      simp only [Rows.uptoBulkAll]; omega
theorem bulk_len {H : Type} : ∀ (l : List (DataW H)), l.length ≤ Rows.uptoBulkAll l
  | [] => Nat.le_refl _
  | x :: l => by
    have := bulk_len l
    have := bulk_pos x
    simp only [Rows.uptoBulkAll, List.length_cons]; omega

section
variable {H : Type} {enc : TypeId × Value → H} {P : Program} {w : World} {base : Nat} {spare : Nat → Bool} {held : Bool}

/-- A slice whose elements are told apart by cells, opened as a list. -/
theorem open_tab {α : Type} [Inhabited α] {k : Nat} {en : α → List Value} (R : α → DataW H → Prop) {t e : TypeId} {fuel : Nat} {c0 : Value} {x : DataW H × List MemPlace} (ht : P.underlying t = some (.slice e)) (hc : P.cellsOf e = k) (hk : 0 < k)
    (hel : ∀ n cs y, DataW.trod enc P w base spare held n e cs = some y → ∃ z, cs = en z ∧ R z y.1)
    (h : DataW.trod enc P w base spare held fuel t [c0] = some x) :
    ∃ (a : Option Addr) (l : List α) (c : Nat), c0 = .slice a l.length c ∧ l.length ≤ c ∧ Tab k en w a l ∧ l.length ≤ Rows.uptoBulk x.1 ∧ ∀ z ∈ l, ∃ d, R z d ∧ Rows.uptoBulk d ≤ Rows.uptoBulk x.1 := by
  rcases open_slice ht h with ⟨h0, rfl⟩ | ⟨a, len, cap, m, n, D, Pl, h0, hb, hl, hm, hmm, rfl, hx⟩
  · obtain rfl : c0 = .slice none 0 0 := by simpa using h0
    exact ⟨none, [], 0, rfl, Nat.le_refl _, .inl rfl, Nat.zero_le _, fun z hz => by cases hz⟩
  · obtain rfl : c0 = .slice (some a) len cap := by simpa using h0
    have hlm : len ≤ m := by rw [hmm]; split <;> omega
    obtain ⟨X, hX⟩ := choose_lt (α := α) (n := m) (p := fun i z => w.cells? base (a.add (i * k)) k = some (en z) ∧ R z (D i)) (fun i hi => by
      obtain ⟨cs', h1, h2⟩ := hx i hi
      rw [hc] at h1
      obtain ⟨z, rfl, hz⟩ := hel n cs' _ h2
      exact ⟨z, h1, hz⟩)
    have hlen : ((List.range len).map X).length = len := by simp
    have hbulk : Rows.uptoBulkAll ((List.range len).map D) ≤ Rows.uptoBulk (DataW.slice ((List.range len).map D) ((List.range (m - len)).map fun j => D (len + j))) := by
      simp only [Rows.uptoBulk]; omega
    refine ⟨some a, (List.range len).map X, cap, by rw [hlen], by rw [hlen]; exact hl, ?_, ?_, ?_⟩
    · rcases Nat.eq_zero_or_pos len with h | hpos
      · left; subst h; rfl
      · right
        obtain ⟨bk, o, sp⟩ := a
        have cell : ∀ i j, i < m → j < k → ∀ v, (en (X i))[j]? = some v → w.cell? (((⟨bk, o, sp⟩ : Addr).add (i * k)).add j) = some v := fun i j hi hj v hv => by
          obtain ⟨_, _, hcell⟩ := World.cells?_some (hX i hi).1
          rw [hcell j hj, hv]
        have hlenk : ∀ i, i < m → (en (X i)).length = k := fun i hi => (World.cells?_some (hX i hi).1).2.1
        have h0c : ∃ v, w.cell? (((⟨bk, o, sp⟩ : Addr).add (0 * k)).add 0) = some v := by
          have : 0 < (en (X 0)).length := by rw [hlenk 0 (by omega)]; exact hk
          exact ⟨_, cell 0 0 (by omega) hk _ (List.getElem?_eq_getElem this)⟩
        obtain ⟨v0, hv0⟩ := h0c
        obtain rfl : sp = none := by simpa [Addr.add] using World.cell?_spot hv0
        refine ⟨bk, o, rfl, by have := World.block_lt_of_cell? w _ hv0; simpa [Addr.add] using this, fun j z hz i v hv => ?_⟩
        have hj : j < len := by have := (List.getElem?_eq_some_iff.1 hz).1; rwa [hlen] at this
        rw [List.getElem?_map, List.getElem?_range hj] at hz
        obtain rfl : X j = z := by simpa using hz
        have hi : i < k := by have := (List.getElem?_eq_some_iff.1 hv).1; rwa [hlenk j (by omega)] at this
        have := cell j i (by omega) hi v hv
        rwa [add_plain, add_plain] at this
    · refine Nat.le_trans ?_ hbulk
      rw [hlen]
      have := bulk_len ((List.range len).map D)
      simpa using this
    · intro z hz
      obtain ⟨i, hi, rfl⟩ := List.mem_map.1 hz
      have hi' : i < len := List.mem_range.1 hi
      exact ⟨D i, (hX i (by omega)).2, Nat.le_trans (bulk_mem _ _ (List.mem_map_of_mem hi)) hbulk⟩
end
section
variable {H : Type} {enc : TypeId × Value → H} {w : World} {base : Nat} {spare : Nat → Bool} {held : Bool}
instance : Inhabited Val := ⟨⟨0, 0, 0⟩⟩
instance : Inhabited Spn := ⟨⟨0, 0⟩⟩
instance : Inhabited Raw := ⟨⟨0, 0, none, 0, []⟩⟩
theorem cells_rune : Tryz.prog.cellsOf 21 = 1 := by kernel_rfl
theorem cells_val : Tryz.prog.cellsOf 65 = 3 := by kernel_rfl
theorem cells_chr : Tryz.prog.cellsOf 68 = 3 := by kernel_rfl
theorem cells_spn : Tryz.prog.cellsOf 71 = 2 := by kernel_rfl
theorem cells_int : Tryz.prog.cellsOf 3 = 1 := by kernel_rfl
theorem cells_runes : Tryz.prog.cellsOf 45 = 1 := by kernel_rfl
theorem cells_str : Tryz.prog.cellsOf 9 = 1 := by kernel_rfl

set_option maxRecDepth 100000 in
theorem one_val (n : Nat) (cs : List Value) (y : DataW H × List MemPlace) (h : DataW.trod enc Tryz.prog w base spare held n 65 cs = some y) : ∃ z : Val, cs = encV z ∧ True := by
  obtain ⟨y0, y1, y2, m, _, hl, h0, h1, h2⟩ := trod_struct3 Tryz.underlying65 h
  rw [cells_val] at hl
  match cs, hl with
  | [a, b, c], _ =>
    simp only [cells_rune, cells_int, List.drop_zero, List.take_succ_cons, List.take_zero, List.drop_succ_cons] at h0 h1 h2
    obtain ⟨p, e0, _⟩ := DataW.trod_int Tryz.underlying21 h0
    obtain ⟨q, e1, _⟩ := DataW.trod_int Tryz.underlying21 h1
    obtain ⟨r, e2, _⟩ := DataW.trod_int Tryz.underlying3 h2
    simp only [List.cons.injEq, and_true] at e0 e1 e2
    subst e0 e1 e2
    exact ⟨⟨p, q, r⟩, rfl, trivial⟩
set_option maxRecDepth 100000 in
theorem one_spn (n : Nat) (cs : List Value) (y : DataW H × List MemPlace) (h : DataW.trod enc Tryz.prog w base spare held n 71 cs = some y) : ∃ z : Spn, cs = encS z ∧ True := by
  obtain ⟨y0, y1, m, _, hl, h0, h1⟩ := trod_struct2 Tryz.underlying71 h
  rw [cells_spn] at hl
  match cs, hl with
  | [a, b], _ =>
    simp only [cells_rune, List.drop_zero, List.take_succ_cons, List.take_zero, List.drop_succ_cons] at h0 h1
    obtain ⟨p, e0, _⟩ := DataW.trod_int Tryz.underlying21 h0
    obtain ⟨q, e1, _⟩ := DataW.trod_int Tryz.underlying21 h1
    simp only [List.cons.injEq, and_true] at e0 e1
    subst e0 e1
    exact ⟨⟨p, q⟩, rfl, trivial⟩
theorem one_rune (n : Nat) (cs : List Value) (y : DataW H × List MemPlace) (h : DataW.trod enc Tryz.prog w base spare held n 21 cs = some y) : ∃ z : Int, cs = [Value.int .i32 z] ∧ True := by
  obtain ⟨p, e0, _⟩ := DataW.trod_int Tryz.underlying21 h
  exact ⟨p, e0, trivial⟩
theorem one_str (n : Nat) (cs : List Value) (y : DataW H × List MemPlace) (h : DataW.trod enc Tryz.prog w base spare held n 9 cs = some y) : ∃ z : ByteArray, cs = [Value.string z] ∧ y.1 = .lit (.string z.data.toList) := by
  obtain ⟨p, e0, rfl, _⟩ := DataW.trod_string Tryz.underlying9 h
  exact ⟨p, e0, rfl⟩
theorem rs_of {a : Option Addr} {l : List Int} (h : Tab 1 (fun z : Int => [Value.int .i32 z]) w a l) : Rs w a l := by
  rcases h with h | ⟨bk, o, h1, h2, h3⟩
  · exact .inl h
  · exact .inr ⟨bk, o, h1, h2, fun j x hx => by have := h3 j x hx 0 _ rfl; rwa [Nat.mul_one, Nat.add_zero] at this⟩
theorem strs_of {a : Option Addr} {l : List ByteArray} (h : Tab 1 (fun z : ByteArray => [Value.string z]) w a l) : Strs w a l := by
  rcases h with h | ⟨bk, o, h1, h2, h3⟩
  · exact .inl h
  · exact .inr ⟨bk, o, h1, h2, fun j x hx => by have := h3 j x hx 0 _ rfl; rwa [Nat.mul_one, Nat.add_zero] at this⟩
set_option maxRecDepth 100000 in
theorem one_chr (n : Nat) (cs : List Value) (y : DataW H × List MemPlace) (h : DataW.trod enc Tryz.prog w base spare held n 68 cs = some y) : ∃ z : Raw, cs = Mem.encR z ∧ (Rs w z.ad z.is ∧ z.is.length ≤ Rows.uptoBulk y.1) := by
  obtain ⟨y0, y1, y2, m, rfl, hl, h0, h1, h2⟩ := trod_struct3 Tryz.underlying68 h
  rw [cells_chr] at hl
  match cs, hl with
  | [a, b, c], _ =>
    simp only [cells_rune, cells_runes, List.drop_zero, List.take_succ_cons, List.take_zero, List.drop_succ_cons] at h0 h1 h2
    obtain ⟨p, e0, _⟩ := DataW.trod_int Tryz.underlying21 h0
    obtain ⟨q, e1, _⟩ := DataW.trod_int Tryz.underlying21 h1
    obtain ⟨ad, is, cap, rfl, _, hT, hb, _⟩ := open_tab (en := fun z : Int => [Value.int .i32 z]) (fun _ _ => True) Tryz.underlying45 cells_rune (by decide) one_rune h2
    simp only [List.cons.injEq, and_true] at e0 e1
    subst e0 e1
    refine ⟨⟨p, q, ad, cap, is⟩, rfl, rs_of hT, ?_⟩
    show _ ≤ Rows.uptoBulk (.agg [y0.1, y1.1, y2.1])
    simp only [Rows.uptoBulk, Rows.uptoBulkAll]
    omega

theorem vals_open {fuel : Nat} {c0 : Value} {x : DataW H × List MemPlace} (h : DataW.trod enc Tryz.prog w base spare held fuel 23 [c0] = some x) :
    ∃ (a : Option Addr) (l : List Val) (c : Nat), c0 = .slice a l.length c ∧ l.length ≤ c ∧ Vals w a l ∧ l.length ≤ Rows.uptoBulk x.1 := by
  obtain ⟨a, l, c, h0, h1, h2, h3, _⟩ := open_tab (en := encV) (fun _ _ => True) Tryz.underlying23 cells_val (by decide) one_val h
  exact ⟨a, l, c, h0, h1, h2, h3⟩
theorem spns_open {fuel : Nat} {c0 : Value} {x : DataW H × List MemPlace} (h : DataW.trod enc Tryz.prog w base spare held fuel 25 [c0] = some x) :
    ∃ (a : Option Addr) (l : List Spn) (c : Nat), c0 = .slice a l.length c ∧ l.length ≤ c ∧ Spns w a l ∧ l.length ≤ Rows.uptoBulk x.1 := by
  obtain ⟨a, l, c, h0, h1, h2, h3, _⟩ := open_tab (en := encS) (fun _ _ => True) Tryz.underlying25 cells_spn (by decide) one_spn h
  exact ⟨a, l, c, h0, h1, h2, h3⟩
theorem chrs_open {fuel : Nat} {c0 : Value} {x : DataW H × List MemPlace} (h : DataW.trod enc Tryz.prog w base spare held fuel 24 [c0] = some x) :
    ∃ (a : Option Addr) (l : List Chr) (c : Nat), c0 = .slice a l.length c ∧ l.length ≤ c ∧ Chrs w a l ∧ l.length ≤ Rows.uptoBulk x.1 ∧ ∀ z ∈ l, z.is.length ≤ Rows.uptoBulk x.1 := by
  obtain ⟨a, l, c, h0, h1, h2, h3, h4⟩ := open_tab (en := Mem.encR) (fun (z : Raw) d => Rs w z.ad z.is ∧ z.is.length ≤ Rows.uptoBulk d) Tryz.underlying24 cells_chr (by decide) one_chr h
  refine ⟨a, l.map Raw.plain, c, by rw [List.length_map]; exact h0, by rw [List.length_map]; exact h1, ⟨l, h2, rfl, fun r hr => ?_⟩, by rw [List.length_map]; exact h3, fun z hz => ?_⟩
  · obtain ⟨d, hd, _⟩ := h4 r hr
    exact hd.1
  · obtain ⟨r, hr, rfl⟩ := List.mem_map.1 hz
    obtain ⟨d, hd, hb⟩ := h4 r hr
    exact Nat.le_trans hd.2 hb
theorem strs_open {fuel : Nat} {c0 : Value} {x : DataW H × List MemPlace} (h : DataW.trod enc Tryz.prog w base spare held fuel 22 [c0] = some x) :
    ∃ (a : Option Addr) (l : List ByteArray) (c : Nat), c0 = .slice a l.length c ∧ l.length ≤ c ∧ Strs w a l ∧ l.length ≤ Rows.uptoBulk x.1 ∧ ∀ z ∈ l, z.size ≤ Rows.uptoBulk x.1 := by
  obtain ⟨a, l, c, h0, h1, h2, h3, h4⟩ := open_tab (en := fun z : ByteArray => [Value.string z]) (fun z d => d = .lit (.string z.data.toList)) Tryz.underlying22 cells_str (by decide) one_str h
  refine ⟨a, l, c, h0, h1, strs_of h2, h3, fun z hz => ?_⟩
  obtain ⟨d, rfl, hb⟩ := h4 z hz
  have : z.data.toList.length = z.size := by rw [Array.length_toList]; rfl
  simp only [Rows.uptoBulk] at hb
  omega
end
end Go.Proofs.YtgdambmineeboaaGreatDoor.Open
