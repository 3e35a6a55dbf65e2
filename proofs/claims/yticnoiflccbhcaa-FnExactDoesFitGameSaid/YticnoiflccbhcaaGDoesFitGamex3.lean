/- Printed functions, their contracts and plain facts on them: PSetFacts; PIsSet; PMaskOf; PSlicesCompare; PIsGame; PVoBefore; PVoBits; PVoSum; PVoGood; PVoSet; PGmGood; PVoWeight; PVoWins; PGmWins; PGoodSets; PSlicesEqualBool; PVotesBy; PWeSame; PDoesFitGame; QLawsHeldIntS; QLawsMarkIntS; PLawInts; QLawsHeldCommittee; QLawsMarkCommittee; PLawCommittee; PLawGame; PLFnExactDoesFitGame; O. Conditions: as each theorem states. -/
import Derived.Deep.Slices
import Derived.Lib.SmallJoins
import Derived.OpenShut
import Derived.ShutString
import Derived.ChangeArms
import Derived.ChangeOld
import Derived.Test.YticnoiflccbhcaaWWords
import Derived.Test.YticnoiflccbhcaaGDoesFitGamex0
import Derived.Test.YticnoiflccbhcaaGDoesFitGamex2
import Derived.Test.YticnoiflccbhcaaGDoesFitGamex1
namespace Go.Proofs.Yticnoiflccbhcaa.Q
open Go.RowKit Go.Proofs.YticnoiflccbhcaaW.PrintWords Go.Proofs.YticnoiflccbhcaaW.PrintLast Go.Proofs.YticnoiflccbhcaaW.PrintMore Go.Proofs.YticnoiflccbhcaaM
set_option linter.unusedVariables false
set_option linter.unusedSimpArgs false
def incB : List Int → Bool
  | a :: b :: l => decide (a < b) && incB (b :: l)
  | _ => true
theorem incB_short {l : List Int} (h : l.length ≤ 1) : incB l = true := by
  cases l with
  | nil => rfl
  | cons a l =>
    cases l with
    | nil => rfl
    | cons b l => simp at h
theorem incB_at (l : List Int) (i : Nat) (h0 : 0 < i) (h : i < l.length) : incB (l.drop (i - 1)) = (decide (l[i - 1] < l[i]) && incB (l.drop i)) := by
  rw [List.drop_eq_getElem_cons (show i - 1 < l.length by omega), show i - 1 + 1 = i by omega, List.drop_eq_getElem_cons h]
  rfl
theorem incB_lt {a : Int} {l : List Int} (h : incB (a :: l) = true) : ∀ x ∈ l, a < x := by
  induction l generalizing a with
  | nil => intro x hx; simp at hx
  | cons b l ih =>
    intro x hx
    simp only [incB, Bool.and_eq_true, decide_eq_true_eq] at h
    rcases List.mem_cons.1 hx with rfl | hx
    · exact h.1
    · have := ih h.2 x hx
      omega
theorem incB_tail {a : Int} {l : List Int} (h : incB (a :: l) = true) : incB l = true := by
  cases l with
  | nil => rfl
  | cons b l =>
    simp only [incB, Bool.and_eq_true] at h
    exact h.2
theorem incB_len (hi : Int) : ∀ (l : List Int) (lo : Int), incB l = true → lo ≤ hi → (∀ x ∈ l, lo ≤ x ∧ x < hi) → (l.length : Int) ≤ hi - lo
  | [], lo, _, h, _ => by simp; omega
  | a :: l, lo, h, _, hb => by
    have h1 := hb a List.mem_cons_self
    have h2 := incB_len hi l (a + 1) (incB_tail h) (by omega) (fun x hx => ⟨by have := incB_lt h x hx; omega, (hb x (List.mem_cons_of_mem _ hx)).2⟩)
    simp only [List.length_cons, Int.natCast_add]
    omega
/-- A set of n members, as a row. -/
def setB (n : Int) (l : List Int) : Bool := (l.all fun x => decide (0 ≤ x) && decide (x ≤ n - 1)) && incB l
theorem setB_in {n : Int} {l : List Int} (h : setB n l = true) : ∀ x ∈ l, 0 ≤ x ∧ x < n := by
  intro x hx
  simp only [setB, Bool.and_eq_true, List.all_eq_true] at h
  have := h.1 x hx
  simp at this
  omega
theorem setB_len {n : Int} {l : List Int} (h : setB n l = true) (h0 : 0 ≤ n) : (l.length : Int) ≤ n := by
  have h1 := setB_in h
  simp only [setB, Bool.and_eq_true] at h
  have := incB_len n l 0 h.2 h0 h1
  omega
/-- The bits of a set. -/
def orBits (m : Nat) (l : List Int) : Nat := l.foldl (fun m x => m ||| 2 ^ x.toNat) m
def maskN (l : List Int) : Nat := orBits 0 l
theorem orBits_lt (n : Nat) : ∀ (l : List Int) (m : Nat), m < 2 ^ n → (∀ x ∈ l, 0 ≤ x ∧ x < (n : Int)) → orBits m l < 2 ^ n
  | [], m, h, _ => h
  | a :: l, m, h, hb => by
    have h1 := hb a List.mem_cons_self
    refine orBits_lt n l (m ||| 2 ^ a.toNat) (Nat.or_lt_two_pow h (Nat.pow_lt_pow_right (by omega) (by omega))) (fun x hx => hb x (List.mem_cons_of_mem _ hx))
theorem maskN_lt (n : Nat) (l : List Int) (hb : ∀ x ∈ l, 0 ≤ x ∧ x < (n : Int)) : maskN l < 2 ^ n := orBits_lt n l 0 (Nat.two_pow_pos n) hb
theorem setB_mask {n : Nat} {l : List Int} (h : setB (n : Int) l = true) : maskN l < 2 ^ n := maskN_lt n l (setB_in h)
/-! games -/
def mAt (l : List (List Int)) (i : Nat) : Nat := maskN (l.getD i [])
def gOrd (l : List (List Int)) (i : Nat) : Bool := decide (i = 0) || decide (cmpL (l.getD (i - 1) []) (l.getD i []) < 0)
def gInI (l : List (List Int)) (i j : Nat) : Bool := decide (j = i) || !(decide (mAt l i &&& mAt l j = mAt l j))
def gInS (l : List (List Int)) (i j : Nat) : Bool := !(decide (mAt l i &&& mAt l j = mAt l i)) && !(decide (mAt l i &&& mAt l j = mAt l j))
def gI (l : List (List Int)) (i : Nat) : Bool := gOrd l i && (List.range' 0 l.length).all (gInI l i)
def gS (l : List (List Int)) (i : Nat) : Bool := gOrd l i && (List.range' 0 i).all (gInS l i)
theorem gIS (l : List (List Int)) : (List.range' 0 l.length).all (gI l) = (List.range' 0 l.length).all (gS l) := by
  rw [Bool.eq_iff_iff, List.all_eq_true, List.all_eq_true]
  constructor
  · intro h i hi
    have h1 := h i hi
    rw [List.mem_range'_1] at hi
    simp only [gI, gS, Bool.and_eq_true, List.all_eq_true] at h1 ⊢
    refine ⟨h1.1, fun j hj => ?_⟩
    rw [List.mem_range'_1] at hj
    have h2 := h1.2 j (by rw [List.mem_range'_1]; omega)
    have h3 := h j (by rw [List.mem_range'_1]; omega)
    simp only [gI, Bool.and_eq_true, List.all_eq_true] at h3
    have h4 := h3.2 i (by rw [List.mem_range'_1]; omega)
    simp only [gInI, Bool.or_eq_true, decide_eq_true_eq, Bool.not_eq_true', decide_eq_false_iff_not] at h2 h4
    simp only [gInS, Bool.and_eq_true, Bool.not_eq_true', decide_eq_false_iff_not]
    refine ⟨fun e => ?_, fun e => ?_⟩
    · rcases h4 with h4 | h4
      · omega
      · rw [Nat.and_comm] at h4
        exact h4 e
    · rcases h2 with h2 | h2
      · omega
      · exact h2 e
  · intro h i hi
    have h1 := h i hi
    rw [List.mem_range'_1] at hi
    simp only [gI, gS, Bool.and_eq_true, List.all_eq_true] at h1 ⊢
    refine ⟨h1.1, fun j hj => ?_⟩
    rw [List.mem_range'_1] at hj
    simp only [gInI, Bool.or_eq_true, decide_eq_true_eq, Bool.not_eq_true', decide_eq_false_iff_not]
    by_cases e : j = i
    · exact .inl e
    · refine .inr fun e2 => ?_
      rcases Nat.lt_or_gt_of_ne e with hlt | hlt
      · have h2 := h1.2 j (by rw [List.mem_range'_1]; omega)
        simp only [gInS, Bool.and_eq_true, Bool.not_eq_true', decide_eq_false_iff_not] at h2
        exact h2.2 e2
      · have h3 := h j (by rw [List.mem_range'_1]; omega)
        simp only [gS, Bool.and_eq_true, List.all_eq_true] at h3
        have h4 := h3.2 i (by rw [List.mem_range'_1]; omega)
        simp only [gInS, Bool.and_eq_true, Bool.not_eq_true', decide_eq_false_iff_not] at h4
        rw [Nat.and_comm] at e2
        exact h4.1 e2
/-- There is a game of n members with these least winning sets. -/
def setsB (n : Int) (l : List (List Int)) : Bool := l.all fun x => !(decide ((x.length : Int) = 0)) && setB n x
def gameB (n : Int) (l : List (List Int)) : Bool := (decide (1 ≤ n) && decide (n ≤ 9)) && (!(decide ((l.length : Int) = 0)) && (setsB n l && (List.range' 0 l.length).all (gS l)))
structure GoodG (n : Int) (l : List (List Int)) : Prop where
  n1 : 1 ≤ n
  n9 : n ≤ 9
  ne : l.length ≠ 0
  sets : ∀ x ∈ l, x.length ≠ 0 ∧ setB n x = true
  gs : ∀ i, i < l.length → gS l i = true
theorem game_iff (n : Int) (l : List (List Int)) : gameB n l = true ↔ GoodG n l := by
  simp only [gameB, setsB, Bool.and_eq_true, decide_eq_true_eq, Bool.not_eq_true', decide_eq_false_iff_not, List.all_eq_true]
  constructor
  · rintro ⟨⟨h1, h2⟩, h3, h4, h5⟩
    exact ⟨h1, h2, by omega, fun x hx => ⟨by have := (h4 x hx).1; omega, (h4 x hx).2⟩, fun i hi => h5 i (by rw [List.mem_range'_1]; omega)⟩
  · intro h
    exact ⟨⟨h.n1, h.n9⟩, by have := h.ne; omega, fun x hx => ⟨by have := (h.sets x hx).1; omega, (h.sets x hx).2⟩, fun i hi => h.gs i (by rw [List.mem_range'_1] at hi; omega)⟩
theorem setsB_mask {n : Int} {l : List (List Int)} (h : setsB n l = true) (h9 : n ≤ 9) : ∀ x ∈ l, (∀ y ∈ x, 0 ≤ y ∧ y ≤ 8) ∧ maskN x < 512 := by
  intro x hx
  simp only [setsB, List.all_eq_true, Bool.and_eq_true] at h
  have h1 := setB_in (h x hx).2
  have h2 : ∀ y ∈ x, 0 ≤ y ∧ y < ((9 : Nat) : Int) := fun y hy => by have := h1 y hy; omega
  exact ⟨fun y hy => by have := h1 y hy; omega, maskN_lt 9 x h2⟩
theorem game_few {n : Int} {l : List (List Int)} (h9 : n ≤ 9) (hs : setsB n l = true) (hg : (List.range' 0 l.length).all (gS l) = true) : l.length ≤ 126 := by
  have h := sperner (l.map maskN) (fun m hm => by
    obtain ⟨x, hx, rfl⟩ := List.mem_map.1 hm
    exact (setsB_mask hs h9 x hx).2) (by
    rw [List.pairwise_iff_getElem]
    intro i j hi hj hij
    rw [List.length_map] at hi hj
    have h1 := List.all_eq_true.1 hg j (by rw [List.mem_range'_1]; omega)
    simp only [gS, Bool.and_eq_true, List.all_eq_true] at h1
    have h2 := h1.2 i (by rw [List.mem_range'_1]; omega)
    simp only [gInS, Bool.and_eq_true, Bool.not_eq_true', decide_eq_false_iff_not] at h2
    rw [show mAt l i = maskN l[i] by simp [mAt, hi], show mAt l j = maskN l[j] by simp [mAt, hj]] at h2
    rw [List.getElem_map, List.getElem_map]
    refine ⟨fun e => h2.2 ?_, fun e => h2.1 ?_⟩
    · rw [Nat.and_comm]; exact e
    · rw [Nat.and_comm]; exact e)
  simpa using h
/-- Which sets win by sets. -/
def winsG (n : Nat) (l : List (List Int)) : List Bool := (List.range (2 ^ n)).map fun m => l.any fun x => decide (m &&& maskN x = maskN x)
theorem winsG_length (n : Nat) (l : List (List Int)) : (winsG n l).length = 2 ^ n := by simp [winsG]
theorem winsG_get (n : Nat) (l : List (List Int)) (m : Nat) (h : m < (winsG n l).length) : (winsG n l)[m] = l.any fun x => decide (m &&& maskN x = maskN x) := by simp [winsG]
end Go.Proofs.Yticnoiflccbhcaa.Q

namespace Go.Proofs.Yticnoiflccbhcaa.Q
open Go.RowKit Go.Proofs.YticnoiflccbhcaaW.PrintWords Go.Proofs.YticnoiflccbhcaaW.PrintLast Go.Proofs.YticnoiflccbhcaaW.PrintMore Go.Proofs.YticnoiflccbhcaaM
set_option linter.unusedVariables false
set_option linter.unusedSimpArgs false
theorem impl_isIncreasing.ev_l (l : List Int) (hl : l.length ≤ 9223372036854775807) : ∀ (d i : Nat), i + d = l.length → Ev (fun k => impl_isIncreasing.l0 k l (l.length : Int) (i : Int)) (incB (l.drop (i - 1))) := by
  intro d
  induction d with
  | zero =>
    intro i h
    refine ev_step ?_
    simp only [impl_isIncreasing.l0]
    rw [ev_neg (by omega), ev_now, incB_short (by rw [List.length_drop]; omega)]
  | succ d ih =>
    intro i h
    refine ev_step ?_
    simp only [impl_isIncreasing.l0]
    have hi : i < l.length := by omega
    rw [ev_pos (by omega), w64i (n := l.length) (by omega) (by omega) hl]
    by_cases h0 : i = 0
    · subst h0
      rw [ev_neg (by omega)]
      exact ih 1 (by omega)
    · have e1 : (i : Int) - 1 = ((i - 1 : Nat) : Int) := by omega
      rw [ev_pos (by omega), ev_pos (by omega), ev_pos (by omega), w64 (by omega) (by omega), e1, ev_pos (by omega), ev_pos (by omega), rd_lt l i hi, rd_lt l (i - 1) (by omega), incB_at l i (by omega) hi]
      by_cases hc : l[i] ≤ l[i - 1]
      · rw [ev_pos hc, ev_now, decide_eq_false (by omega), Bool.false_and]
      · rw [ev_neg hc, decide_eq_true (by omega), Bool.true_and]
        have := ih (i + 1) (by omega)
        rw [Nat.add_sub_cancel] at this
        exact this
theorem impl_isIncreasing.ev (l : List Int) (hl : l.length ≤ 9223372036854775807) : Ev (fun k => impl_isIncreasing.f k l) (incB l) := impl_isIncreasing.ev_l l hl l.length 0 (by omega)
theorem impl_isSet.ev (l : List Int) (n : Int) (h0 : 0 ≤ n) (h9 : n ≤ 1000) (hl : l.length ≤ 9223372036854775807) : Ev (fun k => impl_isSet.f k l n) (setB n l) := by
  simp only [impl_isSet.f]
  rw [w64 (by omega) (by omega), ev_bind (ev_of (show impl_areIn.f l 0 (n - 1) = some _ from rfl))]
  unfold setB
  cases (l.all fun x => decide (0 ≤ x) && decide (x ≤ n - 1)) with
  | true => rw [ev_pos rfl, ev_bind (impl_isIncreasing.ev l hl), ev_now, Bool.true_and]
  | false => rw [ev_neg (by simp), ev_now, Bool.false_and]
end Go.Proofs.Yticnoiflccbhcaa.Q

namespace Go.Proofs.Yticnoiflccbhcaa.Q
open Go.RowKit Go.Proofs.YticnoiflccbhcaaW.PrintWords Go.Proofs.YticnoiflccbhcaaW.PrintLast Go.Proofs.YticnoiflccbhcaaW.PrintMore Go.Proofs.YticnoiflccbhcaaM
set_option linter.unusedVariables false
set_option linter.unusedSimpArgs false
theorem orBits_lt61 (l : List Int) (m : Nat) (hm : m < 2 ^ 61) (h : ∀ x ∈ l, 0 ≤ x ∧ x ≤ 60) : orBits m l < 2 ^ 61 := orBits_lt 61 l m hm (fun x hx => by have := h x hx; omega)
theorem impl_maskOf.ev_l (l : List Int) (hl : l.length ≤ 9223372036854775807) (hx : ∀ x ∈ l, 0 ≤ x ∧ x ≤ 60) : ∀ (d i m : Nat), i + d = l.length → m < 2 ^ 61 → Ev (fun k => impl_maskOf.l0 k (m : Int) l (l.length : Int) (i : Int)) ((orBits m (l.drop i) : Nat) : Int) := by
  intro d
  induction d with
  | zero =>
    intro i m h hm
    refine ev_step ?_
    simp only [impl_maskOf.l0]
    rw [ev_neg (by omega), ev_now, List.drop_of_length_le (by omega)]
    rfl
  | succ d ih =>
    intro i m h hm
    refine ev_step ?_
    simp only [impl_maskOf.l0]
    have hi : i < l.length := by omega
    have hxi := hx l[i] (List.getElem_mem hi)
    obtain ⟨c, hc⟩ := Int.eq_ofNat_of_zero_le hxi.1
    have hp : 2 ^ c ≤ 2 ^ 60 := Nat.pow_le_pow_right (by omega) (by omega)
    have ho : m ||| 2 ^ c < 2 ^ 61 := Nat.or_lt_two_pow hm (by omega)
    rw [ev_pos (by omega), ev_pos (by omega), ev_pos (by omega), rd_lt l i hi, hc, ev_pos (by omega), w64i (n := l.length) (by omega) (by omega) hl, shl_one c (by omega), or_nat m (2 ^ c) (by omega) (by omega)]
    have := ih (i + 1) (m ||| 2 ^ c) (by omega) ho
    rw [List.drop_eq_getElem_cons hi]
    show Ev _ ((orBits (m ||| 2 ^ l[i].toNat) (l.drop (i + 1)) : Nat) : Int)
    rw [hc]
    exact this
theorem impl_maskOf.ev (l : List Int) (hl : l.length ≤ 9223372036854775807) (hx : ∀ x ∈ l, 0 ≤ x ∧ x ≤ 60) : Ev (fun k => impl_maskOf.f k l) ((maskN l : Nat) : Int) := impl_maskOf.ev_l l hl hx l.length 0 0 (by omega) (by omega)
end Go.Proofs.Yticnoiflccbhcaa.Q

namespace Go.Proofs.Yticnoiflccbhcaa.Q
open Go.RowKit Go.Proofs.YticnoiflccbhcaaW.PrintWords Go.Proofs.YticnoiflccbhcaaW.PrintLast Go.Proofs.YticnoiflccbhcaaW.PrintMore Go.Proofs.YticnoiflccbhcaaM
set_option linter.unusedVariables false
set_option linter.unusedSimpArgs false
theorem cmp_Compare_int.v (a b : Int) : cmp_Compare_int.f a b = some (if a < b then -1 else if b < a then 1 else 0) := by
  have h : ∀ x : Int, cmp_isNaN_int.f x = some false := fun x => by simp [cmp_isNaN_int.f]
  simp only [cmp_Compare_int.f, h, Option.bind_some, Bool.false_eq_true, if_false]
  by_cases h1 : a < b
  · rw [if_pos h1, if_pos h1]
  · by_cases h2 : b < a
    · rw [if_neg h1, if_pos h2, if_neg h1, if_pos h2]
    · rw [if_neg h1, if_neg h2, if_neg h1, if_neg h2]
theorem slices_Compare_int_int.ev_l (a b : List Int) (ha : a.length ≤ 9223372036854775807) : ∀ (d i : Nat), i + d = a.length → i ≤ b.length → a.take i = b.take i → Ev (fun k => slices_Compare_int_int.l0 k a b a (a.length : Int) (i : Int)) (cmpL (a.drop i) (b.drop i)) := by
  intro d
  induction d with
  | zero =>
    intro i h hb _
    refine ev_step ?_
    simp only [slices_Compare_int_int.l0]
    rw [ev_neg (by omega), List.drop_of_length_le (by omega)]
    by_cases hc : (a.length : Int) < (b.length : Int)
    · rw [ev_pos hc, ev_now, List.drop_eq_getElem_cons (by omega)]
      rfl
    · rw [ev_neg hc, ev_now, List.drop_of_length_le (by omega)]
      rfl
  | succ d ih =>
    intro i h hb ht
    refine ev_step ?_
    simp only [slices_Compare_int_int.l0]
    have hi : i < a.length := by omega
    rw [ev_pos (by omega), ev_pos (by omega), ev_pos (by omega)]
    by_cases hc : (i : Int) ≥ (b.length : Int)
    · rw [ev_pos hc, ev_now, List.drop_eq_getElem_cons hi, List.drop_of_length_le (by omega : b.length ≤ i)]
      rfl
    · have hib : i < b.length := by omega
      rw [ev_neg hc, ev_pos (by omega), rd_lt a i hi, rd_lt b i hib, ev_bind (ev_of (cmp_Compare_int.v _ _)), w64i (n := a.length) (by omega) (by omega) ha, List.drop_eq_getElem_cons hi, List.drop_eq_getElem_cons hib]
      simp only [cmpL]
      by_cases h1 : a[i] < b[i]
      · rw [if_pos h1, ev_neg (by decide), ev_now, if_pos h1]
      · by_cases h2 : b[i] < a[i]
        · rw [if_neg h1, if_pos h2, ev_neg (by decide), ev_now, if_neg h1, if_pos h2]
        · rw [if_neg h1, if_neg h2, ev_pos rfl, if_neg h1, if_neg h2]
          refine ih (i + 1) (by omega) (by omega) ?_
          rw [List.take_succ_eq_append_getElem hi, List.take_succ_eq_append_getElem hib, ht, show a[i] = b[i] by omega]
theorem slices_Compare_int_int.ev (a b : List Int) (ha : a.length ≤ 9223372036854775807) : Ev (fun k => slices_Compare_int_int.f k a b) (cmpL a b) := slices_Compare_int_int.ev_l a b ha a.length 0 (by omega) (by omega) (by simp)
end Go.Proofs.Yticnoiflccbhcaa.Q

namespace Go.Proofs.Yticnoiflccbhcaa.Q
open Go.RowKit Go.Proofs.YticnoiflccbhcaaW.PrintWords Go.Proofs.YticnoiflccbhcaaW.PrintLast Go.Proofs.YticnoiflccbhcaaW.PrintMore Go.Proofs.YticnoiflccbhcaaM
set_option linter.unusedVariables false
set_option linter.unusedSimpArgs false
theorem rd_L2_lt (l : List (List Int)) (i : Nat) (h : i < l.length) : rd_L2 l (i : Int) = l[i] := by simp [rd_L2, h]
theorem rd_L2_at (l : List (List Int)) (i : Nat) : rd_L2 l (i : Int) = l.getD i [] := by simp [rd_L2]
theorem impl_areSets.ev (l : List (List Int)) (n : Int) (h0 : 0 ≤ n) (h9 : n ≤ 1000) (hl : ∀ x ∈ l, x.length ≤ 9223372036854775807) : Ev (fun k => impl_areSets.f k l n) (setsB n l) := by
  simp only [impl_areSets.f]
  have h : Ev (fun k => anyO (impl_areSets_1.f k n) l) (l.any fun x => decide ((x.length : Int) = 0) || !(setB n x)) := by
    refine ev_anyO (fun x hx => ?_)
    simp only [impl_areSets_1.f]
    by_cases hc : (x.length : Int) = 0
    · rw [ev_pos hc, ev_now, decide_eq_true hc, Bool.true_or]
    · rw [ev_neg hc, ev_bind (impl_isSet.ev x n h0 h9 (hl x hx)), ev_now, decide_eq_false hc, Bool.false_or]
  rw [ev_bind h, ev_now, setsB]
  clear h hl
  induction l with
  | nil => rfl
  | cons x l ih => rw [List.any_cons, List.all_cons, ← ih, Bool.not_or, Bool.not_or, Bool.not_not]
theorem gOrd_pos (l : List (List Int)) (i : Nat) (h0 : i ≠ 0) (hi : i < l.length) : gOrd l i = decide (cmpL (l[i - 1]'(by omega)) l[i] < 0) := by
  unfold gOrd
  rw [decide_eq_false h0, Bool.false_or, List.getD_eq_getElem?_getD, List.getD_eq_getElem?_getD, List.getElem?_eq_getElem hi, List.getElem?_eq_getElem (show i - 1 < l.length by omega)]
  rfl
theorem mAt_lt (l : List (List Int)) (i : Nat) (hi : i < l.length) : mAt l i = maskN l[i] := by simp [mAt, hi]
theorem impl_IsGame.ev_l1 (n : Int) (l : List (List Int)) (hl : l.length ≤ 9223372036854775807) (hs : ∀ x ∈ l, x.length ≤ 9223372036854775807 ∧ (∀ y ∈ x, 0 ≤ y ∧ y ≤ 8) ∧ maskN x < 512) (i : Nat) (hi : i < l.length) (R : Bool) (hR : Ev (fun k => impl_IsGame.l0 k l (l.length : Int) ((i : Int) + 1) n l) R) : ∀ (d j : Nat), j + d = l.length → Ev (fun k => impl_IsGame.l1 k (i : Int) l[i] l (l.length : Int) (i : Int) l (l.length : Int) (j : Int) n l) ((List.range' j d).all (gInI l i) && R) := by
  intro d
  induction d with
  | zero =>
    intro j h
    refine ev_step ?_
    simp only [impl_IsGame.l1]
    rw [ev_neg (by omega), w64i (n := l.length) (by omega) (by omega) hl]
    exact hR
  | succ d ih =>
    intro j h
    refine ev_step ?_
    simp only [impl_IsGame.l1]
    have hj : j < l.length := by omega
    rw [ev_pos (by omega), ev_pos (by omega), ev_pos (by omega), w64i (i := (j : Int)) (n := l.length) (by omega) (by omega) hl, List.range'_succ, List.all_cons]
    by_cases e : j = i
    · rw [ev_pos (by omega), show gInI l i j = true by simp [gInI, e], Bool.true_and]
      exact ih (j + 1) (by omega)
    · obtain ⟨hx1, hx2, hx3⟩ := hs l[i] (List.getElem_mem hi)
      obtain ⟨hy1, hy2, hy3⟩ := hs l[j] (List.getElem_mem hj)
      have m1 := impl_maskOf.ev l[i] hx1 (fun y hy => by have := hx2 y hy; omega)
      have m2 := impl_maskOf.ev l[j] hy1 (fun y hy => by have := hy2 y hy; omega)
      rw [ev_neg (by omega), ev_bind m1, rd_L2_lt l j hj, ev_bind m2, ev_bind m2, and_nat _ _ (by omega) (by omega)]
      by_cases c : maskN l[i] &&& maskN l[j] = maskN l[j]
      · rw [ev_pos (by rw [c]), ev_now, gInI, mAt_lt l i hi, mAt_lt l j hj, decide_eq_false e, decide_eq_true c]
        rfl
      · rw [ev_neg (by omega), gInI, mAt_lt l i hi, mAt_lt l j hj, decide_eq_false e, decide_eq_false c]
        exact ih (j + 1) (by omega)
theorem impl_IsGame.ev_l0 (n : Int) (l : List (List Int)) (hl : l.length ≤ 9223372036854775807) (hs : ∀ x ∈ l, x.length ≤ 9223372036854775807 ∧ (∀ y ∈ x, 0 ≤ y ∧ y ≤ 8) ∧ maskN x < 512) : ∀ (d i : Nat), i + d = l.length → Ev (fun k => impl_IsGame.l0 k l (l.length : Int) (i : Int) n l) ((List.range' i d).all (gI l)) := by
  intro d
  induction d with
  | zero =>
    intro i h
    refine ev_step ?_
    simp only [impl_IsGame.l0]
    rw [ev_neg (by omega), ev_now]
    rfl
  | succ d ih =>
    intro i h
    refine ev_step ?_
    simp only [impl_IsGame.l0]
    have hi : i < l.length := by omega
    rw [ev_pos (by omega), ev_pos (by omega), ev_pos (by omega), rd_L2_lt l i hi, List.range'_succ, List.all_cons]
    have hin : Ev (fun k => impl_IsGame.l1 k (i : Int) l[i] l (l.length : Int) (i : Int) l (l.length : Int) ((0 : Nat) : Int) n l) ((List.range' 0 l.length).all (gInI l i) && (List.range' (i + 1) d).all (gI l)) := impl_IsGame.ev_l1 n l hl hs i hi _ (by have := ih (i + 1) (by omega); exact this) l.length 0 (by omega)
    by_cases e : i = 0
    · rw [ev_neg (by omega)]
      refine ev_step ?_
      simp only [impl_IsGame.j2]
      rw [ev_neg (by decide), gI, show gOrd l i = true by simp [gOrd, e], Bool.true_and]
      exact hin
    · have e1 : (i : Int) - 1 = ((i - 1 : Nat) : Int) := by omega
      rw [ev_pos (by omega), w64 (by omega) (by omega), e1, ev_pos (by omega), ev_pos (by omega), rd_L2_lt l (i - 1) (by omega), ev_bind (slices_Compare_int_int.ev _ _ (hs _ (List.getElem_mem (by omega))).1)]
      refine ev_step ?_
      simp only [impl_IsGame.j2]
      rw [gI, gOrd_pos l i e hi]
      by_cases c : cmpL (l[i - 1]'(by omega)) l[i] < 0
      · rw [ev_neg (by simp; omega), decide_eq_true c, Bool.true_and]
        exact hin
      · rw [ev_pos (by simp; omega), ev_now, decide_eq_false c]
        rfl
theorem impl_IsGame.ev (n : Int) (l : List (List Int)) (hl : l.length ≤ 9223372036854775807) (hx : ∀ x ∈ l, x.length ≤ 9223372036854775807) : Ev (fun k => impl_IsGame.f k n l) (gameB n l) := by
  simp only [impl_IsGame.f]
  rw [ev_bind (ev_of (impl_within.v _ _ _)), gameB]
  cases h1 : (decide (1 ≤ n) && decide (n ≤ 9)) with
  | false =>
    rw [ev_neg (by decide)]
    refine ev_step ?_
    simp only [impl_IsGame.j0]
    rw [ev_pos trivial, ev_now]
    rfl
  | true =>
    simp only [Bool.and_eq_true, decide_eq_true_eq] at h1
    rw [ev_pos rfl, Bool.true_and]
    by_cases h2 : (l.length : Int) = 0
    · rw [ev_pos h2, decide_eq_true h2]
      refine ev_step ?_
      simp only [impl_IsGame.j0]
      rw [ev_pos trivial, ev_now]
      rfl
    · rw [ev_neg h2, decide_eq_false h2, ev_bind (impl_areSets.ev l n (by omega) (by omega) hx)]
      refine ev_step ?_
      simp only [impl_IsGame.j0]
      cases h3 : setsB n l with
      | false =>
        rw [ev_pos (by decide), ev_now]
        rfl
      | true =>
        rw [ev_neg (by decide), ← gIS]
        exact impl_IsGame.ev_l0 n l hl (fun x hx' => ⟨hx x hx', setsB_mask h3 (by omega) x hx'⟩) l.length 0 (by omega)
end Go.Proofs.Yticnoiflccbhcaa.Q

namespace Go.Proofs.Yticnoiflccbhcaa.Q
open Go.RowKit Go.Proofs.YticnoiflccbhcaaW.PrintWords Go.Proofs.YticnoiflccbhcaaW.PrintLast Go.Proofs.YticnoiflccbhcaaW.PrintMore Go.Proofs.YticnoiflccbhcaaM
set_option linter.unusedVariables false
set_option linter.unusedSimpArgs false
theorem spec_voBefore.ev_l (a b : List Int) (ha : a.length ≤ 9223372036854775807) : ∀ (d i : Nat), i + d = a.length → i ≤ b.length → Ev (fun k => spec_voBefore.l0 k a b (i : Int)) (decide (cmpL (a.drop i) (b.drop i) < 0)) := by
  intro d
  induction d with
  | zero =>
    intro i h hb
    refine ev_step ?_
    simp only [spec_voBefore.l0]
    rw [ev_neg (by omega)]
    refine ev_step ?_
    simp only [spec_voBefore.j1]
    rw [ev_neg (by simp), ev_now, List.drop_of_length_le (by omega)]
    by_cases hc : (a.length : Int) < (b.length : Int)
    · rw [decide_eq_true hc, List.drop_eq_getElem_cons (by omega)]
      rfl
    · rw [decide_eq_false hc, List.drop_of_length_le (by omega)]
      rfl
  | succ d ih =>
    intro i h hb
    refine ev_step ?_
    simp only [spec_voBefore.l0]
    have hi : i < a.length := by omega
    rw [ev_pos (by omega)]
    refine ev_step ?_
    simp only [spec_voBefore.j1]
    by_cases hc : (i : Int) < (b.length : Int)
    · have hib : i < b.length := by omega
      rw [ev_pos (decide_eq_true hc), ev_pos (by omega), ev_pos (by omega), ev_pos (by omega), rd_lt a i hi, rd_lt b i hib, w64i (n := a.length) (by omega) (by omega) ha, List.drop_eq_getElem_cons hi, List.drop_eq_getElem_cons hib]
      by_cases h1 : a[i] = b[i]
      · have e : cmpL (a[i] :: a.drop (i + 1)) (b[i] :: b.drop (i + 1)) = cmpL (a.drop (i + 1)) (b.drop (i + 1)) := by simp only [cmpL]; rw [if_neg (by omega), if_neg (by omega)]
        rw [ev_pos h1, e]
        exact ih (i + 1) (by omega) (by omega)
      · rw [ev_neg h1, ev_now]
        by_cases h2 : a[i] < b[i]
        · have e : cmpL (a[i] :: a.drop (i + 1)) (b[i] :: b.drop (i + 1)) = -1 := by simp only [cmpL]; rw [if_pos h2]
          rw [e, decide_eq_true h2]; rfl
        · have e : cmpL (a[i] :: a.drop (i + 1)) (b[i] :: b.drop (i + 1)) = 1 := by simp only [cmpL]; rw [if_neg h2, if_pos (by omega)]
          rw [e, decide_eq_false h2]; rfl
    · rw [ev_neg (by simp; omega), ev_now, List.drop_eq_getElem_cons hi, List.drop_of_length_le (by omega : b.length ≤ i), decide_eq_false (by omega)]
      rfl
theorem spec_voBefore.ev (a b : List Int) (ha : a.length ≤ 9223372036854775807) : Ev (fun k => spec_voBefore.f k a b) (decide (cmpL a b < 0)) := spec_voBefore.ev_l a b ha a.length 0 (by omega) (by omega)
end Go.Proofs.Yticnoiflccbhcaa.Q

namespace Go.Proofs.Yticnoiflccbhcaa.Q
open Go.RowKit Go.Proofs.YticnoiflccbhcaaW.PrintWords Go.Proofs.YticnoiflccbhcaaW.PrintLast Go.Proofs.YticnoiflccbhcaaW.PrintMore Go.Proofs.YticnoiflccbhcaaM
set_option linter.unusedVariables false
set_option linter.unusedSimpArgs false
theorem spec_voBits.ev_l (l : List Int) (hl : l.length ≤ 9223372036854775807) (hx : ∀ x ∈ l, 0 ≤ x ∧ x ≤ 60) : ∀ (d i m : Nat), i + d = l.length → m < 2 ^ 61 → Ev (fun k => spec_voBits.l0 k (m : Int) l (l.length : Int) (i : Int)) ((orBits m (l.drop i) : Nat) : Int) := by
  intro d
  induction d with
  | zero =>
    intro i m h hm
    refine ev_step ?_
    simp only [spec_voBits.l0]
    rw [ev_neg (by omega), ev_now, List.drop_of_length_le (by omega)]
    rfl
  | succ d ih =>
    intro i m h hm
    refine ev_step ?_
    simp only [spec_voBits.l0]
    have hi : i < l.length := by omega
    have hxi := hx l[i] (List.getElem_mem hi)
    obtain ⟨c, hc⟩ := Int.eq_ofNat_of_zero_le hxi.1
    have hp : 2 ^ c ≤ 2 ^ 60 := Nat.pow_le_pow_right (by omega) (by omega)
    have ho : m ||| 2 ^ c < 2 ^ 61 := Nat.or_lt_two_pow hm (by omega)
    rw [ev_pos (by omega), ev_pos (by omega), ev_pos (by omega), rd_lt l i hi, hc, ev_pos (by omega), w64i (n := l.length) (by omega) (by omega) hl, shl_one c (by omega), or_nat m (2 ^ c) (by omega) (by omega)]
    have := ih (i + 1) (m ||| 2 ^ c) (by omega) ho
    rw [List.drop_eq_getElem_cons hi]
    show Ev _ ((orBits (m ||| 2 ^ l[i].toNat) (l.drop (i + 1)) : Nat) : Int)
    rw [hc]
    exact this
theorem spec_voBits.ev (l : List Int) (hl : l.length ≤ 9223372036854775807) (hx : ∀ x ∈ l, 0 ≤ x ∧ x ≤ 60) : Ev (fun k => spec_voBits.f k l) ((maskN l : Nat) : Int) := spec_voBits.ev_l l hl hx l.length 0 0 (by omega) (by omega)
end Go.Proofs.Yticnoiflccbhcaa.Q

namespace Go.Proofs.Yticnoiflccbhcaa.Q
open Go.RowKit Go.Proofs.YticnoiflccbhcaaW.PrintWords Go.Proofs.YticnoiflccbhcaaW.PrintLast Go.Proofs.YticnoiflccbhcaaW.PrintMore Go.Proofs.YticnoiflccbhcaaM
set_option linter.unusedVariables false
set_option linter.unusedSimpArgs false
theorem spec_voSum.ev_l (l : List Int) (hl : l.length ≤ 9223372036854775807) : ∀ (d i : Nat) (s : Int), i + d = l.length → Ev (fun k => spec_voSum.l0 k s l (l.length : Int) (i : Int)) (wfold (l.drop i) s) := by
  intro d
  induction d with
  | zero =>
    intro i s h
    refine ev_step ?_
    simp only [spec_voSum.l0]
    rw [ev_neg (by omega), ev_now, List.drop_of_length_le (by omega)]
    rfl
  | succ d ih =>
    intro i s h
    refine ev_step ?_
    simp only [spec_voSum.l0]
    have hi : i < l.length := by omega
    rw [ev_pos (by omega), ev_pos (by omega), ev_pos (by omega), w64i (n := l.length) (by omega) (by omega) hl, rd_lt l i hi, wfold_take l i hi]
    exact ih (i + 1) _ (by omega)
theorem spec_voSum.ev (l : List Int) (hl : l.length ≤ 9223372036854775807) : Ev (fun k => spec_voSum.f k l) (wfold l 0) := spec_voSum.ev_l l hl l.length 0 0 (by omega)
end Go.Proofs.Yticnoiflccbhcaa.Q

namespace Go.Proofs.Yticnoiflccbhcaa.Q
open Go.RowKit Go.Proofs.YticnoiflccbhcaaW.PrintWords Go.Proofs.YticnoiflccbhcaaW.PrintLast Go.Proofs.YticnoiflccbhcaaW.PrintMore Go.Proofs.YticnoiflccbhcaaM
set_option linter.unusedVariables false
set_option linter.unusedSimpArgs false
theorem spec_l1In.v (a b c : Int) : spec_l1In.f a b c = some (decide (b ≤ a) && decide (a ≤ c)) := by
  unfold spec_l1In.f
  by_cases h : b ≤ a
  · rw [if_pos h]; simp [h]
  · rw [if_neg h]; simp [h]
theorem spec_l1All.ev_l (l : List Int) (lo hi : Int) (hl : l.length ≤ 9223372036854775807) : ∀ (d i : Nat), i + d = l.length → Ev (fun k => spec_l1All.l0 k lo hi l (l.length : Int) (i : Int)) ((l.drop i).all fun x => decide (lo ≤ x) && decide (x ≤ hi)) := by
  intro d
  induction d with
  | zero =>
    intro i h
    refine ev_step ?_
    simp only [spec_l1All.l0]
    rw [ev_neg (by omega), ev_now, List.drop_of_length_le (by omega)]
    rfl
  | succ d ih =>
    intro i h
    refine ev_step ?_
    simp only [spec_l1All.l0]
    have hi' : i < l.length := by omega
    rw [ev_pos (by omega), ev_pos (by omega), ev_pos (by omega), w64i (n := l.length) (by omega) (by omega) hl, rd_lt l i hi', List.drop_eq_getElem_cons hi', List.all_cons, ev_bind (ev_of (spec_l1In.v _ _ _))]
    cases hb : (decide (lo ≤ l[i]) && decide (l[i] ≤ hi)) with
    | true =>
      rw [ev_pos rfl, Bool.true_and]
      exact ih (i + 1) (by omega)
    | false =>
      rw [ev_neg (by decide), ev_now]
      rfl
theorem spec_l1All.ev (l : List Int) (lo hi : Int) (hl : l.length ≤ 9223372036854775807) : Ev (fun k => spec_l1All.f k l lo hi) (l.all fun x => decide (lo ≤ x) && decide (x ≤ hi)) := spec_l1All.ev_l l lo hi hl l.length 0 (by omega)
theorem spec_voGood.ev (q : Int) (l : List Int) (hl : l.length ≤ 9223372036854775807) : Ev (fun k => spec_voGood.f k q l) (goodB q l) := by
  simp only [spec_voGood.f]
  rw [ev_bind (ev_of (spec_l1In.v _ _ _))]
  unfold goodB
  by_cases h1 : 1 ≤ (l.length : Int) ∧ (l.length : Int) ≤ 9
  · rw [ev_pos (by simp [h1]), ev_bind (spec_l1All.ev l 0 1000 hl)]
    refine ev_step ?_
    simp only [spec_voGood.j0]
    cases hb : (l.all fun x => decide (0 ≤ x) && decide (x ≤ 1000)) with
    | true =>
      rw [ev_neg (by simp), ev_bind (spec_voSum.ev l hl), ev_bind (ev_of (spec_l1In.v _ _ _)), ev_now, wfold_w l (by omega) hb]
      have e1 : 1 ≤ l.length := by omega
      have e2 : l.length ≤ 9 := by omega
      simp [e1, e2]
    | false =>
      rw [ev_pos (by simp), ev_now]
      simp
  · rw [ev_neg (by simpa using h1)]
    refine ev_step ?_
    simp only [spec_voGood.j0]
    rw [ev_pos (by simp), ev_now]
    have : ¬ (1 ≤ l.length ∧ l.length ≤ 9) := by omega
    by_cases e1 : 1 ≤ l.length
    · have e2 : ¬ l.length ≤ 9 := by omega
      simp [e2]
    · simp [e1]
end Go.Proofs.Yticnoiflccbhcaa.Q

namespace Go.Proofs.Yticnoiflccbhcaa.Q
open Go.RowKit Go.Proofs.YticnoiflccbhcaaW.PrintWords Go.Proofs.YticnoiflccbhcaaW.PrintLast Go.Proofs.YticnoiflccbhcaaW.PrintMore Go.Proofs.YticnoiflccbhcaaM
set_option linter.unusedVariables false
set_option linter.unusedSimpArgs false
theorem spec_l1Rising.ev_l (l : List Int) (lo hi : Int) (hl : l.length ≤ 9223372036854775807) : ∀ (d i : Nat), i + d = l.length → Ev (fun k => spec_l1Rising.l0 k l lo hi l (l.length : Int) (i : Int)) (((l.drop i).all fun x => decide (lo ≤ x) && decide (x ≤ hi)) && incB (l.drop (i - 1))) := by
  intro d
  induction d with
  | zero =>
    intro i h
    refine ev_step ?_
    simp only [spec_l1Rising.l0]
    rw [ev_neg (by omega), ev_now, incB_short (by rw [List.length_drop]; omega), List.drop_of_length_le (by omega)]
    rfl
  | succ d ih =>
    intro i h
    refine ev_step ?_
    simp only [spec_l1Rising.l0]
    have hi' : i < l.length := by omega
    rw [ev_pos (by omega), ev_pos (by omega), ev_pos (by omega), w64i (n := l.length) (by omega) (by omega) hl, rd_lt l i hi', ev_bind (ev_of (spec_l1In.v _ _ _)), show (l.drop i).all (fun x => decide (lo ≤ x) && decide (x ≤ hi)) = ((decide (lo ≤ l[i]) && decide (l[i] ≤ hi)) && (l.drop (i + 1)).all fun x => decide (lo ≤ x) && decide (x ≤ hi)) by rw [List.drop_eq_getElem_cons hi', List.all_cons]]
    cases hb : (decide (lo ≤ l[i]) && decide (l[i] ≤ hi)) with
    | false =>
      rw [ev_neg (by decide), ev_now]
      simp
    | true =>
      rw [ev_pos rfl, Bool.true_and]
      by_cases h0 : i = 0
      · subst h0
        rw [ev_neg (by omega)]
        exact ih 1 (by omega)
      · have e1 : (i : Int) - 1 = ((i - 1 : Nat) : Int) := by omega
        rw [ev_pos (by omega), w64 (by omega) (by omega), e1, ev_pos (by omega), ev_pos (by omega), rd_lt l (i - 1) (by omega), incB_at l i (by omega) hi']
        by_cases hc : l[i - 1] ≥ l[i]
        · rw [ev_pos hc, ev_now, decide_eq_false (by omega)]
          simp
        · rw [ev_neg hc, decide_eq_true (by omega), Bool.true_and]
          have := ih (i + 1) (by omega)
          rw [Nat.add_sub_cancel] at this
          exact this
theorem spec_voSet.ev (n : Int) (l : List Int) (h0 : 0 ≤ n) (h9 : n ≤ 1000) (hl : l.length ≤ 9223372036854775807) : Ev (fun k => spec_voSet.f k n l) (setB n l) := by
  simp only [spec_voSet.f]
  have h := spec_l1Rising.ev_l l 0 (n - 1) hl l.length 0 (by omega)
  rw [List.drop_zero] at h
  rw [w64 (by omega) (by omega), ev_bind (show Ev (fun k => spec_l1Rising.f k l 0 (n - 1)) (setB n l) from h), ev_now]
end Go.Proofs.Yticnoiflccbhcaa.Q

namespace Go.Proofs.Yticnoiflccbhcaa.Q
open Go.RowKit Go.Proofs.YticnoiflccbhcaaW.PrintWords Go.Proofs.YticnoiflccbhcaaW.PrintLast Go.Proofs.YticnoiflccbhcaaW.PrintMore Go.Proofs.YticnoiflccbhcaaM
set_option linter.unusedVariables false
set_option linter.unusedSimpArgs false
theorem spec_gmSets.ev_l (n : Int) (l : List (List Int)) (h0 : 0 ≤ n) (h9 : n ≤ 1000) (hl : l.length ≤ 9223372036854775807) (hx : ∀ x ∈ l, x.length ≤ 9223372036854775807) : ∀ (d i : Nat), i + d = l.length → Ev (fun k => spec_gmSets.l0 k n l (l.length : Int) (i : Int)) (setsB n (l.drop i)) := by
  intro d
  induction d with
  | zero =>
    intro i h
    refine ev_step ?_
    simp only [spec_gmSets.l0]
    rw [ev_neg (by omega), ev_now, List.drop_of_length_le (by omega)]
    rfl
  | succ d ih =>
    intro i h
    refine ev_step ?_
    simp only [spec_gmSets.l0]
    have hi : i < l.length := by omega
    have e : setsB n (l.drop i) = ((!(decide ((l[i].length : Int) = 0)) && setB n l[i]) && setsB n (l.drop (i + 1))) := by
      unfold setsB
      rw [List.drop_eq_getElem_cons hi, List.all_cons]
    rw [ev_pos (by omega), ev_pos (by omega), ev_pos (by omega), w64i (n := l.length) (by omega) (by omega) hl, rd_L2_lt l i hi, e]
    by_cases hc : (l[i].length : Int) = 0
    · rw [ev_pos hc, ev_now, decide_eq_true hc]
      rfl
    · rw [ev_neg hc, decide_eq_false hc, ev_bind (spec_voSet.ev n l[i] h0 h9 (hx _ (List.getElem_mem hi)))]
      cases setB n l[i] with
      | true =>
        rw [ev_pos rfl]
        exact ih (i + 1) (by omega)
      | false =>
        rw [ev_neg (by decide), ev_now]
        rfl
theorem spec_gmSets.ev (n : Int) (l : List (List Int)) (most : Int) (hl : l.length ≤ 9223372036854775807) (hx : ∀ x ∈ l, x.length ≤ 9223372036854775807) : Ev (fun k => spec_gmSets.f k n l most) ((decide (1 ≤ n) && decide (n ≤ 9)) && ((decide (1 ≤ (l.length : Int)) && decide ((l.length : Int) ≤ most)) && setsB n l)) := by
  simp only [spec_gmSets.f]
  rw [ev_bind (ev_of (spec_l1In.v _ _ _))]
  cases h1 : (decide (1 ≤ n) && decide (n ≤ 9)) with
  | false =>
    rw [ev_neg (by decide)]
    refine ev_step ?_
    simp only [spec_gmSets.j0]
    rw [ev_pos trivial, ev_now]
    rfl
  | true =>
    simp only [Bool.and_eq_true, decide_eq_true_eq] at h1
    rw [ev_pos rfl, ev_bind (ev_of (spec_l1In.v _ _ _)), Bool.true_and]
    refine ev_step ?_
    simp only [spec_gmSets.j0]
    cases (decide (1 ≤ (l.length : Int)) && decide ((l.length : Int) ≤ most)) with
    | false =>
      rw [ev_pos (by decide), ev_now]
      rfl
    | true =>
      rw [ev_neg (by decide), Bool.true_and]
      exact spec_gmSets.ev_l n l (by omega) (by omega) hl hx l.length 0 (by omega)
theorem spec_gmGood.ev_l1 (n : Int) (l : List (List Int)) (hl : l.length ≤ 9223372036854775807) (hs : ∀ x ∈ l, x.length ≤ 9223372036854775807 ∧ (∀ y ∈ x, 0 ≤ y ∧ y ≤ 8) ∧ maskN x < 512) (i : Nat) (hi : i < l.length) (R : Bool) (hR : Ev (fun k => spec_gmGood.l0 k l (l.length : Int) ((i : Int) + 1) n l) R) : ∀ (d j : Nat), j + d = i → Ev (fun k => spec_gmGood.l1 k ((maskN l[i] : Nat) : Int) l (l.length : Int) (i : Int) (l.take i) ((l.take i).length : Int) (j : Int) n l) ((List.range' j d).all (gInS l i) && R) := by
  have ht : (l.take i).length = i := by rw [List.length_take]; omega
  intro d
  induction d with
  | zero =>
    intro j h
    refine ev_step ?_
    simp only [spec_gmGood.l1]
    rw [ev_neg (by omega), w64i (n := l.length) (by omega) (by omega) hl]
    exact hR
  | succ d ih =>
    intro j h
    refine ev_step ?_
    simp only [spec_gmGood.l1]
    have hj : j < l.length := by omega
    have hjt : j < (l.take i).length := by omega
    obtain ⟨hx1, hx2, hx3⟩ := hs l[i] (List.getElem_mem hi)
    obtain ⟨hy1, hy2, hy3⟩ := hs l[j] (List.getElem_mem hj)
    have m2 := spec_voBits.ev l[j] hy1 (fun y hy => by have := hy2 y hy; omega)
    rw [ev_pos (by omega), ev_pos (by omega), ev_pos (by omega), w64i (i := (j : Int)) (n := l.length) (by omega) (by omega) hl, List.range'_succ, List.all_cons, rd_L2_lt (l.take i) j hjt, List.getElem_take, ev_bind m2, and_nat _ _ (by omega) (by omega), gInS, mAt_lt l i hi, mAt_lt l j hj]
    by_cases c : maskN l[i] &&& maskN l[j] = maskN l[i]
    · rw [ev_pos (by rw [c]), ev_now, decide_eq_true c]
      rfl
    · rw [ev_neg (by omega), decide_eq_false c]
      by_cases c2 : maskN l[i] &&& maskN l[j] = maskN l[j]
      · rw [ev_pos (by rw [c2]), ev_now, decide_eq_true c2]
        rfl
      · rw [ev_neg (by omega), decide_eq_false c2]
        exact ih (j + 1) (by omega)
theorem spec_gmGood.ev_l0 (n : Int) (l : List (List Int)) (hl : l.length ≤ 9223372036854775807) (hs : ∀ x ∈ l, x.length ≤ 9223372036854775807 ∧ (∀ y ∈ x, 0 ≤ y ∧ y ≤ 8) ∧ maskN x < 512) : ∀ (d i : Nat), i + d = l.length → Ev (fun k => spec_gmGood.l0 k l (l.length : Int) (i : Int) n l) ((List.range' i d).all (gS l)) := by
  intro d
  induction d with
  | zero =>
    intro i h
    refine ev_step ?_
    simp only [spec_gmGood.l0]
    rw [ev_neg (by omega), ev_now]
    rfl
  | succ d ih =>
    intro i h
    refine ev_step ?_
    simp only [spec_gmGood.l0]
    have hi : i < l.length := by omega
    obtain ⟨hx1, hx2, hx3⟩ := hs l[i] (List.getElem_mem hi)
    have m1 := spec_voBits.ev l[i] hx1 (fun y hy => by have := hx2 y hy; omega)
    rw [ev_pos (by omega), ev_pos (by omega), ev_pos (by omega), rd_L2_lt l i hi, List.range'_succ, List.all_cons]
    have hin : Ev (fun k => spec_gmGood.l1 k ((maskN l[i] : Nat) : Int) l (l.length : Int) (i : Int) (l.take i) ((l.take i).length : Int) ((0 : Nat) : Int) n l) ((List.range' 0 i).all (gInS l i) && (List.range' (i + 1) d).all (gS l)) := spec_gmGood.ev_l1 n l hl hs i hi _ (by have := ih (i + 1) (by omega); exact this) i 0 (by omega)
    by_cases e : i = 0
    · rw [ev_neg (by omega)]
      refine ev_step ?_
      simp only [spec_gmGood.j1]
      rw [ev_neg (by decide), ev_bind m1, ev_pos (by omega), ev_pos (by omega), Int.toNat_natCast, gS, show gOrd l i = true by simp [gOrd, e], Bool.true_and]
      exact hin
    · have e1 : (i : Int) - 1 = ((i - 1 : Nat) : Int) := by omega
      rw [ev_pos (by omega), w64 (by omega) (by omega), e1, ev_pos (by omega), ev_pos (by omega), rd_L2_lt l (i - 1) (by omega), ev_bind (spec_voBefore.ev _ _ (hs _ (List.getElem_mem (by omega))).1)]
      refine ev_step ?_
      simp only [spec_gmGood.j1]
      rw [gS, gOrd_pos l i e hi]
      by_cases c : cmpL (l[i - 1]'(by omega)) l[i] < 0
      · rw [ev_neg (by simp [c]), decide_eq_true c, Bool.true_and, ev_bind m1, ev_pos (by omega), ev_pos (by omega), Int.toNat_natCast]
        exact hin
      · rw [ev_pos (by simp; omega), ev_now, decide_eq_false c]
        rfl
theorem spec_gmGood.ev (n : Int) (l : List (List Int)) (hl : l.length ≤ 9223372036854775807) (hx : ∀ x ∈ l, x.length ≤ 9223372036854775807) : Ev (fun k => spec_gmGood.f k n l) (gameB n l) := by
  simp only [spec_gmGood.f]
  rw [ev_bind (spec_gmSets.ev n l 126 hl hx), gameB]
  cases h1 : (decide (1 ≤ n) && decide (n ≤ 9)) with
  | false =>
    rw [ev_neg (by simp), ev_now]
    rfl
  | true =>
    simp only [Bool.and_eq_true, decide_eq_true_eq] at h1
    rw [Bool.true_and, Bool.true_and]
    by_cases h2 : (l.length : Int) = 0
    · rw [decide_eq_false (show ¬ (1 ≤ (l.length : Int)) by omega), ev_neg (by simp), ev_now, decide_eq_true h2]
      rfl
    · rw [decide_eq_true (show 1 ≤ (l.length : Int) by omega), decide_eq_false h2]
      cases h3 : setsB n l with
      | false =>
        rw [ev_neg (by simp), ev_now]
        rfl
      | true =>
        have hs : ∀ x ∈ l, x.length ≤ 9223372036854775807 ∧ (∀ y ∈ x, 0 ≤ y ∧ y ≤ 8) ∧ maskN x < 512 := fun x hx' => ⟨hx x hx', setsB_mask h3 (by omega) x hx'⟩
        have hfull := spec_gmGood.ev_l0 n l hl hs l.length 0 (by omega)
        by_cases h4 : (l.length : Int) ≤ 126
        · rw [ev_pos (by simp [h4])]
          exact hfull
        · rw [ev_neg (by simp [h4]), ev_now]
          cases h5 : (List.range' 0 l.length).all (gS l) with
          | false => rfl
          | true => exact absurd (game_few (by omega) h3 h5) (by omega)
end Go.Proofs.Yticnoiflccbhcaa.Q

namespace Go.Proofs.Yticnoiflccbhcaa.Q
open Go.RowKit Go.Proofs.YticnoiflccbhcaaW.PrintWords Go.Proofs.YticnoiflccbhcaaW.PrintLast Go.Proofs.YticnoiflccbhcaaW.PrintMore Go.Proofs.YticnoiflccbhcaaM
set_option linter.unusedVariables false
set_option linter.unusedSimpArgs false
theorem spec_bit (m i : Nat) (hm : m < 2 ^ 62) (hi : i ≤ 62) : Int.tmod (shr .i64 (m : Int) (i : Int)) 2 = ((m / 2 ^ i % 2 : Nat) : Int) := by
  rw [shr_nat m i (by omega)]
  generalize m / 2 ^ i = x
  rw [Int.tmod_eq_emod_of_nonneg (by omega)]
  omega
theorem spec_voWeight.ev_l (q : Int) (ws : List Int) (m : Nat) (hm : m < 2 ^ 62) (hl : ws.length ≤ 60) (hw : ∀ x ∈ ws, 0 ≤ x ∧ x ≤ 1000000000) : ∀ (d i : Nat) (s : Int), i + d = ws.length → 0 ≤ s → s + wsum (ws.drop i) (m / 2 ^ i) ≤ 1000000000000 → Ev (fun k => spec_voWeight.l0 k (m : Int) s ws (ws.length : Int) (i : Int)) (s + wsum (ws.drop i) (m / 2 ^ i)) := by
  intro d
  induction d with
  | zero =>
    intro i s h _ _
    refine ev_step ?_
    simp only [spec_voWeight.l0]
    rw [ev_neg (by omega), ev_now, List.drop_of_length_le (by omega)]
    simp [wsum]
  | succ d ih =>
    intro i s h h0 h1
    refine ev_step ?_
    simp only [spec_voWeight.l0]
    have hi : i < ws.length := by omega
    have hx := hw ws[i] (List.getElem_mem hi)
    have hd : wsum (ws.drop i) (m / 2 ^ i) = (if m / 2 ^ i % 2 = 1 then ws[i] else 0) + wsum (ws.drop (i + 1)) (m / 2 ^ (i + 1)) := by
      rw [wsum_drop ws i _ hi, Nat.div_div_eq_div_mul, ← Nat.pow_succ]
    have hb := wsum_bounds (ws.drop (i + 1)) (fun x hx => (hw x (List.mem_of_mem_drop hx)).1) (m / 2 ^ (i + 1))
    rw [ev_pos (by omega), ev_pos (by omega), ev_pos (by omega), spec_bit m i hm (by omega), w64i (n := ws.length) (by omega) (by omega) (by omega), rd_lt ws i hi, hd]
    rw [hd] at h1
    by_cases hbit : m / 2 ^ i % 2 = 1
    · rw [if_pos hbit] at h1 ⊢
      rw [ev_pos (by rw [hbit]; rfl), w64 (by omega) (by omega), ← Int.add_assoc]
      exact ih (i + 1) (s + ws[i]) (by omega) (by omega) (by omega)
    · rw [if_neg hbit] at h1 ⊢
      rw [ev_neg (by omega), Int.zero_add]
      exact ih (i + 1) s (by omega) h0 (by omega)
theorem spec_voWeight.ev (q : Int) (ws : List Int) (m : Nat) (hm : m < 2 ^ 62) (hl : ws.length ≤ 60) (hw : ∀ x ∈ ws, 0 ≤ x ∧ x ≤ 1000000000) : Ev (fun k => spec_voWeight.f k q ws (m : Int)) (wsum ws m) := by
  have hb := wsum_bounds ws (fun x hx => (hw x hx).1) m
  have hs := sum_bounds ws 1000000000 hw
  have := spec_voWeight.ev_l q ws m hm hl hw ws.length 0 0 (by omega) (by omega) (by simp; omega)
  simpa [spec_voWeight.f] using this
end Go.Proofs.Yticnoiflccbhcaa.Q

namespace Go.Proofs.Yticnoiflccbhcaa.Q
open Go.RowKit Go.Proofs.YticnoiflccbhcaaW.PrintWords Go.Proofs.YticnoiflccbhcaaW.PrintLast Go.Proofs.YticnoiflccbhcaaW.PrintMore Go.Proofs.YticnoiflccbhcaaM
set_option linter.unusedVariables false
set_option linter.unusedSimpArgs false
theorem spec_voAll.v (n : Nat) (hn : n ≤ 60) : spec_voAll.f (n : Int) = some ((2 ^ n - 1 : Nat) : Int) := by
  unfold spec_voAll.f
  have h0 : 0 < 2 ^ n := Nat.two_pow_pos n
  have h : 2 ^ n ≤ 2 ^ 60 := Nat.pow_le_pow_right (by omega) hn
  rw [if_pos (by omega), shl_one n (by omega), w64 (by omega) (by omega)]
  congr 1
  omega
theorem winsL_take (q : Int) (ws : List Int) (m : Nat) (h : m < 2 ^ ws.length) : (winsL q ws).take (m + 1) = (winsL q ws).take m ++ [decide (q ≤ wsum ws m)] := by
  rw [List.take_succ_eq_append_getElem (by rw [winsL_length]; exact h), winsL_get]
theorem spec_voWins.ev_l (q : Int) (ws : List Int) (hl : ws.length ≤ 9) (hw : ∀ x ∈ ws, 0 ≤ x ∧ x ≤ 1000000000) : ∀ (d m : Nat), m + d = 2 ^ ws.length → Ev (fun k => spec_voWins.l0 k ((winsL q ws).take m) (m : Int) q ws) (winsL q ws) := by
  have hp : 2 ^ ws.length ≤ 2 ^ 9 := Nat.pow_le_pow_right (by omega) hl
  have h0 : 0 < 2 ^ ws.length := Nat.two_pow_pos _
  intro d
  induction d with
  | zero =>
    intro m h
    refine ev_step ?_
    simp only [spec_voWins.l0]
    rw [ev_bind (ev_of (spec_voAll.v ws.length (by omega))), ev_neg (by omega), ev_now, List.take_of_length_le (by rw [winsL_length]; omega)]
  | succ d ih =>
    intro m h
    refine ev_step ?_
    simp only [spec_voWins.l0]
    rw [ev_bind (ev_of (spec_voAll.v ws.length (by omega))), ev_pos (by omega), ev_bind (spec_voWeight.ev q ws m (by omega) (by omega) hw), ev_pos (by simp; omega), w64i (n := 512) (by omega) (by omega) (by omega)]
    have := ih (m + 1) (by omega)
    rw [winsL_take q ws m (by omega)] at this
    exact this
theorem spec_voWins.ev (q : Int) (ws : List Int) (hl : ws.length ≤ 9) (hw : ∀ x ∈ ws, 0 ≤ x ∧ x ≤ 1000000000) : Ev (fun k => spec_voWins.f k q ws) (winsL q ws) := by
  have := spec_voWins.ev_l q ws hl hw (2 ^ ws.length) 0 (by omega)
  simpa [spec_voWins.f] using this
end Go.Proofs.Yticnoiflccbhcaa.Q

namespace Go.Proofs.Yticnoiflccbhcaa.Q
open Go.RowKit Go.Proofs.YticnoiflccbhcaaW.PrintWords Go.Proofs.YticnoiflccbhcaaW.PrintLast Go.Proofs.YticnoiflccbhcaaW.PrintMore Go.Proofs.YticnoiflccbhcaaM
set_option linter.unusedVariables false
set_option linter.unusedSimpArgs false
theorem spec_gmWins.ev_l1 (l : List (List Int)) (hl : l.length ≤ 1000000) (hs : ∀ x ∈ l, x.length ≤ 9223372036854775807 ∧ (∀ y ∈ x, 0 ≤ y ∧ y ≤ 60)) (N m : Nat) (hm : m < N) (hN : N ≤ 1000000) (R : List Bool) : ∀ (d j : Nat) (acc : List Bool) (ha : acc.length = N), j + d = l.length → Ev (fun k => spec_gmWins.l0 k l (acc.set m ((acc[m]'(by omega)) || ((l.drop j).any fun x => decide (m &&& maskN x = maskN x)))) (N : Int) ((m : Int) + 1)) R → Ev (fun k => spec_gmWins.l1 k l acc (m : Int) (N : Int) (m : Int) l (l.length : Int) (j : Int)) R := by
  intro d
  induction d with
  | zero =>
    intro j acc ha h hR
    refine ev_step ?_
    simp only [spec_gmWins.l1]
    rw [List.drop_of_length_le (by omega), List.any_nil, Bool.or_false, List.set_getElem_self] at hR
    rw [ev_neg (by omega), w64i (n := N) (by omega) (by omega) (by omega)]
    exact hR
  | succ d ih =>
    intro j acc ha h hR
    refine ev_step ?_
    simp only [spec_gmWins.l1]
    have hj : j < l.length := by omega
    have hma : m < acc.length := by omega
    have hx := hs l[j] (List.getElem_mem hj)
    have hlt : maskN l[j] < 2 ^ 61 := orBits_lt61 l[j] 0 (by omega) hx.2
    rw [ev_pos (by omega), ev_pos (by omega), ev_pos (by omega), w64i (i := (j : Int)) (n := l.length) (by omega) (by omega) (by omega), rd_L2_lt l j hj, ev_bind (spec_voBits.ev l[j] hx.1 hx.2), ev_pos (by omega), ev_pos (by omega), rdOf_lt false acc m hma, Int.toNat_natCast, and_nat m (maskN l[j]) (by omega) (by omega)]
    rw [List.drop_eq_getElem_cons hj, List.any_cons] at hR
    by_cases c : acc[m] = true
    · rw [ev_pos c]
      refine ih (j + 1) (acc.set m true) (by simpa using ha) (by omega) ?_
      rw [c, Bool.true_or] at hR
      rw [List.getElem_set_self, List.set_set, Bool.true_or]
      exact hR
    · rw [ev_neg c]
      refine ih (j + 1) (acc.set m _) (by simpa using ha) (by omega) ?_
      rw [List.getElem_set_self, List.set_set]
      rw [Bool.eq_false_iff.2 c, Bool.false_or] at hR
      have e : ((((m &&& maskN l[j] : Nat) : Int) == ((maskN l[j] : Nat) : Int))) = decide (m &&& maskN l[j] = maskN l[j]) := by
        by_cases c2 : m &&& maskN l[j] = maskN l[j]
        · rw [decide_eq_true c2, c2, beq_self_eq_true]
        · rw [decide_eq_false c2]
          exact beq_eq_false_iff_ne.2 (by omega)
      rw [e]
      exact hR
theorem spec_gmWins.ev_l0 (n : Nat) (hn : n ≤ 18) (l : List (List Int)) (hl : l.length ≤ 1000000) (hs : ∀ x ∈ l, x.length ≤ 9223372036854775807 ∧ (∀ y ∈ x, 0 ≤ y ∧ y ≤ 60)) : ∀ (d m : Nat) (acc : List Bool), m + d = 2 ^ n → acc.length = 2 ^ n → acc.take m = (winsG n l).take m → (∀ j (h : j < acc.length), m ≤ j → acc[j] = false) → Ev (fun k => spec_gmWins.l0 k l acc ((2 ^ n : Nat) : Int) (m : Int)) (winsG n l) := by
  have hp : 2 ^ n ≤ 2 ^ 18 := Nat.pow_le_pow_right (by omega) hn
  have hwl := winsG_length n l
  intro d
  induction d with
  | zero =>
    intro m acc h ha ht hf
    refine ev_step ?_
    simp only [spec_gmWins.l0]
    rw [ev_neg (by omega), ev_now]
    rw [List.take_of_length_le (by omega), List.take_of_length_le (by omega)] at ht
    exact ht
  | succ d ih =>
    intro m acc h ha ht hf
    refine ev_step ?_
    simp only [spec_gmWins.l0]
    have hma : m < acc.length := by omega
    rw [ev_pos (by omega)]
    refine spec_gmWins.ev_l1 l hl hs (2 ^ n) m (by omega) (by omega) (winsG n l) l.length 0 acc ha (by omega) ?_
    rw [hf m hma (Nat.le_refl m), Bool.false_or, List.drop_zero]
    refine ih (m + 1) _ (by omega) (by simpa using ha) ?_ ?_
    · rw [List.take_succ_eq_append_getElem (by simpa using hma), List.take_succ_eq_append_getElem (by omega), List.take_set_of_le (by omega), ht, List.getElem_set_self, winsG_get]
    · intro j hj hmj
      rw [List.length_set] at hj
      rw [List.getElem_set_ne (by omega)]
      exact hf j hj (by omega)
theorem spec_gmWins.ev (n : Nat) (hn : n ≤ 18) (l : List (List Int)) (hl : l.length ≤ 1000000) (hs : ∀ x ∈ l, x.length ≤ 9223372036854775807 ∧ (∀ y ∈ x, 0 ≤ y ∧ y ≤ 60)) : Ev (fun k => spec_gmWins.f k (n : Int) l) (winsG n l) := by
  have hp : 2 ^ n ≤ 2 ^ 18 := Nat.pow_le_pow_right (by omega) hn
  have h0 : 0 < 2 ^ n := Nat.two_pow_pos n
  simp only [spec_gmWins.f]
  have e : (((2 ^ n - 1 : Nat) : Int) + 1) = ((2 ^ n : Nat) : Int) := by omega
  rw [ev_bind (ev_of (spec_voAll.v n (by omega))), e, w64 (by omega) (by omega), ev_pos (by omega), ev_pos (by rw [Int.toNat_natCast]; omega), Int.toNat_natCast]
  simp only [Option.bind_some, List.length_replicate]
  exact spec_gmWins.ev_l0 n hn l hl hs (2 ^ n) 0 _ (by omega) (by simp) (by simp) (fun j h _ => by simp)
theorem spec_gmAll.ev (n : Nat) (hn : n ≤ 18) (l : List (List Int)) (hl : l.length ≤ 1000000) (hs : ∀ x ∈ l, x.length ≤ 9223372036854775807 ∧ (∀ y ∈ x, 0 ≤ y ∧ y ≤ 60)) : Ev (fun k => spec_gmAll.f k (n : Int) l) (winsG n l) := by
  simp only [spec_gmAll.f]
  rw [ev_bind (spec_gmWins.ev n hn l hl hs), ev_now]
end Go.Proofs.Yticnoiflccbhcaa.Q

namespace Go.Proofs.Yticnoiflccbhcaa.Q
open Go.RowKit Go.Proofs.YticnoiflccbhcaaW.PrintWords Go.Proofs.YticnoiflccbhcaaW.PrintLast Go.Proofs.YticnoiflccbhcaaW.PrintMore Go.Proofs.YticnoiflccbhcaaM
set_option linter.unusedVariables false
set_option linter.unusedSimpArgs false
theorem good_sets {n : Int} {l : List (List Int)} (h : GoodG n l) : l.length ≤ 126 ∧ ∀ x ∈ l, x.length ≤ 9223372036854775807 ∧ (∀ y ∈ x, 0 ≤ y ∧ y ≤ 60) := by
  have h9 := h.n9
  have h1 := h.n1
  have hg := (game_iff n l).2 h
  simp only [gameB, Bool.and_eq_true] at hg
  refine ⟨game_few h9 hg.2.2.1 hg.2.2.2, fun x hx => ⟨?_, fun y hy => ?_⟩⟩
  · have := setB_len (h.sets x hx).2 (by omega)
    omega
  · have := setB_in (h.sets x hx).2 y hy
    omega
end Go.Proofs.Yticnoiflccbhcaa.Q

namespace Go.Proofs.Yticnoiflccbhcaa.Q
open Go.RowKit Go.Proofs.YticnoiflccbhcaaW.PrintWords Go.Proofs.YticnoiflccbhcaaW.PrintLast Go.Proofs.YticnoiflccbhcaaW.PrintMore Go.Proofs.YticnoiflccbhcaaM
set_option linter.unusedVariables false
set_option linter.unusedSimpArgs false
theorem slices_Equal_bool_bool.ev_l (a b : List Bool) (hl : a.length ≤ 9223372036854775807) (hab : a.length = b.length) : ∀ (d i : Nat), i + d = a.length → Ev (fun k => slices_Equal_bool_bool.l0 k a b (a.length : Int) (i : Int)) (decide (a.drop i = b.drop i)) := by
  intro d
  induction d with
  | zero =>
    intro i h
    refine ev_step ?_
    simp only [slices_Equal_bool_bool.l0]
    rw [ev_neg (by omega), ev_now, List.drop_of_length_le (by omega), List.drop_of_length_le (by omega)]
    rfl
  | succ d ih =>
    intro i h
    refine ev_step ?_
    simp only [slices_Equal_bool_bool.l0]
    have hi : i < a.length := by omega
    have hib : i < b.length := by omega
    have e : decide (a.drop i = b.drop i) = (decide (a[i] = b[i]) && decide (a.drop (i + 1) = b.drop (i + 1))) := by
      rw [List.drop_eq_getElem_cons hi, List.drop_eq_getElem_cons hib, Bool.eq_iff_iff]
      simp only [Bool.and_eq_true, decide_eq_true_eq, List.cons.injEq]
    rw [ev_pos (by omega), ev_pos (by omega), ev_pos (by omega), ev_pos (by omega), rdOf_lt false a i hi, rdOf_lt false b i hib, w64i (n := a.length) (by omega) (by omega) hl, e]
    by_cases c : a[i] = b[i]
    · rw [ev_neg (by simp [c]), decide_eq_true c, Bool.true_and]
      exact ih (i + 1) (by omega)
    · rw [ev_pos (by simp [c]), ev_now, decide_eq_false c]
      rfl
theorem slices_Equal_bool_bool.ev (a b : List Bool) (hl : a.length ≤ 9223372036854775807) : Ev (fun k => slices_Equal_bool_bool.f k a b) (decide (a = b)) := by
  simp only [slices_Equal_bool_bool.f]
  by_cases c : (a.length : Int) = (b.length : Int)
  · rw [ev_pos c]
    exact slices_Equal_bool_bool.ev_l a b hl (by omega) a.length 0 (by omega)
  · rw [ev_neg c, ev_now, decide_eq_false (fun h => c (by rw [h]))]
end Go.Proofs.Yticnoiflccbhcaa.Q

namespace Go.Proofs.Yticnoiflccbhcaa.Q
open Go.RowKit Go.Proofs.YticnoiflccbhcaaW.PrintWords Go.Proofs.YticnoiflccbhcaaW.PrintLast Go.Proofs.YticnoiflccbhcaaW.PrintMore Go.Proofs.YticnoiflccbhcaaM
set_option linter.unusedVariables false
set_option linter.unusedSimpArgs false
theorem impl_votesBy.ev_l (l : List (List Int)) (hl : l.length ≤ 1000000) (hs : ∀ x ∈ l, x.length ≤ 9223372036854775807 ∧ (∀ y ∈ x, 0 ≤ y ∧ y ≤ 60)) : ∀ (d i : Nat), i + d = l.length → Ev (fun k => impl_votesBy.l0 k ((l.map fun x => ((maskN x : Nat) : Int)).take i) l (i : Int)) (l.map fun x => ((maskN x : Nat) : Int)) := by
  have hml : (l.map fun x => ((maskN x : Nat) : Int)).length = l.length := by simp
  intro d
  induction d with
  | zero =>
    intro i h
    refine ev_step ?_
    simp only [impl_votesBy.l0]
    rw [ev_neg (by omega), ev_now, List.take_of_length_le (by omega)]
  | succ d ih =>
    intro i h
    refine ev_step ?_
    simp only [impl_votesBy.l0]
    have hi : i < l.length := by omega
    have hx := hs l[i] (List.getElem_mem hi)
    rw [ev_pos (by omega), ev_pos (by omega), rdOf_lt [] l i hi, ev_bind (impl_maskOf.ev l[i] hx.1 hx.2), ev_pos (by rw [List.length_take]; omega), w64i (n := l.length) (by omega) (by omega) (by omega)]
    have := ih (i + 1) (by omega)
    rw [List.take_succ_eq_append_getElem (by omega), List.getElem_map] at this
    exact this
theorem impl_votesBy.ev (n : Nat) (hn : n ≤ 18) (l : List (List Int)) (hl : l.length ≤ 1000000) (hs : ∀ x ∈ l, x.length ≤ 9223372036854775807 ∧ (∀ y ∈ x, 0 ≤ y ∧ y ≤ 60)) : Ev (fun k => impl_votesBy.f k (n : Int) l) ((n : Int), winsG n l) := by
  have hp : 2 ^ n ≤ 2 ^ 18 := Nat.pow_le_pow_right (by omega) hn
  simp only [impl_votesBy.f]
  have h0 := impl_votesBy.ev_l l hl hs l.length 0 (by omega)
  rw [List.take_zero] at h0
  rw [ev_bind (show Ev (fun k => impl_votesBy.l0 k ([] : List Int) l 0) _ from h0)]
  refine impl_votesOf.ev n (by omega) (fun _ x => some (impl_votesBy_1.p (l.map fun x => ((maskN x : Nat) : Int)) x)) (fun m => l.any fun x => decide (m &&& maskN x = maskN x)) (fun m hm => ?_)
  rw [ev_now, impl_votesBy_1.p]
  clear h0 hl
  induction l with
  | nil => rfl
  | cons x l ih =>
    have hx := hs x List.mem_cons_self
    have hlt := orBits_lt61 x 0 (by omega) hx.2
    have hm2 : maskN x < 2 ^ 61 := hlt
    rw [List.map_cons, List.any_cons, List.any_cons, ih (fun y hy => hs y (List.mem_cons_of_mem _ hy)), and_nat m (maskN x) (by omega) (by omega)]
    congr 1
    by_cases c : m &&& maskN x = maskN x
    · rw [decide_eq_true c, c, decide_eq_true rfl]
    · rw [decide_eq_false c, decide_eq_false (by omega)]
theorem impl_Game_votes.ev (n : Nat) (hn : n ≤ 18) (l : List (List Int)) (hl : l.length ≤ 1000000) (hs : ∀ x ∈ l, x.length ≤ 9223372036854775807 ∧ (∀ y ∈ x, 0 ≤ y ∧ y ≤ 60)) : Ev (fun k => impl_Game_votes.f k (n : Int) l) ((n : Int), winsG n l) := by
  simp only [impl_Game_votes.f]
  rw [ev_bind (impl_votesBy.ev n hn l hl hs), ev_now]
end Go.Proofs.Yticnoiflccbhcaa.Q

namespace Go.Proofs.Yticnoiflccbhcaa.Q
open Go.RowKit Go.Proofs.YticnoiflccbhcaaW.PrintWords Go.Proofs.YticnoiflccbhcaaW.PrintLast Go.Proofs.YticnoiflccbhcaaW.PrintMore Go.Proofs.YticnoiflccbhcaaM
set_option linter.unusedVariables false
set_option linter.unusedSimpArgs false
theorem spec_weSame.ev_l (a b : List Bool) (hl : a.length ≤ 9223372036854775807) (hab : a.length = b.length) : ∀ (d i : Nat), i + d = a.length → Ev (fun k => spec_weSame.l0 k a b (a.length : Int) (i : Int)) (decide (a.drop i = b.drop i)) := by
  intro d
  induction d with
  | zero =>
    intro i h
    refine ev_step ?_
    simp only [spec_weSame.l0]
    rw [ev_neg (by omega), ev_now, List.drop_of_length_le (by omega), List.drop_of_length_le (by omega)]
    rfl
  | succ d ih =>
    intro i h
    refine ev_step ?_
    simp only [spec_weSame.l0]
    have hi : i < a.length := by omega
    have hib : i < b.length := by omega
    have e : decide (a.drop i = b.drop i) = (decide (a[i] = b[i]) && decide (a.drop (i + 1) = b.drop (i + 1))) := by
      rw [List.drop_eq_getElem_cons hi, List.drop_eq_getElem_cons hib, Bool.eq_iff_iff]
      simp only [Bool.and_eq_true, decide_eq_true_eq, List.cons.injEq]
    rw [ev_pos (by omega), ev_pos (by omega), ev_pos (by omega), ev_pos (by omega), rdOf_lt false a i hi, rdOf_lt false b i hib, w64i (n := a.length) (by omega) (by omega) hl, e]
    by_cases c : a[i] = b[i]
    · rw [ev_neg (by simp [c]), decide_eq_true c, Bool.true_and]
      exact ih (i + 1) (by omega)
    · rw [ev_pos (by simp [c]), ev_now, decide_eq_false c]
      rfl
theorem spec_weSame.ev (a b : List Bool) (hl : a.length ≤ 9223372036854775807) : Ev (fun k => spec_weSame.f k a b) (decide (a = b)) := by
  simp only [spec_weSame.f]
  by_cases c : (a.length : Int) = (b.length : Int)
  · rw [ev_pos c]
    exact spec_weSame.ev_l a b hl (by omega) a.length 0 (by omega)
  · rw [ev_neg c, ev_now, decide_eq_false (fun h => c (by rw [h]))]
end Go.Proofs.Yticnoiflccbhcaa.Q

namespace Go.Proofs.Yticnoiflccbhcaa.Q
open Go.RowKit Go.Proofs.YticnoiflccbhcaaW.PrintWords Go.Proofs.YticnoiflccbhcaaW.PrintLast Go.Proofs.YticnoiflccbhcaaW.PrintMore Go.Proofs.YticnoiflccbhcaaM
set_option linter.unusedVariables false
set_option linter.unusedSimpArgs false
def fitV (q : Int) (ws : List Int) (n : Int) (l : List (List Int)) : Bool × Bool := if (goodB q ws && gameB n l) = true then (decide (winsL q ws = winsG n.toNat l), true) else (false, false)
theorem impl_DoesFitGame.ev (q : Int) (ws : List Int) (n : Int) (l : List (List Int)) (hw : ws.length ≤ 9223372036854775807) (hl : l.length ≤ 9223372036854775807) (hx : ∀ x ∈ l, x.length ≤ 9223372036854775807) : Ev (fun k => impl_DoesFitGame.f k q ws n l) (fitV q ws n l) := by
  simp only [impl_DoesFitGame.f]
  rw [ev_bind (impl_IsCommittee.ev q ws hw)]
  have hno : (goodB q ws && gameB n l) = false → Ev (fun k => impl_DoesFitGame.j0 k true q ws n l) (fitV q ws n l) := fun h => by
    refine ev_step ?_
    simp only [impl_DoesFitGame.j0]
    rw [ev_pos trivial, ev_now, fitV, h, if_neg (by decide)]
  cases h1 : goodB q ws with
  | false =>
    rw [ev_neg (by decide)]
    exact hno (by rw [h1]; rfl)
  | true =>
    rw [ev_pos rfl, ev_bind (impl_IsGame.ev n l hl hx)]
    cases h2 : gameB n l with
    | false => exact hno (by rw [h1, h2]; rfl)
    | true =>
      have hc := (good_iff q ws).1 h1
      have hg := (game_iff n l).1 h2
      have h9 := hg.n9
      have hn1 := hg.n1
      obtain ⟨hl126, hsets⟩ := good_sets hg
      refine ev_step ?_
      simp only [impl_DoesFitGame.j0]
      rw [fitV, h1, h2, if_pos (by decide)]
      clear hno h1 h2 hg
      obtain ⟨m, rfl⟩ := Int.eq_ofNat_of_zero_le (show 0 ≤ n by omega)
      rw [Int.toNat_natCast]
      have hv := impl_Game_votes.ev m (by omega) l (by omega) hsets
      have hcv := impl_Committee_votes.ev q ws hc.l9 hc.wb
      have hp := hc.pow
      have hs : Ev (fun k => impl_votes_same.f k (ws.length : Int) (winsL q ws) (m : Int) (winsG m l)) (decide (winsL q ws = winsG m l)) := by
        simp only [impl_votes_same.f]
        rw [ev_bind (slices_Equal_bool_bool.ev (winsL q ws) (winsG m l) (by rw [winsL_length]; omega)), ev_now]
      rw [ev_neg (by decide), ev_bind hcv, ev_bind hv, ev_bind hs, ev_now]
theorem spec_DoesFitGame.ev (q : Int) (ws : List Int) (n : Int) (l : List (List Int)) (hw : ws.length ≤ 9223372036854775807) (hl : l.length ≤ 9223372036854775807) (hx : ∀ x ∈ l, x.length ≤ 9223372036854775807) : Ev (fun k => spec_DoesFitGame.f k q ws n l) (fitV q ws n l) := by
  simp only [spec_DoesFitGame.f]
  rw [ev_bind (spec_voGood.ev q ws hw)]
  have hno : (goodB q ws && gameB n l) = false → Ev (fun k => spec_DoesFitGame.j0 k true q ws n l) (fitV q ws n l) := fun h => by
    refine ev_step ?_
    simp only [spec_DoesFitGame.j0]
    rw [ev_pos trivial, ev_now, fitV, h, if_neg (by decide)]
  cases h1 : goodB q ws with
  | false =>
    rw [ev_neg (by decide)]
    exact hno (by rw [h1]; rfl)
  | true =>
    rw [ev_pos rfl, ev_bind (spec_gmGood.ev n l hl hx)]
    cases h2 : gameB n l with
    | false => exact hno (by rw [h1, h2]; rfl)
    | true =>
      have hc := (good_iff q ws).1 h1
      have hg := (game_iff n l).1 h2
      have h9 := hg.n9
      have hn1 := hg.n1
      obtain ⟨hl126, hsets⟩ := good_sets hg
      refine ev_step ?_
      simp only [spec_DoesFitGame.j0]
      rw [fitV, h1, h2, if_pos (by decide)]
      clear hno h1 h2 hg
      obtain ⟨m, rfl⟩ := Int.eq_ofNat_of_zero_le (show 0 ≤ n by omega)
      rw [Int.toNat_natCast]
      have hv := spec_gmAll.ev m (by omega) l (by omega) hsets
      have hcv := spec_voWins.ev q ws hc.l9 hc.wb
      have hp := hc.pow
      rw [ev_neg (by decide), ev_bind hcv, ev_bind hv, ev_bind (spec_weSame.ev (winsL q ws) (winsG m l) (by rw [winsL_length]; omega)), ev_now]
end Go.Proofs.Yticnoiflccbhcaa.Q

namespace Go.Proofs.Yticnoiflccbhcaa.Q
open Go.RowKit Go.Proofs.YticnoiflccbhcaaX Go.Proofs.YticnoiflccbhcaaW.PrintWords Go.Proofs.YticnoiflccbhcaaW.PrintLast Go.Proofs.YticnoiflccbhcaaW.PrintMore
attribute [local go_sem] max2_int min2_int max_two min_two max_three min_three max_four min_four   -- for this text's walks alone
set_option linter.unusedVariables false
set_option linter.unusedSimpArgs false

/-! ### laws_heldIntS: function 38 -/
def laws_heldIntS.l0 : Nat → List Int → Int → Int → Option (Int)
 | 0, _, _, _ => none
 | k + 1, x0, x1, x5 => if x5 < (x0.length : Int) then (if 0 ≤ x5 then (if (rd x0 x5) = x1 then (laws_heldIntS.l0 k x0 (wrap64 (x1 + 1)) (wrap64 (x5 + 1))) else (some (-1))) else (none)) else (some x1)
def laws_heldIntS.f (k : Nat) (l0 : List Int) (a1 : Int) : Option (Int) := laws_heldIntS.l0 k l0 a1 0
theorem laws_heldIntS.mono_l : ∀ k, (∀ y0 y1 y2, LeO (laws_heldIntS.l0 k y0 y1 y2) (laws_heldIntS.l0 (k + 1) y0 y1 y2))
 | 0 => fun _ _ _ r h => by simp [laws_heldIntS.l0] at h
 | k + 1 => by
  have ih0 := laws_heldIntS.mono_l k
  ·intro y0 y1 y2
   unfold laws_heldIntS.l0
   repeat' first
   | (with_reducible exact ih0 _ _ _)
   | (with_reducible exact LeO.refl _)
   | (with_reducible exact LeO.none _)
   | (with_reducible refine LeO.ite ?_ ?_)
   | (with_reducible refine LeO.bind ?_ (fun _ => ?_))
   | exact ih0 _ _ _
   | exact LeO.none _
   | refine LeO.ite ?_ ?_
   | refine LeO.bind ?_ (fun _ => ?_)
theorem laws_heldIntS.mono : ∀ a0 a1 k, LeO (laws_heldIntS.f k a0 a1) (laws_heldIntS.f (k + 1) a0 a1) := by
 intro a0 a1 k
 have ih0 := laws_heldIntS.mono_l k
 unfold laws_heldIntS.f
 repeat' first
   | (with_reducible exact ih0 _ _ _)
   | (with_reducible exact LeO.refl _)
   | (with_reducible exact LeO.none _)
   | (with_reducible refine LeO.ite ?_ ?_)
   | (with_reducible refine LeO.bind ?_ (fun _ => ?_))
   | exact ih0 _ _ _
   | exact LeO.none _
   | refine LeO.ite ?_ ?_
   | refine LeO.bind ?_ (fun _ => ?_)
set_option maxHeartbeats 8000000 in
set_option maxRecDepth 100000 in
theorem laws_heldIntS.calls (k : Nat) (A0 : Option Addr) (c0 : Nat) (l0 : List Int) (a1 : Int) (r : Int) (w : World) (hr0 : Kd.C (Kd.int .i64) w A0 l0.length l0) (hc0 : l0.length ≤ c0) (h : laws_heldIntS.f k l0 a1 = some r) :
  Calls Try.prog 38 #[.slice A0 l0.length c0, .int .i64 a1] w fun e w' => e = .returned (.int .i64 r) ∧ Drawn0 w w' := by
 have HR0 := Aside0.mk hr0
 have HC0 := Aside0.mk hc0
 clear hr0 hc0
 have H : (laws_heldIntS.l0 k l0 a1 0) = some r := h
 clear h
 have H' := Aside0.mk H
 clear H
 go_enter Try.func38, Try.ntmps38
 go_wp2
 go_loopg [1, 5] k (fun kq v1 v5 w' => ∃ (x1_1 : Int) (x5_1 : Int), v1 = .int .i64 x1_1 ∧ v5 = .int .i64 x5_1 ∧ Aside0 (laws_heldIntS.l0 kq l0 x1_1 x5_1 = some r) ∧ Aside0 (kq ≤ k) ∧ Drawn0 w w')
 case atStart => exact ⟨(a1), (0), (by first | rfl | (simp; done) | (simp [*]; done)), (by first | rfl | (simp; done) | (simp [*]; done)), H', ⟨Nat.le_refl _⟩, by repeat (first | exact Drawn0.refl _ | apply Drawn0.step)⟩
 case round =>
  clear H'
  try clear p2
  obtain ⟨x1_1, x5_1, rfl, rfl, HA, HK1, ⟨m1, rfl⟩⟩ := hrel
  cases gk with
  | zero => exact absurd HA.out (by simp [laws_heldIntS.l0])
  | succ k1 =>
   have H := HA.out
   clear HA
   simp only [laws_heldIntS.l0] at H
   by_cases c3 : x5_1 < (l0.length : Int)
   ·rw [if_pos c3] at H
    have c3b0 : decide (x5_1 < (l0.length : Int)) = true := decide_eq_true c3
    clear c3
    by_cases c4 : 0 ≤ x5_1
    ·rw [if_pos c4] at H
     have c4b0 : decide (0 ≤ x5_1) = true := decide_eq_true c4
     clear c4
     by_cases c5 : (rd l0 x5_1) = x1_1
     ·rw [if_pos c5] at H
      have c5b0 : ((rd l0 x5_1) == x1_1) = true := beq_iff_eq.mpr c5
      have c5b1 : ((rd l0 x5_1) != x1_1) = false := bne_eq_false_iff_eq.mpr c5
      clear c5
      have H' := Aside0.mk H
      clear H
      have p101 : 0 ≤ (x5_1 : Int) := of_decide_eq_true (by first | (with_reducible assumption) | assumption)
      have q101 : x5_1 < (l0.length : Int) := of_decide_eq_true (by first | (with_reducible assumption) | assumption)
      obtain ⟨ad101, e101, hx101_0⟩ := Kd.at_int HR0.out x5_1 p101 q101
      cases e101
      replace p101 := eq_true p101
      replace q101 := eq_true q101
      go_wp2
      go_roundg k1
      case measure => have := HK1.out; omega
      case rel => exact ⟨(wrap64 (x1_1 + 1)), (wrap64 (x5_1 + 1)), (by first | rfl | (simp; done) | (simp [*]; done)), (by first | rfl | (simp; done) | (simp [*]; done)), H', ⟨by have := HK1.out; omega⟩, by repeat (first | exact Drawn0.refl _ | apply Drawn0.step)⟩
     ·rw [if_neg c5] at H
      have c5b0 : ((rd l0 x5_1) == x1_1) = false := beq_eq_false_iff_ne.mpr c5
      have c5b1 : ((rd l0 x5_1) != x1_1) = true := bne_iff_ne.mpr c5
      obtain rfl := Option.some.inj H
      have p101 : 0 ≤ (x5_1 : Int) := of_decide_eq_true (by first | (with_reducible assumption) | assumption)
      have q101 : x5_1 < (l0.length : Int) := of_decide_eq_true (by first | (with_reducible assumption) | assumption)
      obtain ⟨ad101, e101, hx101_0⟩ := Kd.at_int HR0.out x5_1 p101 q101
      cases e101
      replace p101 := eq_true p101
      replace q101 := eq_true q101
      go_wp2
      go_ret
      exact ⟨by first | rfl | (simp; done) | (simp [*]; done), by repeat (first | exact Drawn0.refl _ | apply Drawn0.step)⟩
    ·rw [if_neg c4] at H
     exact absurd H (by simp)
   ·rw [if_neg c3] at H
    have c3b0 : decide (x5_1 < (l0.length : Int)) = false := decide_eq_false c3
    clear c3
    obtain rfl := Option.some.inj H
    go_wp2
    go_ret
    exact ⟨by first | rfl | (simp; done) | (simp [*]; done), by repeat (first | exact Drawn0.refl _ | apply Drawn0.step)⟩

end Go.Proofs.Yticnoiflccbhcaa.Q

namespace Go.Proofs.Yticnoiflccbhcaa.Q
open Go.RowKit Go.Proofs.YticnoiflccbhcaaX Go.Proofs.YticnoiflccbhcaaW.PrintWords Go.Proofs.YticnoiflccbhcaaW.PrintLast Go.Proofs.YticnoiflccbhcaaW.PrintMore
attribute [local go_sem] max2_int min2_int max_two min_two max_three min_three max_four min_four   -- for this text's walks alone
set_option linter.unusedVariables false
set_option linter.unusedSimpArgs false

/-! ### laws_markIntS: function 37 -/
def laws_markIntS.l0 : Nat → List Int → Int → Int → Option (Int × List Int)
 | 0, _, _, _ => none
 | k + 1, x0, x1, x5 => if x5 < (x0.length : Int) then (if 0 ≤ x5 then (laws_markIntS.l0 k (x0.set (x5 : Int).toNat x1) (wrap64 (x1 + 1)) (wrap64 (x5 + 1))) else (none)) else (some (x1, x0))
def laws_markIntS.f (k : Nat) (l0 : List Int) (a1 : Int) : Option (Int × List Int) := laws_markIntS.l0 k l0 a1 0
theorem laws_markIntS.mono_l : ∀ k, (∀ y0 y1 y2, LeO (laws_markIntS.l0 k y0 y1 y2) (laws_markIntS.l0 (k + 1) y0 y1 y2))
 | 0 => fun _ _ _ r h => by simp [laws_markIntS.l0] at h
 | k + 1 => by
  have ih0 := laws_markIntS.mono_l k
  ·intro y0 y1 y2
   unfold laws_markIntS.l0
   repeat' first
   | (with_reducible exact ih0 _ _ _)
   | (with_reducible exact LeO.refl _)
   | (with_reducible exact LeO.none _)
   | (with_reducible refine LeO.ite ?_ ?_)
   | (with_reducible refine LeO.bind ?_ (fun _ => ?_))
   | exact ih0 _ _ _
   | exact LeO.none _
   | refine LeO.ite ?_ ?_
   | refine LeO.bind ?_ (fun _ => ?_)
theorem laws_markIntS.mono : ∀ a0 a1 k, LeO (laws_markIntS.f k a0 a1) (laws_markIntS.f (k + 1) a0 a1) := by
 intro a0 a1 k
 have ih0 := laws_markIntS.mono_l k
 unfold laws_markIntS.f
 repeat' first
   | (with_reducible exact ih0 _ _ _)
   | (with_reducible exact LeO.refl _)
   | (with_reducible exact LeO.none _)
   | (with_reducible refine LeO.ite ?_ ?_)
   | (with_reducible refine LeO.bind ?_ (fun _ => ?_))
   | exact ih0 _ _ _
   | exact LeO.none _
   | refine LeO.ite ?_ ?_
   | refine LeO.bind ?_ (fun _ => ?_)
set_option maxHeartbeats 8000000 in
set_option maxRecDepth 100000 in
theorem laws_markIntS.calls (k : Nat) (P0_ : Nat → Prop) (u9000_ : Value) (l0 : List Int) (a1 : Int) (r1 : Int) (r2 : List Int) (w0 w : World) (hB : Below w0.heap.size w0 w) (ho0 : Kd.R (Kd.int .i64) 3 w w0.heap.size P0_ u9000_ l0) (h : laws_markIntS.f k l0 a1 = some (r1, r2)) :
  Calls Try.prog 37 #[u9000_, .int .i64 a1] w fun e w' => e = .returned (.int .i64 r1) ∧ Kd.R (Kd.int .i64) 3 w' w0.heap.size (fun k_ => (P0_ k_ ∨ w.heap.size ≤ k_)) u9000_ r2 ∧ Below w0.heap.size w0 w' ∧ Kept w w' (fun k_ => P0_ k_) := by
 have HO0 := Aside0.mk (show Kd.R (Kd.int .i64) 3 w w0.heap.size (fun k_ => (P0_ k_ ∨ w.heap.size ≤ k_)) u9000_ l0 from Kd.R_mono ho0 (fun k_ hk => (.inl hk)))
 have HK := Aside0.mk (Kept.refl w (fun k_ => P0_ k_))
 have HW0 := Aside0.mk hB.size
 have HB := Aside0.mk hB
 clear hB
 have H : (laws_markIntS.l0 k l0 a1 0) = some (r1, r2) := h
 clear h
 have H' := Aside0.mk H
 clear H
 go_enter Try.func37, Try.ntmps37
 go_wp2
 go_loopg [1, 5] k (fun kq v1 v5 w' => ∃ (x0_1 : List Int) (x1_1 : Int) (x5_1 : Int), v1 = .int .i64 x1_1 ∧ v5 = .int .i64 x5_1 ∧ Aside0 (laws_markIntS.l0 kq x0_1 x1_1 x5_1 = some (r1, r2)) ∧ Aside0 (kq ≤ k) ∧ Aside0 (Kd.R (Kd.int .i64) 3 w' w0.heap.size (fun k_ => (P0_ k_ ∨ w.heap.size ≤ k_)) u9000_ x0_1) ∧ Aside0 (Kept w w' (fun k_ => P0_ k_)) ∧ Aside0 (Below w0.heap.size w0 w'))
 case atStart => exact ⟨(l0), (a1), (0), (by first | rfl | (simp; done) | (simp [*]; done)), (by first | rfl | (simp; done) | (simp [*]; done)), H', ⟨Nat.le_refl _⟩, ⟨by (with_reducible repeat (first | apply qA | apply qN | apply qD)); exact HO0.out⟩, ⟨by repeat (first | (with_reducible first | exact HK.out | apply Kept.alloc | apply Kept.drewN | apply Kept.drew) | exact HK.out)⟩, ⟨by repeat (first | (with_reducible first | exact HB.out | apply ba | apply bd | apply be) | exact HB.out)⟩⟩
 case round =>
  clear H'
  try clear p2
  obtain ⟨x0_1, x1_1, x5_1, rfl, rfl, HA, HK1, HO_0, HK, HB⟩ := hrel
  cases gk with
  | zero => exact absurd HA.out (by simp [laws_markIntS.l0])
  | succ k1 =>
   have H := HA.out
   clear HA
   simp only [laws_markIntS.l0] at H
   by_cases c3 : x5_1 < (x0_1.length : Int)
   ·rw [if_pos c3] at H
    have c3b0 : decide (x5_1 < (x0_1.length : Int)) = true := decide_eq_true c3
    clear c3
    by_cases c4 : 0 ≤ x5_1
    ·rw [if_pos c4] at H
     have c4b0 : decide (0 ≤ x5_1) = true := decide_eq_true c4
     clear c4
     obtain ⟨y101, hy101⟩ : ∃ y_ : List Int, y_ = (x0_1.set (x5_1 : Int).toNat x1_1) := ⟨_, rfl⟩
     replace H : (laws_markIntS.l0 k1 y101 (wrap64 (x1_1 + 1)) (wrap64 (x5_1 + 1))) = some (r1, r2) := by first | (rw [hy101]; with_reducible exact H) | (have H2_ := (Option.bind_some _ _).symm.trans H; rw [hy101]; with_reducible exact H2_) | (have H2_ := (Option.bind_some _ _).symm.trans H; with_reducible exact H2_) | with_reducible exact H | (rw [hy101]; exact H) | exact H
     have Ny101 := Aside0.mk hy101
     clear hy101
     have H' := Aside0.mk H
     clear H
     obtain ⟨Ao6, co6, eo6⟩ := Kd.R_slice HO_0.out
     subst eo6
     have p5 : 0 ≤ (x5_1 : Int) := of_decide_eq_true (by first | (with_reducible assumption) | assumption)
     have q5 : (x5_1 : Int) < ((x0_1.length : Int) : Int) := of_decide_eq_true (by first | (with_reducible assumption) | assumption)
     obtain ⟨go5, co5, eo5, gb5, gl5, cl5, HG5⟩ := Kd.R_form HO_0.out (by omega)
     (first | cases eo5 | (injection eo5 with ea_ en_ ec_; (first | subst ea_ | (injection ea_ with ea_; subst ea_)); subst ec_; clear en_))
     have GB5 := Aside0.mk gb5
     have GG5 := Aside0.mk HG5
     clear gb5 gl5 HG5
     have HMgo5 := Aside0.mk (show (P0_ go5 ∨ w.heap.size ≤ go5) from (HO_0.out.1 _ rfl))
     obtain ⟨hx5_0, hf5_0⟩ := Kd.R_celln 0 HO_0.out (x5_1 : Int) p5 q5
     replace p5 := eq_true p5
     replace q5 := eq_true q5
     have HP7 := Kd.R_putg HO_0.out (x5_1 : Int) x1_1
     go_wp2_with (first | ((with_reducible refine gate_store (t := 3) (p := 15) rfl ?_); refine store_event (t := 3) (p := 15) (v := ?vo_w8) (w1 := (wr.setCell ⟨go5, (x5_1 : Int).toNat, none⟩ (.int .i64 x1_1))) ?hg ?ho ?hn ?hr ?_; (case ho => rfl); (case hg => rfl); (case hn => rfl); (case hr => first | (go_simp; done) | (go_simp; rfl)); intro w8 hw; have hg : wr.grownBy w8 (some go5) := (by rw [hw]; exact HP7.2); have hp_ : Kd.R (Kd.int .i64) 3 w8 w0.heap.size (fun k_ => (P0_ k_ ∨ w.heap.size ≤ k_)) (.slice (some ⟨go5, 0, none⟩) x0_1.length co6) y101 := (by rw [hw, Ny101.out]; exact HP7.1); clear HP7; have n0_ := Aside0.mk (hp_); have n1_ := Aside0.mk ((by rw [hw]; exact below_set (HB.out) GB5.out : Below w0.heap.size w0 w8)); have n2_ := Aside0.mk (Kept.of_grown (S := (fun k_ => P0_ k_)) hg (by repeat (first | (with_reducible first | exact HK.out | apply Kept.alloc | apply Kept.drewN | apply Kept.drew) | exact HK.out)) (fun k_ e_ => (HO_0.out.1 k_ e_))); clear HO_0; clear HB; clear HK; have HO_0 := n0_; have HB := n1_; have HK := n2_; clear n0_ n1_ n2_; clear hg hw hp_))
     go_roundg k1
     case measure => have := HK1.out; omega
     case rel => exact ⟨(y101), (wrap64 (x1_1 + 1)), (wrap64 (x5_1 + 1)), (by first | rfl | (simp; done) | (simp [*]; done)), (by first | rfl | (simp; done) | (simp [*]; done)), H', ⟨by have := HK1.out; omega⟩, ⟨by (with_reducible repeat (first | apply qA | apply qN | apply qD)); exact HO_0.out⟩, ⟨by repeat (first | (with_reducible first | exact HK.out | apply Kept.alloc | apply Kept.drewN | apply Kept.drew) | exact HK.out)⟩, ⟨by repeat (first | (with_reducible first | exact HB.out | apply ba | apply bd | apply be) | exact HB.out)⟩⟩
    ·rw [if_neg c4] at H
     exact absurd H (by simp)
   ·rw [if_neg c3] at H
    have c3b0 : decide (x5_1 < (x0_1.length : Int)) = false := decide_eq_false c3
    clear c3
    simp only [Option.some.injEq, Prod.mk.injEq] at H
    obtain ⟨rfl, rfl⟩ := H
    obtain ⟨Ao9, co9, eo9⟩ := Kd.R_slice HO_0.out
    subst eo9
    go_wp2
    go_ret
    exact ⟨by first | rfl | (simp <;> rfl) | (simp [*] <;> rfl), by (with_reducible repeat (first | apply qA | apply qN | apply qD)); exact HO_0.out, by repeat (first | (with_reducible first | exact HB.out | apply ba | apply bd | apply be) | exact HB.out), by repeat (first | (with_reducible first | exact HK.out | apply Kept.alloc | apply Kept.drewN | apply Kept.drew) | exact HK.out)⟩

end Go.Proofs.Yticnoiflccbhcaa.Q

namespace Go.Proofs.Yticnoiflccbhcaa.Q
open Go.RowKit Go.Proofs.YticnoiflccbhcaaW.PrintWords Go.Proofs.YticnoiflccbhcaaW.PrintLast Go.Proofs.YticnoiflccbhcaaW.PrintMore Go.Proofs.YticnoiflccbhcaaM
set_option linter.unusedVariables false
set_option linter.unusedSimpArgs false
theorem laws_toIntS.ev_l (l : List Int) (hl : l.length ≤ 35184372088832) : ∀ (d i : Nat) (acc : List Int), i + d = l.length → acc.length = l.length → acc.take i = l.take i → Ev (fun k => laws_toIntS.l0 k l acc (i : Int)) l := by
  intro d
  induction d with
  | zero =>
    intro i acc h hlen ht
    refine ev_step ?_
    simp only [laws_toIntS.l0]
    rw [ev_neg (by omega), ev_now]
    rwa [List.take_of_length_le (by omega), List.take_of_length_le (by omega)] at ht
  | succ d ih =>
    intro i acc h hlen ht
    refine ev_step ?_
    simp only [laws_toIntS.l0]
    have hi : i < l.length := by omega
    rw [ev_pos (by omega), ev_pos (by omega), ev_pos (by omega), w64i (n := l.length) (by omega) (by omega) (by omega), rd_lt l i hi, Int.toNat_natCast]
    refine ih (i + 1) _ (by omega) (by simpa using hlen) ?_
    rw [List.take_succ_eq_append_getElem (by simp; omega), List.take_succ_eq_append_getElem hi, List.take_set_of_le (by omega), ht]
    simp
theorem laws_toIntS.ev (l : List Int) (hl : l.length ≤ 35184372088832) : Ev (fun k => laws_toIntS.f k l) l := by
  simp only [laws_toIntS.f]
  rw [ev_pos (by omega), ev_pos (by omega)]
  exact laws_toIntS.ev_l l hl l.length 0 _ (by omega) (by simp) (by simp)
theorem laws_eqIntS.ev_l (a b : List Int) (hl : a.length ≤ 9223372036854775807) (hab : a.length = b.length) : ∀ (d i : Nat), i + d = a.length → Ev (fun k => laws_eqIntS.l0 k a b (i : Int)) (decide (a.drop i = b.drop i)) := by
  intro d
  induction d with
  | zero =>
    intro i h
    refine ev_step ?_
    simp only [laws_eqIntS.l0]
    rw [ev_neg (by omega), ev_now, List.drop_of_length_le (by omega), List.drop_of_length_le (by omega)]
    rfl
  | succ d ih =>
    intro i h
    refine ev_step ?_
    simp only [laws_eqIntS.l0]
    have hi : i < a.length := by omega
    have hj : i < b.length := by omega
    rw [ev_pos (by omega), ev_pos (by omega), ev_pos (by omega), rd_lt a i hi, rd_lt b i hj, w64i (n := a.length) (by omega) (by omega) (by omega)]
    have ed : decide (a.drop i = b.drop i) = (decide (a[i] = b[i]) && decide (a.drop (i + 1) = b.drop (i + 1))) := by
      rw [List.drop_eq_getElem_cons hi, List.drop_eq_getElem_cons hj, ← Bool.decide_and]
      simp only [List.cons.injEq]
    rw [ed]
    by_cases e : a[i] = b[i]
    · rw [ev_pos e, decide_eq_true e, Bool.true_and]
      exact ih (i + 1) (by omega)
    · rw [ev_neg e, ev_now, decide_eq_false e, Bool.false_and]
theorem laws_eqIntS.ev (a b : List Int) (hl : a.length ≤ 9223372036854775807) : Ev (fun k => laws_eqIntS.f k a b) (decide (a = b)) := by
  simp only [laws_eqIntS.f]
  by_cases h : a.length = b.length
  · rw [ev_pos (by omega)]
    exact laws_eqIntS.ev_l a b hl h a.length 0 (by omega)
  · rw [ev_neg (by omega), ev_now]
    have : a ≠ b := fun e => h (by rw [e])
    simp [this]
/-- The numbers from k on, as many as are asked. -/
def marks (k : Int) (n : Nat) : List Int := (List.range n).map fun (i : Nat) => k + (i : Int)
theorem marks_length (k : Int) (n : Nat) : (marks k n).length = n := by simp [marks]
theorem marks_get (k : Int) (n i : Nat) (h : i < (marks k n).length) : (marks k n)[i] = k + (i : Int) := by simp [marks]
theorem laws_markIntS.ev_l (n : Nat) (c : Int) (hn : n ≤ 9223372036854775807) (hc0 : 0 ≤ c) (hc : c + (n : Int) ≤ 9223372036854775807) : ∀ (d i : Nat) (acc : List Int), i + d = n → acc.length = n → acc.take i = (marks c n).take i → Ev (fun k => laws_markIntS.l0 k acc (c + (i : Int)) (i : Int)) (c + (n : Int), marks c n) := by
  intro d
  induction d with
  | zero =>
    intro i acc h hlen ht
    refine ev_step ?_
    simp only [laws_markIntS.l0]
    rw [ev_neg (by omega), ev_now]
    rw [List.take_of_length_le (by omega), List.take_of_length_le (by rw [marks_length]; omega)] at ht
    rw [ht, show i = n by omega]
  | succ d ih =>
    intro i acc h hlen ht
    refine ev_step ?_
    simp only [laws_markIntS.l0]
    have hi : i < n := by omega
    rw [ev_pos (by omega), ev_pos (by omega), w64i (i := (i : Int)) (n := n) (by omega) (by omega) hn, w64 (x := c + (i : Int) + 1) (by omega) (by omega), Int.toNat_natCast]
    rw [show c + (i : Int) + 1 = c + ((i + 1 : Nat) : Int) by omega]
    refine ih (i + 1) _ (by omega) (by simpa using hlen) ?_
    rw [List.take_succ_eq_append_getElem (by simp; omega), List.take_succ_eq_append_getElem (by rw [marks_length]; omega), List.take_set_of_le (by omega), ht, marks_get]
    simp
theorem laws_markIntS.ev (l : List Int) (c : Int) (hc0 : 0 ≤ c) (hc : c + (l.length : Int) ≤ 9223372036854775807) : Ev (fun k => laws_markIntS.f k l c) (c + (l.length : Int), marks c l.length) := by
  have := laws_markIntS.ev_l l.length c (by omega) hc0 hc l.length 0 l (by omega) rfl (by simp)
  simpa [laws_markIntS.f] using this
theorem laws_heldIntS.ev_l (n : Nat) (c : Int) (hn : n ≤ 9223372036854775807) (hc0 : 0 ≤ c) (hc : c + (n : Int) ≤ 9223372036854775807) : ∀ (d i : Nat), i + d = n → Ev (fun k => laws_heldIntS.l0 k (marks c n) (c + (i : Int)) (i : Int)) (c + (n : Int)) := by
  intro d
  induction d with
  | zero =>
    intro i h
    refine ev_step ?_
    simp only [laws_heldIntS.l0]
    rw [marks_length, ev_neg (by omega), ev_now]
    omega
  | succ d ih =>
    intro i h
    refine ev_step ?_
    simp only [laws_heldIntS.l0]
    have hi : i < (marks c n).length := by rw [marks_length]; omega
    rw [rd_lt _ i hi, marks_get, marks_length, ev_pos (by omega), ev_pos (by omega), ev_pos rfl, w64i (i := (i : Int)) (n := n) (by omega) (by omega) hn, w64 (x := c + (i : Int) + 1) (by omega) (by omega)]
    rw [show c + (i : Int) + 1 = c + ((i + 1 : Nat) : Int) by omega]
    exact ih (i + 1) (by omega)
theorem laws_heldIntS.ev (n : Nat) (c : Int) (hc0 : 0 ≤ c) (hc : c + (n : Int) ≤ 9223372036854775807) : Ev (fun k => laws_heldIntS.f k (marks c n) c) (c + (n : Int)) := by
  have := laws_heldIntS.ev_l n c (by omega) hc0 hc n 0 (by omega)
  simpa [laws_heldIntS.f] using this
theorem laws_szIntS.v (l : List Int) (c : Int) (hc : c ≤ 9223372036854775807) (hl : (l.length : Int) ≤ 9223372036854775807 + c) : laws_szIntS.f l c = some (if c - (l.length : Int) < 0 then -1 else c - (l.length : Int)) := by
  unfold laws_szIntS.f
  rw [w64 (by omega) (by omega)]
  split <;> rfl
end Go.Proofs.Yticnoiflccbhcaa.Q

namespace Go.Proofs.Yticnoiflccbhcaa.Q
open Go.RowKit Go.Proofs.YticnoiflccbhcaaX Go.Proofs.YticnoiflccbhcaaW.PrintWords Go.Proofs.YticnoiflccbhcaaW.PrintLast Go.Proofs.YticnoiflccbhcaaW.PrintMore
attribute [local go_sem] max2_int min2_int max_two min_two max_three min_three max_four min_four   -- for this text's walks alone
set_option linter.unusedVariables false
set_option linter.unusedSimpArgs false

/-! ### laws_heldCommittee: function 21 -/
def laws_heldCommittee.f (k : Nat) (a0_0 : Int) (l0_1 : List Int) (a1 : Int) : Option (Int) := (laws_heldIntS.f k l0_1 a1).bind fun t102 => (if t102 < 0 then (some (-1)) else (some t102))
theorem laws_heldCommittee.mono : ∀ a0 a1 a2 k, LeO (laws_heldCommittee.f k a0 a1 a2) (laws_heldCommittee.f (k + 1) a0 a1 a2) := by
 intro a0 a1 a2 k
 unfold laws_heldCommittee.f
 repeat' first
   | (with_reducible exact laws_heldIntS.mono _ _ _)
   | (with_reducible exact LeO.refl _)
   | (with_reducible exact LeO.none _)
   | (with_reducible refine LeO.ite ?_ ?_)
   | (with_reducible refine LeO.bind ?_ (fun _ => ?_))
   | exact laws_heldIntS.mono _ _ _
   | exact LeO.none _
   | refine LeO.ite ?_ ?_
   | refine LeO.bind ?_ (fun _ => ?_)
set_option maxHeartbeats 8000000 in
set_option maxRecDepth 100000 in
theorem laws_heldCommittee.calls (k : Nat) (a0_0 : Int) (A0_1 : Option Addr) (c0_1 : Nat) (l0_1 : List Int) (a1 : Int) (r : Int) (w : World) (hr0_1 : Kd.C (Kd.int .i64) w A0_1 l0_1.length l0_1) (hc0_1 : l0_1.length ≤ c0_1) (h : laws_heldCommittee.f k a0_0 l0_1 a1 = some r) :
  Calls Try.prog 21 #[.agg #[.int .i64 a0_0, .slice A0_1 l0_1.length c0_1], .int .i64 a1] w fun e w' => e = .returned (.int .i64 r) ∧ Below w.heap.size w w' := by
 have hu26 := Try.underlying26
 have HR0_1 := Aside0.mk hr0_1
 have HC0_1 := Aside0.mk hc0_1
 clear hr0_1 hc0_1
 have HB := Aside0.mk (Below.refl w.heap.size w)
 have H : ((laws_heldIntS.f k l0_1 a1).bind fun t102 => (if t102 < 0 then (some (-1)) else (some t102))) = some r := h
 clear h
 replace H := oB H
 obtain ⟨t102, A30, H⟩ := H
 replace H : (if t102 < 0 then (some (-1)) else (some t102)) = some r := H
 have A3 := Aside0.mk A30
 clear A30
 by_cases c4 : t102 < 0
 ·rw [if_pos c4] at H
  have c4b0 : decide (t102 < 0) = true := decide_eq_true c4
  clear c4
  obtain rfl := Option.some.inj H
  go_enter Try.func21, Try.ntmps21
  go_wp2_with (first | ((with_reducible refine gate_dst (N := 2) rfl ?_); refine box_event ?hg (N := 2) ?hd (cs := #[.int .i64 a0_0, .slice A0_1 l0_1.length c0_1]) (t := 26) ?hr ?_; (case hd => rfl); (case hg => rfl); (case hr => first | (go_simp; done) | (go_simp; rfl)); intro gb101 hg w5 hbox hb; have n0_ := Aside0.mk (below_step (by repeat (first | (with_reducible first | exact HB.out | apply ba | apply bd | apply be) | exact HB.out)) hb); have n1_ := Aside0.mk (hbox); have n2_ := Aside0.mk ((by rw [hg]; exact (below_size (by repeat (first | (with_reducible first | exact HB.out | apply ba | apply bd | apply be) | exact HB.out))) : w.heap.size ≤ gb101)); have n3_ := Aside0.mk ((by rw [hg]; exact (below_size (by repeat (first | (with_reducible first | exact HB.out | apply ba | apply bd | apply be) | exact HB.out))) : w.heap.size ≤ gb101)); clear HB; have HB := n0_; have BK101 := n1_; have GW101 := n2_; have GE101 := n3_; clear n0_ n1_ n2_ n3_; clear hb hbox hg; have hcz6_0 : w5.cell? ⟨gb101, 0, none⟩ = some (.int .i64 a0_0) := (blk_cell BK101.out 0).trans rfl; have hcz6_1 : w5.cell? ⟨gb101, 1, none⟩ = some (.slice A0_1 l0_1.length c0_1) := (blk_cell BK101.out 1).trans rfl; have hfz6_0 := blk_frozen BK101.out 0; have hfz6_1 := blk_frozen BK101.out 1) | ((with_reducible refine gate_callee (f := 38) rfl ?_); refine goesL_ (some 8) rfl rfl Try.func38 (by kernel_rfl) rfl #[.slice A0_1 l0_1.length c0_1, .int .i64 a1] rfl (by (try simp only [mA, mC, mN]); first | done | rfl | (simp only [List.length_drop, List.length_take]; rfl)) ?_; (with_reducible refine (laws_heldIntS.calls k _ _ l0_1 a1 t102 _ ?side1 ?side2 A3.out).mono ?_); (case side1 => repeat (first | exact (Kd.C_below HR0_1.out HB.out) | (with_reducible refine Kd.C_alloc ?_ _) | (with_reducible refine Kd.C_drewN ?_ _) | (with_reducible refine Kd.C_drew ?_))); (case side2 => exact HC0_1.out); rintro e w' ⟨rfl, ⟨nd, rfl⟩⟩; refine ⟨_, rfl, ?_⟩))
  go_ret
  exact ⟨by first | rfl | (simp <;> rfl) | (simp [*] <;> rfl), by repeat (first | (with_reducible first | exact HB.out | apply ba | apply bd | apply be | refine bs ?_ GE101.out) | exact HB.out)⟩
 ·rw [if_neg c4] at H
  have c4b0 : decide (t102 < 0) = false := decide_eq_false c4
  clear c4
  obtain rfl := Option.some.inj H
  go_enter Try.func21, Try.ntmps21
  go_wp2_with (first | ((with_reducible refine gate_dst (N := 2) rfl ?_); refine box_event ?hg (N := 2) ?hd (cs := #[.int .i64 a0_0, .slice A0_1 l0_1.length c0_1]) (t := 26) ?hr ?_; (case hd => rfl); (case hg => rfl); (case hr => first | (go_simp; done) | (go_simp; rfl)); intro gb101 hg w7 hbox hb; have n0_ := Aside0.mk (below_step (by repeat (first | (with_reducible first | exact HB.out | apply ba | apply bd | apply be) | exact HB.out)) hb); have n1_ := Aside0.mk (hbox); have n2_ := Aside0.mk ((by rw [hg]; exact (below_size (by repeat (first | (with_reducible first | exact HB.out | apply ba | apply bd | apply be) | exact HB.out))) : w.heap.size ≤ gb101)); have n3_ := Aside0.mk ((by rw [hg]; exact (below_size (by repeat (first | (with_reducible first | exact HB.out | apply ba | apply bd | apply be) | exact HB.out))) : w.heap.size ≤ gb101)); clear HB; have HB := n0_; have BK101 := n1_; have GW101 := n2_; have GE101 := n3_; clear n0_ n1_ n2_ n3_; clear hb hbox hg; have hcz8_0 : w7.cell? ⟨gb101, 0, none⟩ = some (.int .i64 a0_0) := (blk_cell BK101.out 0).trans rfl; have hcz8_1 : w7.cell? ⟨gb101, 1, none⟩ = some (.slice A0_1 l0_1.length c0_1) := (blk_cell BK101.out 1).trans rfl; have hfz8_0 := blk_frozen BK101.out 0; have hfz8_1 := blk_frozen BK101.out 1) | ((with_reducible refine gate_callee (f := 38) rfl ?_); refine goesL_ (some 8) rfl rfl Try.func38 (by kernel_rfl) rfl #[.slice A0_1 l0_1.length c0_1, .int .i64 a1] rfl (by (try simp only [mA, mC, mN]); first | done | rfl | (simp only [List.length_drop, List.length_take]; rfl)) ?_; (with_reducible refine (laws_heldIntS.calls k _ _ l0_1 a1 t102 _ ?side1 ?side2 A3.out).mono ?_); (case side1 => repeat (first | exact (Kd.C_below HR0_1.out HB.out) | (with_reducible refine Kd.C_alloc ?_ _) | (with_reducible refine Kd.C_drewN ?_ _) | (with_reducible refine Kd.C_drew ?_))); (case side2 => exact HC0_1.out); rintro e w' ⟨rfl, ⟨nd, rfl⟩⟩; refine ⟨_, rfl, ?_⟩))
  go_ret
  exact ⟨by first | rfl | (simp <;> rfl) | (simp [*] <;> rfl), by repeat (first | (with_reducible first | exact HB.out | apply ba | apply bd | apply be | refine bs ?_ GE101.out) | exact HB.out)⟩

end Go.Proofs.Yticnoiflccbhcaa.Q

namespace Go.Proofs.Yticnoiflccbhcaa.Q
open Go.RowKit Go.Proofs.YticnoiflccbhcaaX Go.Proofs.YticnoiflccbhcaaW.PrintWords Go.Proofs.YticnoiflccbhcaaW.PrintLast Go.Proofs.YticnoiflccbhcaaW.PrintMore
attribute [local go_sem] max2_int min2_int max_two min_two max_three min_three max_four min_four   -- for this text's walks alone
set_option linter.unusedVariables false
set_option linter.unusedSimpArgs false

/-! ### laws_markCommittee: function 20 -/
def laws_markCommittee.f (k : Nat) (a0_0 : Int) (l0_1 : List Int) (a1 : Int) : Option (Int × List Int) := (laws_markIntS.f k l0_1 a1).bind fun bt102 => (some (bt102.1, bt102.2))
theorem laws_markCommittee.mono : ∀ a0 a1 a2 k, LeO (laws_markCommittee.f k a0 a1 a2) (laws_markCommittee.f (k + 1) a0 a1 a2) := by
 intro a0 a1 a2 k
 unfold laws_markCommittee.f
 repeat' first
   | (with_reducible exact laws_markIntS.mono _ _ _)
   | (with_reducible exact LeO.refl _)
   | (with_reducible exact LeO.none _)
   | (with_reducible refine LeO.ite ?_ ?_)
   | (with_reducible refine LeO.bind ?_ (fun _ => ?_))
   | exact laws_markIntS.mono _ _ _
   | exact LeO.none _
   | refine LeO.ite ?_ ?_
   | refine LeO.bind ?_ (fun _ => ?_)
set_option maxHeartbeats 8000000 in
set_option maxRecDepth 100000 in
theorem laws_markCommittee.calls (k : Nat) (a0_0 : Int) (P0_1_ : Nat → Prop) (u9000_ : Value) (l0_1 : List Int) (a1 : Int) (r1 : Int) (r2 : List Int) (w0 w : World) (hB : Below w0.heap.size w0 w) (ho0_1 : Kd.R (Kd.int .i64) 3 w w0.heap.size P0_1_ u9000_ l0_1) (h : laws_markCommittee.f k a0_0 l0_1 a1 = some (r1, r2)) :
  Calls Try.prog 20 #[.agg #[.int .i64 a0_0, u9000_], .int .i64 a1] w fun e w' => e = .returned (.int .i64 r1) ∧ Kd.R (Kd.int .i64) 3 w' w0.heap.size (fun k_ => (P0_1_ k_ ∨ w.heap.size ≤ k_)) u9000_ r2 ∧ Below w0.heap.size w0 w' ∧ Kept w w' (fun k_ => P0_1_ k_) := by
 have hu26 := Try.underlying26
 have HO0_1 := Aside0.mk (show Kd.R (Kd.int .i64) 3 w w0.heap.size (fun k_ => (P0_1_ k_ ∨ w.heap.size ≤ k_)) u9000_ l0_1 from Kd.R_mono ho0_1 (fun k_ hk => (.inl hk)))
 have HK := Aside0.mk (Kept.refl w (fun k_ => P0_1_ k_))
 have HW0 := Aside0.mk hB.size
 have HB := Aside0.mk hB
 clear hB
 have H : ((laws_markIntS.f k l0_1 a1).bind fun bt102 => (some (bt102.1, bt102.2))) = some (r1, r2) := h
 clear h
 replace H := oB H
 obtain ⟨⟨t102, t103⟩, A30, H⟩ := H
 replace H : (some (t102, t103)) = some (r1, r2) := H
 have A3 := Aside0.mk A30
 clear A30
 simp only [Option.some.injEq, Prod.mk.injEq] at H
 obtain ⟨rfl, rfl⟩ := H
 obtain ⟨Ao4, co4, eo4⟩ := Kd.R_slice HO0_1.out
 subst eo4
 go_enter Try.func20, Try.ntmps20
 go_wp2_with (first | ((with_reducible refine gate_dst (N := 2) rfl ?_); refine box_event ?hg (N := 2) ?hd (cs := #[.int .i64 a0_0, .slice Ao4 l0_1.length co4]) (t := 26) ?hr ?_; (case hd => rfl); (case hg => rfl); (case hr => first | (go_simp; done) | (go_simp; rfl)); intro gb101 hg w5 hbox hb; have n0_ := Aside0.mk (Kd.R_below (by (with_reducible repeat (first | apply qA | apply qN | apply qD)); exact HO0_1.out) hb); have n1_ := Aside0.mk (Kept.below (S := (fun k_ => P0_1_ k_)) (by repeat (first | (with_reducible first | exact HK.out | apply Kept.alloc | apply Kept.drewN | apply Kept.drew) | exact HK.out)) hb); have n2_ := Aside0.mk (below_step (by repeat (first | (with_reducible first | exact HB.out | apply ba | apply bd | apply be) | exact HB.out)) hb); have n3_ := Aside0.mk (hbox); have n4_ := Aside0.mk ((by rw [hg]; exact (by first | exact HK.out.1 | exact (show Kept w _ (fun k_ => P0_1_ k_) from by repeat (first | (with_reducible first | exact HK.out | apply Kept.alloc | apply Kept.drewN | apply Kept.drew) | exact HK.out)).1) : w.heap.size ≤ gb101)); have n5_ := Aside0.mk ((by rw [hg]; exact (below_size (by repeat (first | (with_reducible first | exact HB.out | apply ba | apply bd | apply be) | exact HB.out))) : w0.heap.size ≤ gb101)); clear HO0_1; clear HK; clear HB; have HO0_1 := n0_; have HK := n1_; have HB := n2_; have BK101 := n3_; have GW101 := n4_; have GE101 := n5_; clear n0_ n1_ n2_ n3_ n4_ n5_; clear hb hbox hg; have hcz6_0 : w5.cell? ⟨gb101, 0, none⟩ = some (.int .i64 a0_0) := (blk_cell BK101.out 0).trans rfl; have hcz6_1 : w5.cell? ⟨gb101, 1, none⟩ = some (.slice Ao4 l0_1.length co4) := (blk_cell BK101.out 1).trans rfl; have hfz6_0 := blk_frozen BK101.out 0; have hfz6_1 := blk_frozen BK101.out 1) | ((with_reducible refine gate_callee (f := 37) rfl ?_); refine goesL_ (some 8) rfl rfl Try.func37 (by kernel_rfl) rfl #[.slice Ao4 l0_1.length co4, .int .i64 a1] rfl (by (try simp only [mA, mC, mN]); first | done | rfl | (simp only [List.length_drop, List.length_take]; rfl)) ?_; (with_reducible refine (laws_markIntS.calls k (fun k_ => some k_ = (.slice Ao4 l0_1.length co4 : Value).ownBlock) (.slice Ao4 l0_1.length co4) l0_1 a1 t102 t103 w0 _ ?side1 ?side2 A3.out).mono ?_); (case side1 => repeat (first | (with_reducible first | exact HB.out | apply ba | apply bd | apply be | refine bs ?_ GE101.out) | exact HB.out)); (case side2 => exact Kd.R_tight rfl HO0_1.out); rintro e w7 ⟨rfl, hy0, hb, hkp⟩; refine ⟨_, rfl, ?_⟩; have n0_ := Aside0.mk (Kd.R_reok rfl hy0 (fun k_ e_ => HO0_1.out.1 k_ e_)); have n1_ := Aside0.mk (blk_kept (by (with_reducible repeat (first | refine kN ?_ _ | refine kD ?_ | refine kA ?_ _)); exact BK101.out) hkp (fun hs_ => (fun e_ => (Kd.R_ne HO0_1.out BK101.out (by decide)) e_) hs_)); have n2_ := Aside0.mk (Kept.then_ (S := (fun k_ => P0_1_ k_)) (by repeat (first | (with_reducible first | exact HK.out | apply Kept.alloc | apply Kept.drewN | apply Kept.drew | refine Kept.setCell ?_ (.inr GW101.out) _) | exact HK.out)) hkp (fun k_ hs_ => (fun e_ => (HO0_1.out.1 k_ e_.symm)) hs_)); have n3_ := Aside0.mk (hb); clear HO0_1; clear BK101; clear HK; clear HB; have HO0_1 := n0_; have BK101 := n1_; have HK := n2_; have HB := n3_; clear n0_ n1_ n2_ n3_; (try clear hb); (try clear hkp); (try clear hy0)))
 go_ret
 exact ⟨by first | rfl | (simp <;> rfl) | (simp [*] <;> rfl), by (with_reducible repeat (first | apply qA | apply qN | apply qD)); exact HO0_1.out, by repeat (first | (with_reducible first | exact HB.out | apply ba | apply bd | apply be | refine bs ?_ GE101.out) | exact HB.out), by repeat (first | (with_reducible first | exact HK.out | apply Kept.alloc | apply Kept.drewN | apply Kept.drew | refine Kept.setCell ?_ (.inr GW101.out) _) | exact HK.out)⟩

end Go.Proofs.Yticnoiflccbhcaa.Q

namespace Go.Proofs.Yticnoiflccbhcaa.Q
open Go.RowKit Go.Proofs.YticnoiflccbhcaaW.PrintWords Go.Proofs.YticnoiflccbhcaaW.PrintLast Go.Proofs.YticnoiflccbhcaaW.PrintMore Go.Proofs.YticnoiflccbhcaaM
set_option linter.unusedVariables false
set_option linter.unusedSimpArgs false
theorem laws_toCommittee.ev (q : Int) (l : List Int) (hl : l.length ≤ 35184372088832) : Ev (fun k => laws_toCommittee.f k q l) (q, l) := by
  simp only [laws_toCommittee.f]
  rw [ev_bind (laws_toIntS.ev l hl), ev_now]
theorem laws_eqCommittee.ev (q : Int) (a : List Int) (q' : Int) (b : List Int) (hl : a.length ≤ 9223372036854775807) : Ev (fun k => laws_eqCommittee.f k q a q' b) (decide (q = q') && decide (a = b)) := by
  simp only [laws_eqCommittee.f]
  by_cases h : q = q'
  · rw [ev_pos h, ev_bind (laws_eqIntS.ev a b hl)]
    by_cases e : a = b
    · rw [ev_pos (by simpa using e), ev_now]; simp [h, e]
    · rw [ev_neg (by simpa using e), ev_now]; simp [e]
  · rw [ev_neg h, ev_now]; simp [h]
theorem laws_eqCommittee.ev_same (q : Int) (a : List Int) (hl : a.length ≤ 9223372036854775807) : Ev (fun k => laws_eqCommittee.f k q a q a) true := by
  have := laws_eqCommittee.ev q a q a hl
  simpa using this
theorem laws_markCommittee.ev (q : Int) (l : List Int) (c : Int) (hc0 : 0 ≤ c) (hc : c + (l.length : Int) ≤ 9223372036854775807) : Ev (fun k => laws_markCommittee.f k q l c) (c + (l.length : Int), marks c l.length) := by
  simp only [laws_markCommittee.f]
  rw [ev_bind (laws_markIntS.ev l c hc0 hc), ev_now]
theorem laws_heldCommittee.ev (q : Int) (n : Nat) (c : Int) (hc0 : 0 ≤ c) (hc : c + (n : Int) ≤ 9223372036854775807) : Ev (fun k => laws_heldCommittee.f k q (marks c n) c) (c + (n : Int)) := by
  simp only [laws_heldCommittee.f]
  rw [ev_bind (laws_heldIntS.ev n c hc0 hc), ev_neg (by omega), ev_now]
theorem laws_szCommittee.v (q : Int) (l : List Int) (c : Int) (hc : c ≤ 9223372036854775807) (hl : (l.length : Int) ≤ 9223372036854775807 + c) : laws_szCommittee.f q l c = some (if c - (l.length : Int) < 0 then -1 else c - (l.length : Int)) := by
  unfold laws_szCommittee.f
  rw [laws_szIntS.v l c hc hl, Option.bind_some]
  by_cases h : c - (l.length : Int) < 0
  · simp [h]
  · simp [h]
end Go.Proofs.Yticnoiflccbhcaa.Q

namespace Go.Proofs.Yticnoiflccbhcaa.Q
open Go.RowKit Go.Proofs.YticnoiflccbhcaaW.PrintWords Go.Proofs.YticnoiflccbhcaaW.PrintLast Go.Proofs.YticnoiflccbhcaaW.PrintMore Go.Proofs.YticnoiflccbhcaaM
set_option linter.unusedVariables false
set_option linter.unusedSimpArgs false
theorem laws_toIntSS.ev_l (l : List (List Int)) (hl : l.length ≤ 11728124029610) (hx : ∀ x ∈ l, x.length ≤ 35184372088832) : ∀ (d i : Nat) (acc : List (List Int)), i + d = l.length → acc.length = l.length → acc.take i = l.take i → Ev (fun k => laws_toIntSS.l0 k l acc (i : Int)) l := by
  intro d
  induction d with
  | zero =>
    intro i acc h ha ht
    refine ev_step ?_
    simp only [laws_toIntSS.l0]
    rw [List.take_of_length_le (by omega), List.take_of_length_le (by omega)] at ht
    rw [ev_neg (by omega), ev_now, ht]
  | succ d ih =>
    intro i acc h ha ht
    refine ev_step ?_
    simp only [laws_toIntSS.l0]
    have hi : i < l.length := by omega
    rw [ev_pos (by omega), ev_pos (by omega), rd_L2_lt l i hi, ev_bind (laws_toIntS.ev l[i] (hx _ (List.getElem_mem hi))), ev_pos (by omega), w64i (n := l.length) (by omega) (by omega) (by omega), Int.toNat_natCast]
    refine ih (i + 1) _ (by omega) (by simpa using ha) ?_
    rw [List.take_succ_eq_append_getElem (by rw [List.length_set]; omega), List.take_succ_eq_append_getElem hi, List.take_set_of_le (by omega), ht, List.getElem_set_self]
theorem laws_toIntSS.ev (l : List (List Int)) (hl : l.length ≤ 11728124029610) (hx : ∀ x ∈ l, x.length ≤ 35184372088832) : Ev (fun k => laws_toIntSS.f k l) l := by
  simp only [laws_toIntSS.f]
  rw [ev_pos (by omega), ev_pos (by omega), Int.toNat_natCast]
  exact laws_toIntSS.ev_l l hl hx l.length 0 _ (by omega) (by simp) (by simp)
theorem laws_eqIntSS.ev_l (a b : List (List Int)) (hl : a.length ≤ 9223372036854775807) (hab : a.length = b.length) (hx : ∀ x ∈ a, x.length ≤ 9223372036854775807) : ∀ (d i : Nat), i + d = a.length → Ev (fun k => laws_eqIntSS.l0 k a b (i : Int)) (decide (a.drop i = b.drop i)) := by
  intro d
  induction d with
  | zero =>
    intro i h
    refine ev_step ?_
    simp only [laws_eqIntSS.l0]
    rw [ev_neg (by omega), ev_now, List.drop_of_length_le (by omega), List.drop_of_length_le (by omega)]
    rfl
  | succ d ih =>
    intro i h
    refine ev_step ?_
    simp only [laws_eqIntSS.l0]
    have hi : i < a.length := by omega
    have hib : i < b.length := by omega
    have e : decide (a.drop i = b.drop i) = (decide (a[i] = b[i]) && decide (a.drop (i + 1) = b.drop (i + 1))) := by
      rw [List.drop_eq_getElem_cons hi, List.drop_eq_getElem_cons hib, Bool.eq_iff_iff]
      simp only [Bool.and_eq_true, decide_eq_true_eq, List.cons.injEq]
    rw [ev_pos (by omega), ev_pos (by omega), ev_pos (by omega), rd_L2_lt a i hi, rd_L2_lt b i hib, ev_bind (laws_eqIntS.ev a[i] b[i] (hx _ (List.getElem_mem hi))), w64i (n := a.length) (by omega) (by omega) hl, e]
    by_cases c : a[i] = b[i]
    · rw [ev_pos (decide_eq_true c), decide_eq_true c, Bool.true_and]
      exact ih (i + 1) (by omega)
    · rw [ev_neg (by simp [c]), ev_now, decide_eq_false c]
      rfl
theorem laws_eqIntSS.ev (a b : List (List Int)) (hl : a.length ≤ 9223372036854775807) (hx : ∀ x ∈ a, x.length ≤ 9223372036854775807) : Ev (fun k => laws_eqIntSS.f k a b) (decide (a = b)) := by
  simp only [laws_eqIntSS.f]
  by_cases c : (a.length : Int) = (b.length : Int)
  · rw [ev_pos c]
    exact laws_eqIntSS.ev_l a b hl (by omega) hx a.length 0 (by omega)
  · rw [ev_neg c, ev_now, decide_eq_false (fun h => c (by rw [h]))]
theorem laws_szIntSS.ev_l (l : List (List Int)) (hl : l.length ≤ 9223372036854775807) (hx : ∀ x ∈ l, x.length ≤ 9223372036854775807) : ∀ (d i : Nat) (c : Int), i + d = l.length → 0 ≤ c → c ≤ 1048576 → ∃ r : Int, r ≤ 1048576 ∧ Ev (fun k => laws_szIntSS.l0 k l c (i : Int)) r ∧ (0 ≤ r → ∀ j (h : j < l.length), i ≤ j → l[j].length ≤ 1048576) := by
  intro d
  induction d with
  | zero =>
    intro i c h h0 h1
    refine ⟨c, h1, ev_step ?_, fun _ j hj hij => by omega⟩
    simp only [laws_szIntSS.l0]
    rw [ev_neg (by omega), ev_now]
  | succ d ih =>
    intro i c h h0 h1
    have hi : i < l.length := by omega
    have hxi := hx _ (List.getElem_mem hi)
    by_cases hc : c - (l[i].length : Int) < 0
    · refine ⟨-1, by omega, ev_step ?_, fun h => by omega⟩
      simp only [laws_szIntSS.l0]
      rw [ev_pos (by omega), ev_pos (by omega), rd_L2_lt l i hi, ev_bind (ev_of (laws_szIntS.v l[i] c (by omega) (by omega))), if_pos hc, ev_pos (by omega), ev_now]
    · obtain ⟨r, hr1, hr2, hr3⟩ := ih (i + 1) (c - (l[i].length : Int)) (by omega) (by omega) (by omega)
      refine ⟨r, hr1, ev_step ?_, fun h0 j hj hij => ?_⟩
      · simp only [laws_szIntSS.l0]
        rw [ev_pos (by omega), ev_pos (by omega), rd_L2_lt l i hi, ev_bind (ev_of (laws_szIntS.v l[i] c (by omega) (by omega))), if_neg hc, ev_neg hc, w64i (n := l.length) (by omega) (by omega) hl]
        exact hr2
      · by_cases e : j = i
        · subst e
          omega
        · exact hr3 h0 j hj (by omega)
/-- What szIntSS answers of rows that came in: too much, or all rows are short. -/
theorem laws_szIntSS.ev (l : List (List Int)) (c : Int) (hl : l.length ≤ 9223372036854775807) (hx : ∀ x ∈ l, x.length ≤ 9223372036854775807) (h0 : 0 ≤ c) (h1 : c ≤ 1048576) : ∃ r : Int, r ≤ 1048576 ∧ Ev (fun k => laws_szIntSS.f k l c) r ∧ (0 ≤ r → l.length ≤ 1048576 ∧ ∀ x ∈ l, x.length ≤ 1048576) := by
  simp only [laws_szIntSS.f]
  rw [w64 (by omega) (by omega)]
  by_cases hc : c - (l.length : Int) < 0
  · exact ⟨-1, by omega, by rw [ev_pos hc, ev_now], fun h => by omega⟩
  · obtain ⟨r, hr1, hr2, hr3⟩ := laws_szIntSS.ev_l l hl hx l.length 0 (c - (l.length : Int)) (by omega) (by omega) (by omega)
    refine ⟨r, hr1, by rw [ev_neg hc]; exact hr2, fun h => ⟨by omega, fun x hx' => ?_⟩⟩
    obtain ⟨j, hj, rfl⟩ := List.getElem_of_mem hx'
    exact hr3 h j hj (by omega)
theorem laws_szGame.ev (n : Int) (l : List (List Int)) (c : Int) (hl : l.length ≤ 9223372036854775807) (hx : ∀ x ∈ l, x.length ≤ 9223372036854775807) (h0 : 0 ≤ c) (h1 : c ≤ 1048576) : ∃ r : Int, r ≤ 1048576 ∧ Ev (fun k => laws_szGame.f k n l c) r ∧ (0 ≤ r → l.length ≤ 1048576 ∧ ∀ x ∈ l, x.length ≤ 1048576) := by
  obtain ⟨r, hr1, hr2, hr3⟩ := laws_szIntSS.ev l c hl hx h0 h1
  simp only [laws_szGame.f]
  by_cases hc : r < 0
  · exact ⟨-1, by omega, by rw [ev_bind hr2, ev_pos hc, ev_now], fun h => by omega⟩
  · exact ⟨r, hr1, by rw [ev_bind hr2, ev_neg hc, ev_now], hr3⟩
theorem laws_toGame.ev (n : Int) (l : List (List Int)) (hl : l.length ≤ 11728124029610) (hx : ∀ x ∈ l, x.length ≤ 35184372088832) : Ev (fun k => laws_toGame.f k n l) (n, l) := by
  simp only [laws_toGame.f]
  rw [ev_bind (laws_toIntSS.ev l hl hx), ev_now]
theorem laws_eqGame.ev_same (n : Int) (l : List (List Int)) (hl : l.length ≤ 9223372036854775807) (hx : ∀ x ∈ l, x.length ≤ 9223372036854775807) : Ev (fun k => laws_eqGame.f k n l n l) true := by
  simp only [laws_eqGame.f]
  rw [ev_pos trivial, ev_bind (laws_eqIntSS.ev l l hl hx), ev_pos (by simp), ev_now]
end Go.Proofs.Yticnoiflccbhcaa.Q

namespace Go.Proofs.Yticnoiflccbhcaa.Q
open Go.RowKit Go.Proofs.YticnoiflccbhcaaW.PrintWords Go.Proofs.YticnoiflccbhcaaW.PrintLast Go.Proofs.YticnoiflccbhcaaW.PrintMore Go.Proofs.YticnoiflccbhcaaM
set_option linter.unusedVariables false
set_option linter.unusedSimpArgs false
theorem laws_FnExactDoesFitGame.law (q : Int) (ws : List Int) (n : Int) (l : List (List Int)) (okq : OkI q) (okws : OkL ws) (okn : OkI n) (okl : OkLL l) : Ev (fun k => laws_FnExactDoesFitGame.f k q ws n l) true := by
  have hl := okl.len
  have hx : ∀ x ∈ l, x.length ≤ 9223372036854775807 := fun x hx => (okl.2 x hx).len
  have hw := okws.len
  simp only [laws_FnExactDoesFitGame.f]
  rw [ev_bind (ev_of (laws_szCommittee.v q ws 1048576 (by omega) (by omega)))]
  by_cases hz : (1048576 : Int) - (ws.length : Int) < 0
  · rw [if_pos hz, ev_pos (by omega), ev_now]
  obtain ⟨r, hr1, hr2, hr3⟩ := laws_szGame.ev n l (1048576 - (ws.length : Int)) hl hx (by omega) (by omega)
  rw [if_neg hz, ev_neg hz, ev_bind hr2]
  by_cases h2 : r < 0
  · rw [ev_pos h2, ev_now]
  obtain ⟨hl2, hx2⟩ := hr3 (by omega)
  have hx3 : ∀ x ∈ l, x.length ≤ 35184372088832 := fun x hx => by have := hx2 x hx; omega
  have ht := laws_toGame.ev n l (by omega) hx3
  have htc := laws_toCommittee.ev q ws (by omega)
  have hs := spec_DoesFitGame.ev q ws n l hw hl hx
  have hi := impl_DoesFitGame.ev q ws n l hw hl hx
  have he := laws_eqGame.ev_same n l hl hx
  have hec := laws_eqCommittee.ev_same q ws hw
  rw [ev_neg h2, ev_bind htc, ev_bind ht, ev_bind hs, ev_bind htc, ev_bind ht, ev_bind hi, ev_neg (by simp)]
  refine ev_step ?_
  simp only [laws_FnExactDoesFitGame.j0]
  rw [ev_neg (by simp), ev_bind htc, ev_bind hec, ev_pos rfl, ev_bind ht, ev_bind he, ev_pos rfl, ev_now]
end Go.Proofs.Yticnoiflccbhcaa.Q

namespace Go.Proofs.YticnoiflccbhcaaO
open Go.RowKit Go.ChangeShapes Go.WideShapes Go.ChangeAt Go.Proofs.YticnoiflccbhcaaW.PrintWords Go.Proofs.YticnoiflccbhcaaM
section
variable {H : Type} {enc : TypeId × Value → H} {P : Program} {w : World} {α : Type}
/-- One cell of type t reads as a value of kind d. -/
def Reads1 (enc : TypeId × Value → H) (P : Program) (w : World) (t : TypeId) (d : Kd α) (ok : α → Prop) : Prop :=
  ∀ fuel v x, DataW.trod enc P w 0 (fun _ => true) true fuel t [v] = some x → ∃ a, d.K w a [v] ∧ ok a
theorem reads_int {t : TypeId} {k : IntKind} (hu : P.underlying t = some (.int k)) : Reads1 enc P w t (Kd.int k) (fun n => (Lit.int k n).wf = true) := by
  intro fuel v x h
  obtain ⟨n, e, _, hw⟩ := DataW.trod_int hu h
  exact ⟨n, e, hw⟩
theorem reads_slice {t e : TypeId} {d : Kd α} {ok : α → Prop} (hu : P.underlying t = some (.slice e)) (hc : P.cellsOf e = 1) (hs : d.sz = 1) (he : Reads1 enc P w e d ok) :
    Reads1 enc P w t (Kd.slice e d) (fun l => l.length ≤ maxLen ∧ ∀ x ∈ l, ok x) := by
  intro fuel v x h
  rcases Go.Deep.open_slice1 hu hc h with ⟨hcs, _⟩ | ⟨a, len, cap, m, n, V, D, Pl, hcs, _, hl, hm, hmm, _, hx⟩
  · obtain rfl : v = .slice none 0 0 := by simpa using hcs
    refine ⟨[], ⟨none, 0, rfl, Nat.le_refl _, rfl, Nat.zero_le _, fun h => absurd h (Nat.lt_irrefl _)⟩, Nat.zero_le _, fun _ h => by cases h⟩
  · obtain rfl : v = .slice (some a) len cap := by simpa using hcs
    have hlm : len ≤ m := by rw [hmm]; simpa using hl
    have hall : ∀ i, i < len → ∃ b, d.K w b [V i] ∧ ok b := fun i hi => he n (V i) _ (hx i (by omega)).2
    have key : ∀ j, j ≤ len → ∃ l : List α, l.length = j ∧ (∀ i b, l[i]? = some b → d.K w b [V i] ∧ ok b) := by
      intro j
      induction j with
      | zero => exact fun _ => ⟨[], rfl, fun i b h => by simp at h⟩
      | succ j ih =>
        intro hj
        obtain ⟨l, hl1, hl2⟩ := ih (by omega)
        obtain ⟨b, hb⟩ := hall j (by omega)
        refine ⟨l ++ [b], by simp [hl1], fun i c h => ?_⟩
        rcases Nat.lt_or_ge i l.length with hi | hi
        · rw [List.getElem?_append_left hi] at h
          exact hl2 i c h
        · have e : i = l.length := by
            have := (List.getElem?_eq_some_iff.1 h).1
            rw [List.length_append, List.length_singleton] at this
            omega
          subst e
          obtain rfl : b = c := by simpa using h
          rw [hl1]
          exact hb
    obtain ⟨l, hl1, hl2⟩ := key len (Nat.le_refl _)
    subst hl1
    refine ⟨l, ⟨some a, cap, rfl, hl, rfl, by unfold maxLen at hm; omega, fun _ => ⟨a, rfl, fun j p hj => ⟨[V j], by rw [hs]; rfl, (hl2 j p hj).1, fun i u hi => ?_⟩⟩⟩, Nat.le_trans hl hm, fun x hxm => ?_⟩
    · match i, hi with
      | 0, hi =>
        obtain rfl : V j = u := by simpa using hi
        have hj' := (List.getElem?_eq_some_iff.1 hj).1
        rw [hs, Nat.mul_one, Nat.add_zero]
        exact (hx j (by omega)).1
      | i + 1, hi => simp at hi
    · obtain ⟨i, hi, rfl⟩ := List.mem_iff_getElem.1 hxm
      exact (hl2 i _ (List.getElem?_eq_getElem hi)).2
/-- A slice that is an argument. -/
theorem open_slice_arg {r : Reach} {b0 : Nat} {t e : TypeId} {d : Kd α} {ok' : List α → Prop} {v : Value} {dd : DataW H} {ps : List MemPlace} (hu : P.underlying t = some (.slice e)) (hr : Reads1 enc P w t (Kd.slice e d) ok') (hv : Value.okWide P w r b0 t v)
    (h : DataW.Trod enc P w 0 (fun _ => true) true t v dd ps) : ∃ (A : Option Addr) (c : Nat) (l : List α), v = .slice A l.length c ∧ l.length ≤ c ∧ d.C w A l.length l ∧ ok' l := by
  obtain ⟨a, len, cap, rfl⟩ := okWide_slice hu hv
  obtain ⟨fuel, hf⟩ := h
  obtain ⟨l, ⟨A, c, hcs, hlc, hC⟩, ho⟩ := hr fuel _ _ hf
  exact ⟨A, c, l, by simpa using hcs, hlc, hC, ho⟩
end
end Go.Proofs.YticnoiflccbhcaaO
