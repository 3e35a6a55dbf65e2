/- Printed functions, their contracts and plain facts on them: PAndNot; PSperner; PSetFacts; PMasks; POneOf; PDictatorOf; PSetOf; PVotesLeast; PIdle; PSubSets; PDumFacts; PSortFew; PVoBefore; PVoSorted; PGreatestLosing; PMF. Conditions: as each theorem states. -/
import Derived.Test.YtamfpkefnhcngaaGreatGLeastSetsWinx1
import Derived.Test.YtamfpkefnhcngaaGreatGLeastSetsWinx4
import Derived.Test.YtamfpkefnhcngaaGreatGLeastSetsWinx3
import Derived.Test.YtamfpkefnhcngaaGreatGLeastSetsWinx2
set_option maxHeartbeats 8000000
set_option maxRecDepth 100000
namespace Go.Proofs.YtamfpkefnhcngaaGreat.Q
open Go.RowKit Go.Proofs.YtamfpkefnhcngaaGreatW.PrintWords Go.Proofs.YtamfpkefnhcngaaGreatW.PrintLast Go.Proofs.YtamfpkefnhcngaaGreatW.PrintMore Go.Proofs.YtamfpkefnhcngaaGreatM
set_option linter.unusedVariables false
set_option linter.unusedSimpArgs false
theorem andNot_pow (m i : Nat) (hm : m < 2 ^ 62) (hi : i ≤ 61) (h : bitB m i = true) : Go.bits .andNot .i64 (m : Int) ((2 ^ i : Nat) : Int) = ((m - 2 ^ i : Nat) : Int) := by
  have hp : 2 ^ i ≤ 2 ^ 61 := Nat.pow_le_pow_right (by omega) hi
  have hb : m / 2 ^ i % 2 = 1 := by simpa [bitB] using h
  have hmi : m - 2 ^ i < 2 ^ 62 := Nat.lt_of_le_of_lt (Nat.sub_le _ _) hm
  have key : m &&& (2 ^ 64 - 1 - 2 ^ i) = m - 2 ^ i := by
    have hge : 2 ^ i ≤ m := by
      rcases Nat.lt_or_ge m (2 ^ i) with h1 | h1
      · rw [Nat.div_eq_of_lt h1] at hb; omega
      · exact h1
    have h0 : (m - 2 ^ i) / 2 ^ i % 2 = 0 := by
      have e : m = (m - 2 ^ i) + 2 ^ i := by omega
      have e2 : m / 2 ^ i = (m - 2 ^ i) / 2 ^ i + 1 := by
        conv => lhs; rw [e]
        exact Nat.add_div_right _ (Nat.two_pow_pos i)
      omega
    have hor := or_pow i (m - 2 ^ i) h0
    rw [Nat.sub_add_cancel hge] at hor
    apply Nat.eq_of_testBit_eq
    intro j
    rw [Nat.testBit_and, show 2 ^ 64 - 1 - 2 ^ i = 2 ^ 64 - (2 ^ i + 1) by omega, Nat.testBit_two_pow_sub_succ (by omega : 2 ^ i < 2 ^ 64)]
    have hmj : m.testBit j = ((m - 2 ^ i).testBit j || (2 ^ i).testBit j) := by rw [← Nat.testBit_or, hor]
    by_cases e : j = i
    · subst e
      have : (m - 2 ^ j).testBit j = false := by
        rw [Nat.testBit_eq_decide_div_mod_eq, h0]
        rfl
      rw [this, Nat.testBit_two_pow_self]
      simp
    · have h2 : (2 ^ i).testBit j = false := Nat.testBit_two_pow_of_ne (fun h => e h.symm)
      rw [hmj, h2]
      by_cases hj : j < 64
      · simp [hj]
      · have : (m - 2 ^ i).testBit j = false := Nat.testBit_lt_two_pow (Nat.lt_of_lt_of_le hmi (Nat.pow_le_pow_right (by omega) (by omega)))
        rw [this]
        simp
  have hbv : ((BitVec.ofInt 64 (m : Int)) &&& ~~~(BitVec.ofInt 64 ((2 ^ i : Nat) : Int))).toNat = m - 2 ^ i := by
    rw [BitVec.toNat_and, BitVec.toNat_not, BitVec.ofInt_natCast, BitVec.ofInt_natCast, BitVec.toNat_ofNat, BitVec.toNat_ofNat, Nat.mod_eq_of_lt (by omega : m < 2 ^ 64), Nat.mod_eq_of_lt (by omega : 2 ^ i < 2 ^ 64)]
    exact key
  show IntKind.i64.wrap (((BitVec.ofInt 64 (m : Int)) &&& ~~~(BitVec.ofInt 64 ((2 ^ i : Nat) : Int))).toNat : Int) = _
  rw [hbv]
  exact (fun (x : Nat) (hx : x < 2 ^ 62) => i64_wrap (x := (x : Int)) (by omega) (by omega)) (m - 2 ^ i) hmi
def incB : List Int → Bool
  | a :: b :: l => decide (a < b) && incB (b :: l)
  | _ => true
theorem incB_short {l : List Int} (h : l.length ≤ 1) : incB l = true := by
  cases l with
  | nil => rfl
  | cons a l =>
    cases l with
    | nil => rfl
    | cons b l => simp at h
theorem incB_at (l : List Int) (i : Nat) (h0 : 0 < i) (h : i < l.length) : incB (l.drop (i - 1)) = (decide (l[i - 1] < l[i]) && incB (l.drop i)) := by
  rw [List.drop_eq_getElem_cons (show i - 1 < l.length by omega), show i - 1 + 1 = i by omega, List.drop_eq_getElem_cons h]
  rfl
theorem incB_tail {a : Int} {l : List Int} (h : incB (a :: l) = true) : incB l = true := by
  cases l with
  | nil => rfl
  | cons b l =>
    simp only [incB, Bool.and_eq_true] at h
    exact h.2
def setB (n : Int) (l : List Int) : Bool := (l.all fun x => decide (0 ≤ x) && decide (x ≤ n - 1)) && incB l
theorem setB_in {n : Int} {l : List Int} (h : setB n l = true) : ∀ x ∈ l, 0 ≤ x ∧ x < n := by
  intro x hx
  simp only [setB, Bool.and_eq_true, List.all_eq_true] at h
  have := h.1 x hx
  simp at this
  omega
def orBits (m : Nat) (l : List Int) : Nat := l.foldl (fun m x => m ||| 2 ^ x.toNat) m
def maskN (l : List Int) : Nat := orBits 0 l
theorem orBits_lt (n : Nat) : ∀ (l : List Int) (m : Nat), m < 2 ^ n → (∀ x ∈ l, 0 ≤ x ∧ x < (n : Int)) → orBits m l < 2 ^ n
  | [], m, h, _ => h
  | a :: l, m, h, hb => by
    have h1 := hb a List.mem_cons_self
    refine orBits_lt n l (m ||| 2 ^ a.toNat) (Nat.or_lt_two_pow h (Nat.pow_lt_pow_right (by omega) (by omega))) (fun x hx => hb x (List.mem_cons_of_mem _ hx))
theorem maskN_lt (n : Nat) (l : List Int) (hb : ∀ x ∈ l, 0 ≤ x ∧ x < (n : Int)) : maskN l < 2 ^ n := orBits_lt n l 0 (Nat.two_pow_pos n) hb
theorem setB_mask {n : Nat} {l : List Int} (h : setB (n : Int) l = true) : maskN l < 2 ^ n := maskN_lt n l (setB_in h)
def mAt (l : List (List Int)) (i : Nat) : Nat := maskN (l.getD i [])
def gOrd (l : List (List Int)) (i : Nat) : Bool := decide (i = 0) || decide (cmpL (l.getD (i - 1) []) (l.getD i []) < 0)
def gInS (l : List (List Int)) (i j : Nat) : Bool := !(decide (mAt l i &&& mAt l j = mAt l i)) && !(decide (mAt l i &&& mAt l j = mAt l j))
def gS (l : List (List Int)) (i : Nat) : Bool := gOrd l i && (List.range' 0 i).all (gInS l i)
structure GoodG (n : Int) (l : List (List Int)) : Prop where
  n1 : 1 ≤ n
  n9 : n ≤ 9
  ne : l.length ≠ 0
  sets : ∀ x ∈ l, x.length ≠ 0 ∧ setB n x = true
  gs : ∀ i, i < l.length → gS l i = true
theorem bitB_test (m i : Nat) : bitB m i = m.testBit i := by rw [bitB, Nat.testBit_eq_decide_div_mod_eq]
theorem orBits_test : ∀ (x : List Int) (m i : Nat), (∀ y ∈ x, 0 ≤ y) → (orBits m x).testBit i = (m.testBit i || x.contains (i : Int))
  | [], m, i, _ => by simp [orBits]
  | y :: x, m, i, h => by
    have hy := h y List.mem_cons_self
    have ih := orBits_test x (m ||| 2 ^ y.toNat) i (fun z hz => h z (List.mem_cons_of_mem _ hz))
    show (orBits (m ||| 2 ^ y.toNat) x).testBit i = _
    rw [ih, Nat.testBit_or, Nat.testBit_two_pow, List.contains_cons, Bool.or_assoc]
    congr 2
    by_cases e : y.toNat = i
    · rw [decide_eq_true e, beq_iff_eq.2 (show (i : Int) = y by omega)]
    · rw [decide_eq_false e, beq_eq_false_iff_ne.2 (show (i : Int) ≠ y by omega)]
theorem maskN_test (x : List Int) (i : Nat) (h : ∀ y ∈ x, 0 ≤ y) : (maskN x).testBit i = x.contains (i : Int) := by
  rw [maskN, orBits_test x 0 i h]
  simp
theorem sub_pow_test (m i j : Nat) (h : m.testBit i = true) : (m - 2 ^ i).testBit j = (m.testBit j && !(decide (j = i))) := by
  have hb : m / 2 ^ i % 2 = 1 := by rw [Nat.testBit_eq_decide_div_mod_eq] at h; simpa using h
  have hge : 2 ^ i ≤ m := by
    rcases Nat.lt_or_ge m (2 ^ i) with h1 | h1
    · rw [Nat.div_eq_of_lt h1] at hb; omega
    · exact h1
  have h0 : (m - 2 ^ i) / 2 ^ i % 2 = 0 := by
    have e : m = (m - 2 ^ i) + 2 ^ i := by omega
    have e2 : m / 2 ^ i = (m - 2 ^ i) / 2 ^ i + 1 := by
      conv => lhs; rw [e]
      exact Nat.add_div_right _ (Nat.two_pow_pos i)
    omega
  have hor := or_pow i (m - 2 ^ i) h0
  rw [Nat.sub_add_cancel hge] at hor
  have hmj : m.testBit j = ((m - 2 ^ i).testBit j || (2 ^ i).testBit j) := by rw [← Nat.testBit_or, hor]
  by_cases e : j = i
  · subst e
    rw [decide_eq_true rfl, Bool.not_true, Bool.and_false, Nat.testBit_eq_decide_div_mod_eq, h0]
    rfl
  · rw [hmj, Nat.testBit_two_pow_of_ne (fun h => e h.symm), decide_eq_false e]
    simp
theorem setN_contains (m i : Nat) (hi : i < 62) : (setN m).contains (i : Int) = m.testBit i := by
  rw [← bitB_test, Bool.eq_iff_iff, List.contains_iff_mem, setN, List.mem_map]
  constructor
  · rintro ⟨j, hj, e⟩
    rw [List.mem_filter] at hj
    rw [← show j = i by omega]
    exact hj.2
  · intro h
    exact ⟨i, List.mem_filter.2 ⟨List.mem_range.2 hi, h⟩, rfl⟩
theorem impl_setOf.ev_l (m : Nat) (hm : m < 2 ^ 62) : ∀ (d i : Nat), i + d = 62 → Ev (fun k => impl_setOf.l0 k (m : Int) (setTo m i) (i : Int)) (setN m) := by
  intro d
  induction d with
  | zero =>
    intro i h
    refine ev_step ?_
    simp only [impl_setOf.l0]
    have e : m / 2 ^ i = 0 := by rw [show i = 62 by omega]; exact Nat.div_eq_of_lt hm
    rw [ev_pos (by omega), shr_nat m i (by omega), e, ev_neg (by omega), ev_now, setTo_done e (by omega)]
  | succ d ih =>
    intro i h
    refine ev_step ?_
    simp only [impl_setOf.l0]
    have hlt : m / 2 ^ i < 2 ^ 62 := Nat.lt_of_le_of_lt (Nat.div_le_self _ _) hm
    have hl := setTo_len m i
    rw [ev_pos (by omega), shr_nat m i (by omega), w64 (by omega) (by omega)]
    by_cases e : m / 2 ^ i = 0
    · rw [ev_neg (by omega), ev_now, setTo_done e (by omega)]
    · rw [ev_pos (Int.natCast_pos.2 (Nat.pos_of_ne_zero e)), and_one _ hlt]
      have := ih (i + 1) (by omega)
      rw [setTo_succ] at this
      by_cases hb : m / 2 ^ i % 2 = 1
      · rw [if_pos (by simp [bitB, hb])] at this
        rw [ev_pos (by rw [hb]; rfl), ev_pos (by omega)]
        exact this
      · rw [if_neg (by simp [bitB]; omega)] at this
        rw [ev_neg (c := ((m / 2 ^ i % 2 : Nat) : Int) = 1) (fun h_ => hb (Int.ofNat_inj.1 h_))]
        exact this
theorem impl_setOf.ev (m : Nat) (hm : m < 2 ^ 62) : Ev (fun k => impl_setOf.f k (m : Int)) (setN m) := impl_setOf.ev_l m hm 62 0 (by omega)
theorem impl_votes_isLeast.ev_l (W : List Bool) (n m : Nat) (hW : W.length = 2 ^ n) (hn : n ≤ 18) (hm : m < 2 ^ n) : ∀ (d i : Nat), i + d = n → Ev (fun k => impl_votes_isLeast.l0 k (m : Int) (n : Int) (i : Int) (n : Int) W) ((List.range' i d).all fun i => !(bitB m i) || !(W.getD (m - 2 ^ i) false)) := by
  have hp : 2 ^ n ≤ 2 ^ 18 := Nat.pow_le_pow_right (by omega) hn
  intro d
  induction d with
  | zero =>
    intro i h
    refine ev_step ?_
    simp only [impl_votes_isLeast.l0]
    rw [ev_neg (by omega), ev_now]
    rfl
  | succ d ih =>
    intro i h
    refine ev_step ?_
    simp only [impl_votes_isLeast.l0]
    have hih := ih (i + 1) (by omega)
    rw [ev_pos (by omega), ev_bind (ev_of (show impl_has.f (m : Int) (i : Int) = some (bitB m i) from impl_has.v m i (by omega) (by omega))), w64 (by omega) (by omega), List.range'_succ, List.all_cons]
    by_cases hb : bitB m i = true
    · have hpi : 2 ^ i ≤ 2 ^ n := Nat.pow_le_pow_right (by omega) (by omega)
      have hsub : m - 2 ^ i < W.length := by rw [hW]; exact Nat.lt_of_le_of_lt (Nat.sub_le _ _) hm
      rw [ev_pos hb, ev_pos (by omega), shl_one i (by omega), andNot_pow m i (by omega) (by omega) hb, ev_pos (Int.natCast_nonneg _), ev_pos (Int.ofNat_lt.2 hsub), rdOf_nat, hb]
      cases hw : W.getD (m - 2 ^ i) false with
      | true =>
        rw [ev_pos rfl, ev_now]
        rfl
      | false =>
        rw [ev_neg (by decide)]
        exact hih
    · rw [ev_neg hb, Bool.eq_false_iff.2 hb]
      exact hih
theorem impl_votes_isLeast.ev (W : List Bool) (n m : Nat) (hW : W.length = 2 ^ n) (hn : n ≤ 18) (hm : m < 2 ^ n) : Ev (fun k => impl_votes_isLeast.f k (n : Int) W (m : Int)) (leastB W n m) := by
  simp only [impl_votes_isLeast.f]
  rw [ev_pos (by omega), ev_pos (by omega), rdOf_nat, leastB]
  cases hw : W.getD m false with
  | true =>
    rw [ev_pos rfl, Bool.true_and, List.range_eq_range']
    exact impl_votes_isLeast.ev_l W n m hW hn hm n 0 (by omega)
  | false =>
    rw [ev_neg (by decide), ev_now]
    rfl
theorem impl_votes_sets.at_l (W : List Bool) (hW : W.length ≤ 1000000) (P : Int → Option Bool) (p : Nat → Bool) (K : Nat) (hP : ∀ m, m < W.length → P (m : Int) = some (p m)) (hS : ∀ k, K ≤ k → ∀ m, m < W.length → impl_setOf.f k (m : Int) = some (setN m)) : ∀ (d i k : Nat), i + d = W.length → K + d < k → impl_votes_sets.l0 k P W (takeL p i) (i : Int) = some (takeL p W.length) := by
  intro d
  induction d with
  | zero =>
    intro i k h hk
    obtain ⟨k, rfl⟩ : ∃ j, k = j + 1 := ⟨k - 1, by omega⟩
    simp only [impl_votes_sets.l0]
    rw [if_neg (by omega), show i = W.length by omega]
  | succ d ih =>
    intro i k h hk
    obtain ⟨k, rfl⟩ : ∃ j, k = j + 1 := ⟨k - 1, by omega⟩
    have hi : i < W.length := by omega
    have hl := takeL_len p i
    have hih := ih (i + 1) k (by omega) (by omega)
    rw [takeL_succ] at hih
    simp only [impl_votes_sets.l0]
    rw [if_pos (by omega), hP i hi, Option.bind_some, w64 (by omega) (by omega), hS k (by omega) i hi, Option.bind_some]
    cases hp : p i with
    | true =>
      rw [hp, if_pos rfl] at hih
      rw [if_pos rfl, if_pos (by omega)]
      exact hih
    | false =>
      rw [hp, if_neg (by decide)] at hih
      rw [if_neg (by decide)]
      exact hih
theorem impl_votes_sets.ev (W : List Bool) (hW : W.length ≤ 1000000) (P : Nat → Int → Option Bool) (p : Nat → Bool) (hP : ∀ m, m < W.length → Ev (fun k => P k (m : Int)) (p m)) : Ev (fun k => impl_votes_sets.g k W (P k)) (Go.Proofs.YtamfpkefnhcngaaGreatS.sortL (takeL p W.length)) := by
  obtain ⟨K1, h1⟩ := ev_all W.length (fun k m => P k (m : Int)) p hP
  obtain ⟨K2, h2⟩ := ev_all W.length (fun k m => impl_setOf.f k (m : Int)) setN (fun m hm => impl_setOf.ev m (by omega))
  refine ⟨max K1 (K2 + W.length + 1), fun k hk => ?_⟩
  have hl := takeL_len p W.length
  simp only [impl_votes_sets.g]
  rw [show impl_votes_sets.l0 k (P k) W [] 0 = some (takeL p W.length) from impl_votes_sets.at_l W hW (P k) p K2 (fun m hm => h1 k (by omega) m hm) h2 W.length 0 k (by omega) (by omega), Option.bind_some, if_pos (by omega)]
theorem impl_votes_least.ev (W : List Bool) (n : Nat) (hW : W.length = 2 ^ n) (hn : n ≤ 18) : Ev (fun k => impl_votes_least.f k (n : Int) W) (Go.Proofs.YtamfpkefnhcngaaGreatS.sortL (takeL (leastB W n) W.length)) := by
  have hp : 2 ^ n ≤ 2 ^ 18 := Nat.pow_le_pow_right (by omega) hn
  exact impl_votes_sets.ev W (by omega) (fun k x => impl_votes_isLeast.f k (n : Int) W x) (leastB W n) (fun m hm => impl_votes_isLeast.ev W n m hW hn (by omega))
theorem sortL_in {P : Nat → Bool} {n N : Nat} (hN : N ≤ 2 ^ n) (hn : n ≤ 62) : ∀ x ∈ Go.Proofs.YtamfpkefnhcngaaGreatS.sortL (takeL P N), x.length ≤ n ∧ ∀ y ∈ x, 0 ≤ y ∧ y < (n : Int) := by
  intro x hx
  obtain ⟨a, ha, _, rfl⟩ := takeL_mem x ((Go.Proofs.YtamfpkefnhcngaaGreatS.sortL_perm _).mem_iff.1 hx)
  rw [setN_to (m := a) (n := n) (by omega) hn]
  exact ⟨setTo_len a n, fun y hy => by have := setTo_in y hy; omega⟩
theorem sortL_len (xs : List (List Int)) : (Go.Proofs.YtamfpkefnhcngaaGreatS.sortL xs).length = xs.length := (Go.Proofs.YtamfpkefnhcngaaGreatS.sortL_perm xs).length_eq
def takeI (P : Nat → Bool) (i : Nat) : List Int := ((List.range i).filter P).map fun (i : Nat) => (i : Int)
theorem takeI_succ (P : Nat → Bool) (i : Nat) : takeI P (i + 1) = if P i = true then takeI P i ++ [(i : Int)] else takeI P i := by
  unfold takeI
  rw [List.range_succ, List.filter_append, List.map_append]
  by_cases h : P i = true
  · rw [if_pos h]
    simp [h]
  · rw [if_neg h]
    simp [h]
theorem takeI_len (P : Nat → Bool) (i : Nat) : (takeI P i).length ≤ i := by
  unfold takeI
  rw [List.length_map]
  have := List.length_filter_le P (List.range i)
  rw [List.length_range] at this
  exact this
theorem leastB_of {W : List Bool} {n m : Nat} (h1 : W.getD m false = true) (h2 : ∀ i, i < n → m.testBit i = true → W.getD (m - 2 ^ i) false = false) : leastB W n m = true := by
  simp only [leastB, Bool.and_eq_true, List.all_eq_true, List.mem_range]
  refine ⟨h1, fun i hi => ?_⟩
  rw [bitB_test]
  cases hb : m.testBit i with
  | false => rfl
  | true => rw [h2 i hi hb]; rfl
theorem pow_le_of_bit {m i : Nat} (h : m.testBit i = true) : 2 ^ i ≤ m := by
  rcases Nat.lt_or_ge m (2 ^ i) with h2 | h2
  · rw [Nat.testBit_lt_two_pow h2] at h; cases h
  · exact h2
theorem least_sub (W : List Bool) (n : Nat) : ∀ m, m < 2 ^ n → W.getD m false = true → ∃ m', m' < 2 ^ n ∧ leastB W n m' = true ∧ ∀ i, m'.testBit i = true → m.testBit i = true := by
  intro m
  induction m using Nat.strongRecOn with
  | ind m ih =>
    intro hm hw
    by_cases h : ∀ i, i < n → m.testBit i = true → W.getD (m - 2 ^ i) false = false
    · exact ⟨m, hm, leastB_of hw h, fun _ h => h⟩
    · have h := Classical.not_forall.1 h
      obtain ⟨i, h⟩ := h
      simp only [Classical.not_imp, Bool.not_eq_false] at h
      obtain ⟨hi, hb, hv⟩ := h
      have hp := pow_le_of_bit hb
      have h0 := Nat.two_pow_pos i
      obtain ⟨m', a, b, c⟩ := ih (m - 2 ^ i) (by omega) (by omega) hv
      refine ⟨m', a, b, fun j hj => ?_⟩
      have := c j hj
      rw [sub_pow_test m i j hb] at this
      simp only [Bool.and_eq_true] at this
      exact this.1
theorem takeI_mem {P : Nat → Bool} {n : Nat} {x : Int} : x ∈ takeI P n ↔ ∃ i : Nat, i < n ∧ P i = true ∧ x = (i : Int) := by
  simp only [takeI, List.mem_map, List.mem_filter, List.mem_range]
  constructor
  · rintro ⟨i, ⟨h1, h2⟩, rfl⟩; exact ⟨i, h1, h2, rfl⟩
  · rintro ⟨i, h1, h2, rfl⟩; exact ⟨i, ⟨h1, h2⟩, rfl⟩
theorem takeI_has (P : Nat → Bool) (n i : Nat) (hi : i < n) : (takeI P n).contains (i : Int) = P i := by
  rw [Bool.eq_iff_iff, List.contains_iff_mem, takeI_mem]
  constructor
  · rintro ⟨j, _, h2, h3⟩
    have : i = j := by omega
    rw [this]; exact h2
  · intro h; exact ⟨i, hi, h, rfl⟩
theorem incB_snoc (l : List Int) (a : Int) (h : incB l = true) (hb : ∀ x ∈ l, x < a) : incB (l ++ [a]) = true := by
  induction l with
  | nil => rfl
  | cons b l ih =>
    have h1 := ih (incB_tail h) (fun x hx => hb x (List.mem_cons_of_mem _ hx))
    cases l with
    | nil => simp [incB]; exact hb b List.mem_cons_self
    | cons c l =>
      simp only [incB, Bool.and_eq_true] at h
      simp only [List.cons_append, incB, Bool.and_eq_true]
      exact ⟨h.1, h1⟩
theorem takeI_inc (P : Nat → Bool) : ∀ n, incB (takeI P n) = true := by
  intro n
  induction n with
  | zero => rfl
  | succ n ih =>
    rw [takeI_succ]
    split
    · refine incB_snoc _ _ ih (fun x hx => ?_)
      obtain ⟨i, h1, _, rfl⟩ := takeI_mem.1 hx
      omega
    · exact ih
theorem takeI_set (P : Nat → Bool) (n : Nat) : setB (n : Int) (takeI P n) = true := by
  simp only [setB, Bool.and_eq_true, List.all_eq_true, decide_eq_true_eq]
  refine ⟨fun x hx => ?_, takeI_inc P n⟩
  obtain ⟨i, h1, _, rfl⟩ := takeI_mem.1 hx
  omega
theorem maskN_takeI (P : Nat → Bool) (n i : Nat) : (maskN (takeI P n)).testBit i = (decide (i < n) && P i) := by
  rw [maskN_test _ _ (fun y hy => by obtain ⟨j, _, _, rfl⟩ := takeI_mem.1 hy; omega)]
  by_cases h : i < n
  · rw [takeI_has P n i h, decide_eq_true h, Bool.true_and]
  · rw [decide_eq_false h, Bool.false_and]
    cases hc : (takeI P n).contains (i : Int) with
    | false => rfl
    | true =>
      obtain ⟨j, h1, _, h3⟩ := takeI_mem.1 (List.contains_iff_mem.1 hc)
      omega
theorem compl_test (n m i : Nat) (hm : m < 2 ^ n) : (2 ^ n - 1 - m).testBit i = (decide (i < n) && !(m.testBit i)) := by
  rw [show 2 ^ n - 1 - m = 2 ^ n - (m + 1) by omega, Nat.testBit_two_pow_sub_succ hm]
theorem maskN_oth (s : List Int) (n : Nat) (hs : setB (n : Int) s = true) : maskN (takeI (fun i => !(s.contains (i : Int))) n) = 2 ^ n - 1 - maskN s := by
  apply Nat.eq_of_testBit_eq
  intro i
  rw [maskN_takeI, compl_test n _ i (setB_mask hs), maskN_test s i (fun y hy => (setB_in hs y hy).1)]
theorem wins_none {q : Int} {ws : List Int} (hc : GoodC q ws) : (winsL q ws).getD 0 false = false := by
  rw [winsL_getD q ws 0 (Nat.two_pow_pos _), wsum_zero, decide_eq_false_iff_not]
  have := hc.q1
  omega
theorem wins_full {q : Int} {ws : List Int} (hc : GoodC q ws) : (winsL q ws).getD (2 ^ ws.length - 1) false = true := by
  have := hc.pow
  rw [winsL_getD q ws _ (by omega), wsum_full, decide_eq_true_eq]
  exact hc.qs
theorem sortL_few {P : Nat → Bool} {q : Int} {ws : List Int} (h : GoodC q ws) {N : Nat} (hN : N = 2 ^ ws.length) : (Go.Proofs.YtamfpkefnhcngaaGreatS.sortL (takeL P N)).length ≤ 512 ∧ ∀ s ∈ Go.Proofs.YtamfpkefnhcngaaGreatS.sortL (takeL P N), s.length ≤ 9 := by
  have hp := h.pow
  have h9 := h.l9
  have hlen := takeL_len P N
  exact ⟨by rw [sortL_len]; omega, fun s hs => by have := (sortL_in (n := ws.length) (by omega) (by omega) s hs).1; omega⟩
theorem spec_voBefore.ev_l (a b : List Int) (ha : a.length ≤ 9223372036854775807) : ∀ (d i : Nat), i + d = a.length → i ≤ b.length → Ev (fun k => spec_voBefore.l0 k a b (i : Int)) (decide (cmpL (a.drop i) (b.drop i) < 0)) := by
  intro d
  induction d with
  | zero =>
    intro i h hb
    refine ev_step ?_
    simp only [spec_voBefore.l0]
    rw [ev_neg (by omega)]
    refine ev_step ?_
    simp only [spec_voBefore.j1]
    rw [ev_neg (by simp), ev_now, List.drop_of_length_le (by omega)]
    by_cases hc : (a.length : Int) < (b.length : Int)
    · rw [decide_eq_true hc, List.drop_eq_getElem_cons (by omega)]
      rfl
    · rw [decide_eq_false hc, List.drop_of_length_le (by omega)]
      rfl
  | succ d ih =>
    intro i h hb
    refine ev_step ?_
    simp only [spec_voBefore.l0]
    have hi : i < a.length := by omega
    rw [ev_pos (by omega)]
    refine ev_step ?_
    simp only [spec_voBefore.j1]
    by_cases hc : (i : Int) < (b.length : Int)
    · have hib : i < b.length := by omega
      rw [ev_pos (decide_eq_true hc), ev_pos (by omega), ev_pos (by omega), ev_pos (by omega), rd_lt a i hi, rd_lt b i hib, w64i (n := a.length) (by omega) (by omega) ha, List.drop_eq_getElem_cons hi, List.drop_eq_getElem_cons hib]
      by_cases h1 : a[i] = b[i]
      · have e : cmpL (a[i] :: a.drop (i + 1)) (b[i] :: b.drop (i + 1)) = cmpL (a.drop (i + 1)) (b.drop (i + 1)) := by simp only [cmpL]; rw [if_neg (by omega), if_neg (by omega)]
        rw [ev_pos h1, e]
        exact ih (i + 1) (by omega) (by omega)
      · rw [ev_neg h1, ev_now]
        by_cases h2 : a[i] < b[i]
        · have e : cmpL (a[i] :: a.drop (i + 1)) (b[i] :: b.drop (i + 1)) = -1 := by simp only [cmpL]; rw [if_pos h2]
          rw [e, decide_eq_true h2]; rfl
        · have e : cmpL (a[i] :: a.drop (i + 1)) (b[i] :: b.drop (i + 1)) = 1 := by simp only [cmpL]; rw [if_neg h2, if_pos (by omega)]
          rw [e, decide_eq_false h2]; rfl
    · rw [ev_neg (by simp; omega), ev_now, List.drop_eq_getElem_cons hi, List.drop_of_length_le (by omega : b.length ≤ i), decide_eq_false (by omega)]
      rfl
theorem spec_voBefore.ev (a b : List Int) (ha : a.length ≤ 9223372036854775807) : Ev (fun k => spec_voBefore.f k a b) (decide (cmpL a b < 0)) := spec_voBefore.ev_l a b ha a.length 0 (by omega) (by omega)
def upL (xs : List (List Int)) : Prop := xs.Pairwise fun a b => cmpL a b ≤ 0
theorem upL_sorted {xs ys : List (List Int)} (hp : ys.Perm xs) (h : upL ys) : ys = Go.Proofs.YtamfpkefnhcngaaGreatS.sortL xs := by
  refine Go.Proofs.YtamfpkefnhcngaaGreatS.sortL_of hp (List.Pairwise.imp (fun {a b} hab => ?_) h)
  have := cmpL_swap a b
  show decide (cmpL b a < 0) = false
  exact decide_eq_false (by omega)
theorem upL_insert {xs : List (List Int)} {s : List Int} {y : Nat} (h : upL xs) (h1 : ∀ j (hj : j < xs.length), j < y → cmpL xs[j] s < 0) (h2 : ∀ hy : y < xs.length, ¬ (cmpL xs[y] s < 0)) : upL (xs.take y ++ s :: xs.drop y) := by
  have hp := h
  rw [← List.take_append_drop y xs, upL, List.pairwise_append] at hp
  rw [upL, List.pairwise_append, List.pairwise_cons]
  have hd : ∀ b ∈ xs.drop y, cmpL s b ≤ 0 := by
    intro b hb
    obtain ⟨j, hj, rfl⟩ := List.getElem_of_mem hb
    rw [List.length_drop] at hj
    have hy : y < xs.length := by omega
    rw [List.getElem_drop]
    have h3 := h2 hy
    have h4 := cmpL_swap s xs[y]
    have h5 : cmpL xs[y] xs[y + j] ≤ 0 := by
      rcases Nat.eq_zero_or_pos j with e | e
      · subst e
        simp only [Nat.add_zero]
        rw [cmpL_self]
        omega
      · rw [upL, List.pairwise_iff_getElem] at h
        exact h y (y + j) hy (by omega) (by omega)
    exact cmpL_le_trans s xs[y] xs[y + j] (by omega) h5
  refine ⟨hp.1, ⟨hd, hp.2.1⟩, fun a ha b hb => ?_⟩
  obtain ⟨j, hj, rfl⟩ := List.getElem_of_mem ha
  rw [List.length_take] at hj
  rw [List.getElem_take]
  have h3 := h1 j (by omega) (by omega)
  rcases List.mem_cons.1 hb with rfl | hb
  · omega
  · exact cmpL_le_trans _ s b (by omega) (hd b hb)
theorem spec_voSorted.ev_l1 (l : List (List Int)) (hl : l.length < 1000000) (hx : ∀ x ∈ l, x.length ≤ 9223372036854775807) (i : Nat) (hi : i < l.length) (out : List (List Int)) (ho : out.length = i) (hup : upL out) (hpm : out.Perm (l.take i)) (hnext : ∀ out' : List (List Int), out'.length = i + 1 → upL out' → out'.Perm (l.take (i + 1)) → Ev (fun k => spec_voSorted.l0 k out' l ((i : Int) + 1)) (Go.Proofs.YtamfpkefnhcngaaGreatS.sortL l)) : ∀ (d y : Nat), y + d = out.length → (∀ j (hj : j < out.length), j < y → cmpL out[j] l[i] < 0) → Ev (fun k => spec_voSorted.l1 k out l (i : Int) l[i] (y : Int)) (Go.Proofs.YtamfpkefnhcngaaGreatS.sortL l) := by
  have hgo : ∀ y : Nat, y ≤ out.length → (∀ j (hj : j < out.length), j < y → cmpL out[j] l[i] < 0) → (∀ hy : y < out.length, ¬ (cmpL out[y] l[i] < 0)) → Ev (fun k => if out.length < 5000000000000 then spec_voSorted.l0 k (out.take ((y : Int)).toNat ++ l[i] :: out.drop ((y : Int)).toNat) l (wrap64 ((i : Int) + 1)) else none) (Go.Proofs.YtamfpkefnhcngaaGreatS.sortL l) := by
    intro y hy h1 h2
    rw [ev_pos (by omega), Int.toNat_natCast, w64 (by omega) (by omega)]
    refine hnext _ ?_ (upL_insert hup h1 h2) ?_
    · rw [List.length_append, List.length_cons, List.length_take, List.length_drop]
      omega
    · refine List.perm_middle.trans ?_
      rw [List.take_append_drop, List.take_succ_eq_append_getElem hi]
      exact (List.Perm.cons _ hpm).trans (List.perm_append_singleton _ _).symm
  intro d
  induction d with
  | zero =>
    intro y hy h1
    refine ev_step ?_
    simp only [spec_voSorted.l1]
    rw [ev_neg (by omega)]
    exact hgo y (by omega) h1 (fun h => by omega)
  | succ d ih =>
    intro y hy h1
    refine ev_step ?_
    simp only [spec_voSorted.l1]
    have hyl : y < out.length := by omega
    have hmem : out[y] ∈ l := List.mem_of_mem_take (hpm.mem_iff.1 (List.getElem_mem hyl))
    rw [ev_pos (by omega), rdOf_lt [] out y hyl, ev_bind (spec_voBefore.ev out[y] l[i] (hx _ hmem))]
    by_cases c : cmpL out[y] l[i] < 0
    · rw [ev_pos (decide_eq_true c), w64 (by omega) (by omega)]
      refine ih (y + 1) (by omega) (fun j hj hjy => ?_)
      rcases Nat.lt_or_ge j y with e | e
      · exact h1 j hj e
      · have : j = y := by omega
        subst this
        exact c
    · rw [ev_neg (by simp [c])]
      exact hgo y (by omega) h1 (fun _ => c)
theorem spec_voSorted.ev_l0 (l : List (List Int)) (hl : l.length < 1000000) (hx : ∀ x ∈ l, x.length ≤ 9223372036854775807) : ∀ (d i : Nat) (out : List (List Int)), i + d = l.length → out.length = i → upL out → out.Perm (l.take i) → Ev (fun k => spec_voSorted.l0 k out l (i : Int)) (Go.Proofs.YtamfpkefnhcngaaGreatS.sortL l) := by
  intro d
  induction d with
  | zero =>
    intro i out h ho hup hpm
    refine ev_step ?_
    simp only [spec_voSorted.l0]
    rw [List.take_of_length_le (by omega)] at hpm
    rw [ev_neg (by omega), ev_now]
    exact upL_sorted hpm hup
  | succ d ih =>
    intro i out h ho hup hpm
    refine ev_step ?_
    simp only [spec_voSorted.l0]
    have hi : i < l.length := by omega
    rw [ev_pos (by omega), ev_pos (by omega), rdOf_lt [] l i hi]
    exact spec_voSorted.ev_l1 l hl hx i hi out ho hup hpm (fun out' h1 h2 h3 => ih (i + 1) out' (by omega) h1 h2 h3) out.length 0 (by omega) (fun j _ hj => by omega)
theorem spec_voSorted.ev (l : List (List Int)) (hl : l.length < 1000000) (hx : ∀ x ∈ l, x.length ≤ 9223372036854775807) : Ev (fun k => spec_voSorted.f k l) (Go.Proofs.YtamfpkefnhcngaaGreatS.sortL l) := spec_voSorted.ev_l0 l hl hx l.length 0 [] (by omega) rfl List.Pairwise.nil (by simp)
def greatB (W : List Bool) (n m : Nat) : Bool := !(W.getD m false) && (List.range n).all fun i => bitB m i || W.getD (m + 2 ^ i) false
theorem bitB_or {m i : Nat} (h : ¬ bitB m i = true) (hm : m < 2 ^ 62) (hi : i ≤ 61) : Go.bits .or .i64 (m : Int) ((2 ^ i : Nat) : Int) = ((m + 2 ^ i : Nat) : Int) := by
  have hp : 2 ^ i ≤ 2 ^ 61 := Nat.pow_le_pow_right (by omega) hi
  have hb : m / 2 ^ i % 2 = 0 := by
    simp [bitB] at h
    omega
  rw [or_nat m (2 ^ i) hm (by omega), or_pow i m hb]
theorem bitB_lt {m n i : Nat} (h : ¬ bitB m i = true) (hm : m < 2 ^ n) (hi : i < n) : m + 2 ^ i < 2 ^ n := by
  have hb : m / 2 ^ i % 2 = 0 := by
    simp [bitB] at h
    omega
  have := or_pow i m hb
  rw [← this]
  exact Nat.or_lt_two_pow hm (Nat.pow_lt_pow_right (by omega) hi)
theorem impl_votes_isGreatest.ev_l (W : List Bool) (n m : Nat) (hW : W.length = 2 ^ n) (hn : n ≤ 18) (hm : m < 2 ^ n) : ∀ (d i : Nat), i + d = n → Ev (fun k => impl_votes_isGreatest.l0 k (m : Int) (n : Int) (i : Int) (n : Int) W) ((List.range' i d).all fun i => bitB m i || W.getD (m + 2 ^ i) false) := by
  have hp : 2 ^ n ≤ 2 ^ 18 := Nat.pow_le_pow_right (by omega) hn
  intro d
  induction d with
  | zero =>
    intro i h
    refine ev_step ?_
    simp only [impl_votes_isGreatest.l0]
    rw [ev_neg (by omega), ev_now]
    rfl
  | succ d ih =>
    intro i h
    refine ev_step ?_
    simp only [impl_votes_isGreatest.l0]
    have hih := ih (i + 1) (by omega)
    rw [ev_pos (by omega), ev_bind (ev_of (show impl_has.f (m : Int) (i : Int) = some (bitB m i) from impl_has.v m i (by omega) (by omega))), w64 (by omega) (by omega), List.range'_succ, List.all_cons]
    by_cases hb : bitB m i = true
    · rw [ev_pos hb, hb]
      exact hih
    · have hlt : m + 2 ^ i < W.length := by rw [hW]; exact bitB_lt hb hm (by omega)
      rw [ev_neg hb, ev_pos (by omega), shl_one i (by omega), bitB_or hb (by omega) (by omega), ev_pos (Int.natCast_nonneg _), ev_pos (Int.ofNat_lt.2 hlt), rdOf_nat, Bool.eq_false_iff.2 hb, Bool.false_or]
      cases hw : W.getD (m + 2 ^ i) false with
      | true =>
        rw [ev_pos rfl]
        exact hih
      | false =>
        rw [ev_neg (by decide), ev_now]
        rfl
theorem impl_votes_isGreatest.ev (W : List Bool) (n m : Nat) (hW : W.length = 2 ^ n) (hn : n ≤ 18) (hm : m < 2 ^ n) : Ev (fun k => impl_votes_isGreatest.f k (n : Int) W (m : Int)) (greatB W n m) := by
  simp only [impl_votes_isGreatest.f]
  rw [ev_pos (by omega), ev_pos (by omega), rdOf_nat, greatB]
  cases hw : W.getD m false with
  | true =>
    rw [ev_pos rfl, ev_now]
    rfl
  | false =>
    rw [ev_neg (by decide), List.range_eq_range']
    exact impl_votes_isGreatest.ev_l W n m hW hn hm n 0 (by omega)
def glV (q : Int) (ws : List Int) : List (List Int) × Bool := if goodB q ws = true then (Go.Proofs.YtamfpkefnhcngaaGreatS.sortL (takeL (greatB (winsL q ws) ws.length) (winsL q ws).length), true) else ([], false)
theorem impl_GreatestLosing.ev (q : Int) (ws : List Int) (hl : ws.length ≤ 9223372036854775807) : Ev (fun k => impl_GreatestLosing.f k q ws) (glV q ws) := by
  simp only [impl_GreatestLosing.f]
  rw [ev_bind (impl_IsCommittee.ev q ws hl)]
  unfold glV
  cases hg : goodB q ws with
  | false => rw [ev_neg (by decide), ev_now, if_neg (by decide)]
  | true =>
    have hc := (good_iff q ws).1 hg
    have h9 := hc.l9
    have hp := hc.pow
    have hwl := winsL_length q ws
    have hs := impl_votes_sets.ev (winsL q ws) (by omega) (fun k x => impl_votes_isGreatest.f k (ws.length : Int) (winsL q ws) x) (greatB (winsL q ws) ws.length) (fun m hm => impl_votes_isGreatest.ev (winsL q ws) ws.length m hwl (by omega) (by omega))
    rw [ev_pos rfl, if_pos rfl, ev_bind (impl_Committee_votes.ev q ws h9 hc.wb), ev_bind hs, ev_now]
theorem spec_GreatestLosing.ev_l1 (q : Int) (ws : List Int) (W : List Bool) (hW : W.length = 2 ^ ws.length) (hn : ws.length ≤ 18) (m : Nat) (hm : m < W.length) (out : List (List Int)) (ho : out.length ≤ 1000000) (R : List (List Int) × Bool) : ∀ (d j : Nat) (b : Bool), j + d = ws.length → Ev (fun k => spec_GreatestLosing.l0 k W (if (b && (List.range' j d).all fun i => bitB m i || W.getD (m + 2 ^ i) false) = true then out ++ [setN m] else out) W (W.length : Int) ((m : Int) + 1) q ws) R → Ev (fun k => spec_GreatestLosing.l1 k W out (m : Int) b W (W.length : Int) (m : Int) (ws.length : Int) (j : Int) q ws) R := by
  have hp : 2 ^ ws.length ≤ 2 ^ 18 := Nat.pow_le_pow_right (by omega) hn
  intro d
  induction d with
  | zero =>
    intro j b h hR
    refine ev_step ?_
    simp only [spec_GreatestLosing.l1]
    rw [List.range'_zero, List.all_nil, Bool.and_true] at hR
    rw [ev_neg (by omega), w64 (x := (m : Int) + 1) (by omega) (by omega)]
    cases b with
    | true =>
      rw [if_pos rfl] at hR
      rw [ev_pos rfl, ev_bind (spec_voList.ev m (by omega)), ev_pos (by omega)]
      exact hR
    | false =>
      rw [if_neg (by decide)] at hR
      rw [ev_neg (by decide)]
      exact hR
  | succ d ih =>
    intro j b h hR
    refine ev_step ?_
    simp only [spec_GreatestLosing.l1]
    rw [List.range'_succ, List.all_cons] at hR
    rw [ev_pos (by omega), w64 (x := (j : Int) + 1) (by omega) (by omega)]
    cases b with
    | true =>
      have et : Int.tmod (shr .i64 (m : Int) (j : Int)) 2 = ((m / 2 ^ j % 2 : Nat) : Int) := by
        rw [shr_nat m j (by omega)]
        exact (Int.ofNat_tmod (m / 2 ^ j) 2).symm
      rw [ev_pos rfl, ev_pos (by omega), et]
      rw [Bool.true_and] at hR
      by_cases hb : bitB m j = true
      · have hb1 : m / 2 ^ j % 2 = 1 := by simpa [bitB] using hb
        rw [hb, Bool.true_or] at hR
        rw [ev_pos (by rw [hb1]; rfl)]
        exact ih (j + 1) true (by omega) hR
      · have hb1 : ¬ m / 2 ^ j % 2 = 1 := by simpa [bitB] using hb
        have hlt : m + 2 ^ j < W.length := by rw [hW]; exact bitB_lt hb (by omega) (by omega)
        have e1 : wrap64 ((m : Int) + ((2 ^ j : Nat) : Int)) = ((m + 2 ^ j : Nat) : Int) := by
          generalize 2 ^ j = y at hlt ⊢
          rw [w64 (by omega) (by omega)]
          omega
        rw [Bool.eq_false_iff.2 hb, Bool.false_or] at hR
        rw [ev_neg (c := ((m / 2 ^ j % 2 : Nat) : Int) = 1) (fun h_ => hb1 (Int.ofNat_inj.1 h_)), shl_one j (by omega), e1, ev_pos (Int.natCast_nonneg _), ev_pos (Int.ofNat_lt.2 hlt), rdOf_nat]
        exact ih (j + 1) _ (by omega) hR
    | false =>
      rw [Bool.false_and] at hR
      rw [ev_neg (by decide)]
      exact ih (j + 1) false (by omega) (by rw [Bool.false_and]; exact hR)
theorem spec_GreatestLosing.ev_l0 (q : Int) (ws : List Int) (W : List Bool) (hW : W.length = 2 ^ ws.length) (hn : ws.length ≤ 18) : ∀ (d m : Nat), m + d = W.length → Ev (fun k => spec_GreatestLosing.l0 k W (takeL (greatB W ws.length) m) W (W.length : Int) (m : Int) q ws) (Go.Proofs.YtamfpkefnhcngaaGreatS.sortL (takeL (greatB W ws.length) W.length), true) := by
  have hp : 2 ^ ws.length ≤ 2 ^ 18 := Nat.pow_le_pow_right (by omega) hn
  intro d
  induction d with
  | zero =>
    intro m h
    refine ev_step ?_
    simp only [spec_GreatestLosing.l0]
    have hl := takeL_len (greatB W ws.length) m
    rw [ev_neg (by omega), ev_bind (spec_voSorted.ev _ (by omega) (fun x hx => by
      obtain ⟨a, ha, _, rfl⟩ := takeL_mem x hx
      have := setTo_len a ws.length
      rw [← setN_to (m := a) (n := ws.length) (by omega) (by omega)] at this
      omega)), ev_now, show m = W.length by omega]
  | succ d ih =>
    intro m h
    refine ev_step ?_
    simp only [spec_GreatestLosing.l0]
    have hm : m < W.length := by omega
    have hl := takeL_len (greatB W ws.length) m
    have hih := ih (m + 1) (by omega)
    rw [takeL_succ, greatB] at hih
    have ew : W.getD m false = W[m] := by simp [hm]
    rw [ev_pos (by omega), ev_pos (by omega), ev_pos (by omega), rdOf_lt false W m hm]
    cases hw : W[m] with
    | true =>
      rw [ew, hw, Bool.not_true, Bool.false_and, if_neg (by decide)] at hih
      rw [ev_pos rfl, w64 (by omega) (by omega)]
      exact hih
    | false =>
      rw [ew, hw, List.range_eq_range'] at hih
      rw [ev_neg (by decide)]
      exact spec_GreatestLosing.ev_l1 q ws W hW hn m hm _ (by omega) _ ws.length 0 true (by omega) hih
theorem spec_GreatestLosing.ev (q : Int) (ws : List Int) (hl : ws.length ≤ 9223372036854775807) : Ev (fun k => spec_GreatestLosing.f k q ws) (glV q ws) := by
  simp only [spec_GreatestLosing.f]
  rw [ev_bind (spec_voGood.ev q ws hl)]
  unfold glV
  cases hg : goodB q ws with
  | false => rw [ev_neg (by decide), ev_now, if_neg (by decide)]
  | true =>
    have hc := (good_iff q ws).1 hg
    have h9 := hc.l9
    have hwl := winsL_length q ws
    rw [ev_pos rfl, if_pos rfl, ev_bind (spec_voWins.ev q ws h9 hc.wb)]
    exact spec_GreatestLosing.ev_l0 q ws (winsL q ws) hwl (by omega) (winsL q ws).length 0 (by omega)
theorem glV_few (q : Int) (ws : List Int) : (glV q ws).1.length ≤ 512 ∧ ∀ s ∈ (glV q ws).1, s.length ≤ 9 := by
  unfold glV
  split
  · next h => exact sortL_few ((good_iff q ws).1 h) (winsL_length q ws)
  · simp
theorem laws_mHas.ev_l (l : List Int) (a : Int) (hl : l.length ≤ 9223372036854775807) : ∀ (d i : Nat), i + d = l.length → Ev (fun k => laws_mHas.l0 k a l (l.length : Int) (i : Int)) ((l.drop i).contains a) := by
  intro d
  induction d with
  | zero =>
    intro i h
    refine ev_step ?_
    simp only [laws_mHas.l0]
    rw [ev_neg (by omega), ev_now, List.drop_of_length_le (by omega)]
    rfl
  | succ d ih =>
    intro i h
    refine ev_step ?_
    simp only [laws_mHas.l0]
    have hi : i < l.length := by omega
    rw [ev_pos (by omega), ev_pos (by omega), ev_pos (by omega), rd_lt l i hi, w64i (n := l.length) (by omega) (by omega) hl, List.drop_eq_getElem_cons hi, List.contains_cons]
    by_cases c : l[i] = a
    · rw [ev_pos c, ev_now, c, beq_self_eq_true, Bool.true_or]
    · rw [ev_neg c, beq_eq_false_iff_ne.2 (fun h => c h.symm), Bool.false_or]
      exact ih (i + 1) (by omega)
theorem laws_mHas.ev (l : List Int) (a : Int) (hl : l.length ≤ 9223372036854775807) : Ev (fun k => laws_mHas.f k l a) (l.contains a) := laws_mHas.ev_l l a hl l.length 0 (by omega)
def othI (s : List Int) (n : Nat) : List Int := takeI (fun i => !(s.contains (i : Int))) n
theorem laws_mOthers.ev_l (s : List Int) (n : Nat) (hs : s.length ≤ 9223372036854775807) (hn : n ≤ 1000000) : ∀ (d i : Nat), i + d = n → Ev (fun k => laws_mOthers.l0 k s (n : Int) (othI s i) (i : Int)) (othI s n) := by
  intro d
  induction d with
  | zero =>
    intro i h
    refine ev_step ?_
    simp only [laws_mOthers.l0]
    rw [ev_neg (by omega), ev_now, show i = n by omega]
  | succ d ih =>
    intro i h
    refine ev_step ?_
    simp only [laws_mOthers.l0]
    have hl := takeI_len (fun i => !(s.contains (i : Int))) i
    have hih := ih (i + 1) (by omega)
    unfold othI at hih ⊢
    rw [takeI_succ] at hih
    rw [ev_pos (by omega), ev_bind (laws_mHas.ev s (i : Int) hs), w64 (by omega) (by omega)]
    cases hc : s.contains (i : Int) with
    | true =>
      rw [hc, if_neg (by decide)] at hih
      rw [ev_pos rfl]
      exact hih
    | false =>
      rw [hc, if_pos (by decide)] at hih
      rw [ev_neg (by decide), ev_pos (by omega)]
      exact hih
theorem laws_mOthers.ev (s : List Int) (n : Nat) (hs : s.length ≤ 9223372036854775807) (hn : n ≤ 1000000) : Ev (fun k => laws_mOthers.f k s (n : Int)) (othI s n) := laws_mOthers.ev_l s n hs hn n 0 (by omega)
theorem laws_mSame.ev_l (a b : List Int) (hl : a.length ≤ 9223372036854775807) (hab : a.length = b.length) : ∀ (d i : Nat), i + d = a.length → Ev (fun k => laws_mSame.l0 k a b (a.length : Int) (i : Int)) (decide (a.drop i = b.drop i)) := by
  intro d
  induction d with
  | zero =>
    intro i h
    refine ev_step ?_
    simp only [laws_mSame.l0]
    rw [ev_neg (by omega), ev_now, List.drop_of_length_le (by omega), List.drop_of_length_le (by omega)]
    rfl
  | succ d ih =>
    intro i h
    refine ev_step ?_
    simp only [laws_mSame.l0]
    have hi : i < a.length := by omega
    have hib : i < b.length := by omega
    have e : decide (a.drop i = b.drop i) = (decide (a[i] = b[i]) && decide (a.drop (i + 1) = b.drop (i + 1))) := by
      rw [List.drop_eq_getElem_cons hi, List.drop_eq_getElem_cons hib, Bool.eq_iff_iff]
      simp only [Bool.and_eq_true, decide_eq_true_eq, List.cons.injEq]
    rw [ev_pos (by omega), ev_pos (by omega), ev_pos (by omega), ev_pos (by omega), rd_lt a i hi, rd_lt b i hib, w64i (n := a.length) (by omega) (by omega) hl, e]
    by_cases c : a[i] = b[i]
    · rw [ev_pos c, decide_eq_true c, Bool.true_and]
      exact ih (i + 1) (by omega)
    · rw [ev_neg c, ev_now, decide_eq_false c]
      rfl
theorem laws_mSame.ev (a b : List Int) (hl : a.length ≤ 9223372036854775807) : Ev (fun k => laws_mSame.f k a b) (decide (a = b)) := by
  simp only [laws_mSame.f]
  by_cases c : (a.length : Int) = (b.length : Int)
  · rw [ev_pos c]
    exact laws_mSame.ev_l a b hl (by omega) a.length 0 (by omega)
  · rw [ev_neg c, ev_now, decide_eq_false (fun h => c (by rw [h]))]
theorem andNot_all (n m : Nat) (hn : n ≤ 60) (hm : m < 2 ^ n) : Go.bits .andNot .i64 ((2 ^ n - 1 : Nat) : Int) (m : Int) = ((2 ^ n - 1 - m : Nat) : Int) := by
  have hp : 2 ^ n ≤ 2 ^ 60 := Nat.pow_le_pow_right (by omega) hn
  have hle : 2 ^ n - 1 - m < 2 ^ 62 := by omega
  have key : (2 ^ n - 1) &&& (2 ^ 64 - 1 - m) = 2 ^ n - 1 - m := by
    apply Nat.eq_of_testBit_eq
    intro j
    rw [Nat.testBit_and, show 2 ^ 64 - 1 - m = 2 ^ 64 - (m + 1) by omega, Nat.testBit_two_pow_sub_succ (by omega : m < 2 ^ 64), show 2 ^ n - 1 - m = 2 ^ n - (m + 1) by omega, Nat.testBit_two_pow_sub_succ hm, Nat.testBit_two_pow_sub_one]
    by_cases hj : j < n
    · have : j < 64 := by omega
      simp [hj, this]
    · simp [hj]
  have hbv : ((BitVec.ofInt 64 ((2 ^ n - 1 : Nat) : Int)) &&& ~~~(BitVec.ofInt 64 (m : Int))).toNat = 2 ^ n - 1 - m := by
    rw [BitVec.toNat_and, BitVec.toNat_not, BitVec.ofInt_natCast, BitVec.ofInt_natCast, BitVec.toNat_ofNat, BitVec.toNat_ofNat, Nat.mod_eq_of_lt (by omega : m < 2 ^ 64), Nat.mod_eq_of_lt (by omega : 2 ^ n - 1 < 2 ^ 64)]
    exact key
  show IntKind.i64.wrap (((BitVec.ofInt 64 ((2 ^ n - 1 : Nat) : Int)) &&& ~~~(BitVec.ofInt 64 (m : Int))).toNat : Int) = _
  rw [hbv]
  exact (fun (x : Nat) (hx : x < 2 ^ 62) => i64_wrap (x := (x : Int)) (by omega) (by omega)) (2 ^ n - 1 - m) hle
theorem impl_votes_dual.ev (W : List Bool) (n : Nat) (hW : W.length = 2 ^ n) (hn : n ≤ 18) : Ev (fun k => impl_votes_dual.f k (n : Int) W) ((n : Int), (List.range (2 ^ n)).map fun m => !(W.getD (2 ^ n - 1 - m) false)) := by
  have hp : 2 ^ n ≤ 2 ^ 18 := Nat.pow_le_pow_right (by omega) hn
  have h0 : 0 < 2 ^ n := Nat.two_pow_pos n
  refine impl_votesOf.ev n (by omega) (fun _ => impl_votes_dual_1.f (n : Int) W) (fun m => !(W.getD (2 ^ n - 1 - m) false)) (fun m hm => ?_)
  have hall : impl_votes_all.f (n : Int) W = some ((2 ^ n - 1 : Nat) : Int) := by
    simp only [impl_votes_all.f]
    rw [if_pos (by omega), shl_one n (by omega), w64 (by omega) (by omega)]
    congr 1
    omega
  refine ev_of ?_
  simp only [impl_votes_dual_1.f]
  rw [hall, Option.bind_some, andNot_all n m (by omega) hm, if_pos (Int.natCast_nonneg _), if_pos (Int.ofNat_lt.2 (by omega)), rdOf_nat]
def propP (W : List Bool) (n m : Nat) : Bool := !(W.getD m false && W.getD (2 ^ n - 1 - m) false)
def stroP (W : List Bool) (n m : Nat) : Bool := W.getD m false || W.getD (2 ^ n - 1 - m) false
def properB (W : List Bool) (n : Nat) : Bool := (List.range' 0 (2 ^ n)).all (propP W n)
def strongB (W : List Bool) (n : Nat) : Bool := (List.range' 0 (2 ^ n)).all (stroP W n)
theorem votes_all_v (W : List Bool) (n : Nat) (hn : n ≤ 18) : impl_votes_all.f (n : Int) W = some ((2 ^ n - 1 : Nat) : Int) := by
  have h2 : 2 ^ n ≤ 2 ^ 18 := Nat.pow_le_pow_right (by omega) hn
  have h0 := Nat.two_pow_pos n
  simp only [impl_votes_all.f]
  rw [if_pos (by omega), shl_one n (by omega), w64 (by omega) (by omega)]
  congr 1
  omega
theorem impl_votes_isProper.ev_l (W : List Bool) (n : Nat) (hW : W.length = 2 ^ n) (hn : n ≤ 18) : ∀ (d i : Nat), i + d = 2 ^ n → Ev (fun k => impl_votes_isProper.l0 k W (W.length : Int) (i : Int) (n : Int) W) ((List.range' i d).all (propP W n)) := by
  have h2 : 2 ^ n ≤ 2 ^ 18 := Nat.pow_le_pow_right (by omega) hn
  intro d
  induction d with
  | zero =>
    intro i h
    refine ev_step ?_
    simp only [impl_votes_isProper.l0]
    rw [ev_neg (by omega), ev_now]
    rfl
  | succ d ih =>
    intro i h
    refine ev_step ?_
    simp only [impl_votes_isProper.l0]
    have hi : i < 2 ^ n := by omega
    have hih := ih (i + 1) (by omega)
    rw [show ((i + 1 : Nat) : Int) = (i : Int) + 1 by omega] at hih
    rw [ev_pos (by omega), ev_pos (by omega), ev_pos (by omega), rdOf_nat, w64i (i := (i : Int)) (n := W.length) (by omega) (by omega) (by omega), List.range'_succ, List.all_cons, propP]
    cases ha : W.getD i false with
    | false =>
      rw [ev_neg (by decide), Bool.false_and, Bool.not_false, Bool.true_and]
      exact hih
    | true =>
      rw [ev_pos rfl, ev_bind (ev_of (votes_all_v W n hn)), andNot_all n i (by omega) hi, ev_pos (by omega), ev_pos (by omega), rdOf_nat, Bool.true_and]
      cases hb : W.getD (2 ^ n - 1 - i) false with
      | true => rw [ev_pos rfl, ev_now, Bool.not_true, Bool.false_and]
      | false =>
        rw [ev_neg (by decide), Bool.not_false, Bool.true_and]
        exact hih
theorem impl_votes_isProper.ev (W : List Bool) (n : Nat) (hW : W.length = 2 ^ n) (hn : n ≤ 18) : Ev (fun k => impl_votes_isProper.f k (n : Int) W) (properB W n) := impl_votes_isProper.ev_l W n hW hn (2 ^ n) 0 (by omega)
theorem impl_votes_isStrong.ev_l (W : List Bool) (n : Nat) (hW : W.length = 2 ^ n) (hn : n ≤ 18) : ∀ (d i : Nat), i + d = 2 ^ n → Ev (fun k => impl_votes_isStrong.l0 k W (W.length : Int) (i : Int) (n : Int) W) ((List.range' i d).all (stroP W n)) := by
  have h2 : 2 ^ n ≤ 2 ^ 18 := Nat.pow_le_pow_right (by omega) hn
  intro d
  induction d with
  | zero =>
    intro i h
    refine ev_step ?_
    simp only [impl_votes_isStrong.l0]
    rw [ev_neg (by omega), ev_now]
    rfl
  | succ d ih =>
    intro i h
    refine ev_step ?_
    simp only [impl_votes_isStrong.l0]
    have hi : i < 2 ^ n := by omega
    have hih := ih (i + 1) (by omega)
    rw [show ((i + 1 : Nat) : Int) = (i : Int) + 1 by omega] at hih
    rw [ev_pos (by omega), ev_pos (by omega), ev_pos (by omega), rdOf_nat, w64i (i := (i : Int)) (n := W.length) (by omega) (by omega) (by omega), List.range'_succ, List.all_cons, stroP]
    cases ha : W.getD i false with
    | true =>
      rw [ev_pos rfl, Bool.true_or, Bool.true_and]
      exact hih
    | false =>
      rw [ev_neg (by decide), ev_bind (ev_of (votes_all_v W n hn)), andNot_all n i (by omega) hi, ev_pos (by omega), ev_pos (by omega), rdOf_nat, Bool.false_or]
      cases hb : W.getD (2 ^ n - 1 - i) false with
      | false => rw [ev_neg (by decide), ev_now, Bool.false_and]
      | true =>
        rw [ev_pos rfl, Bool.true_and]
        exact hih
theorem impl_votes_isStrong.ev (W : List Bool) (n : Nat) (hW : W.length = 2 ^ n) (hn : n ≤ 18) : Ev (fun k => impl_votes_isStrong.f k (n : Int) W) (strongB W n) := impl_votes_isStrong.ev_l W n hW hn (2 ^ n) 0 (by omega)
def prV (q : Int) (ws : List Int) : Bool × Bool := if goodB q ws = true then (properB (winsL q ws) ws.length, true) else (false, false)
def stV (q : Int) (ws : List Int) : Bool × Bool := if goodB q ws = true then (strongB (winsL q ws) ws.length, true) else (false, false)
theorem impl_IsProper.ev (q : Int) (ws : List Int) (hl : ws.length ≤ 9223372036854775807) : Ev (fun k => impl_IsProper.f k q ws) (prV q ws) := by
  have hC := impl_IsCommittee.ev q ws hl
  simp only [impl_IsProper.f]
  unfold prV
  cases hg : goodB q ws with
  | false =>
    rw [hg] at hC
    rw [ev_bind hC, ev_neg (by decide), ev_bind hC, ev_now, if_neg (by decide)]
  | true =>
    rw [hg] at hC
    have hc := (good_iff q ws).1 hg
    have h9 := hc.l9
    rw [ev_bind hC, ev_pos rfl, ev_bind (impl_Committee_votes.ev q ws hc.l9 hc.wb), ev_bind (impl_votes_isProper.ev (winsL q ws) ws.length (winsL_length q ws) (by omega)), ev_bind hC, ev_now, if_pos rfl]
theorem impl_IsStrong.ev (q : Int) (ws : List Int) (hl : ws.length ≤ 9223372036854775807) : Ev (fun k => impl_IsStrong.f k q ws) (stV q ws) := by
  have hC := impl_IsCommittee.ev q ws hl
  simp only [impl_IsStrong.f]
  unfold stV
  cases hg : goodB q ws with
  | false =>
    rw [hg] at hC
    rw [ev_bind hC, ev_neg (by decide), ev_bind hC, ev_now, if_neg (by decide)]
  | true =>
    rw [hg] at hC
    have hc := (good_iff q ws).1 hg
    have h9 := hc.l9
    rw [ev_bind hC, ev_pos rfl, ev_bind (impl_Committee_votes.ev q ws hc.l9 hc.wb), ev_bind (impl_votes_isStrong.ev (winsL q ws) ws.length (winsL_length q ws) (by omega)), ev_bind hC, ev_now, if_pos rfl]
theorem spec_IsProper.ev_l (W : List Bool) (n : Nat) (hW : W.length = 2 ^ n) (hn : n ≤ 18) : ∀ (d i : Nat), i + d = 2 ^ n → Ev (fun k => spec_IsProper.l0 k W ((2 ^ n - 1 : Nat) : Int) (W.length : Int) (i : Int)) ((List.range' i d).all (propP W n), true) := by
  have h2 : 2 ^ n ≤ 2 ^ 18 := Nat.pow_le_pow_right (by omega) hn
  intro d
  induction d with
  | zero =>
    intro i h
    refine ev_step ?_
    simp only [spec_IsProper.l0]
    rw [ev_neg (by omega), ev_now]
    rfl
  | succ d ih =>
    intro i h
    refine ev_step ?_
    simp only [spec_IsProper.l0]
    have hi : i < 2 ^ n := by omega
    have hih := ih (i + 1) (by omega)
    rw [show ((i + 1 : Nat) : Int) = (i : Int) + 1 by omega] at hih
    have e : wrap64 (((2 ^ n - 1 : Nat) : Int) - (i : Int)) = ((2 ^ n - 1 - i : Nat) : Int) := by rw [w64 (by omega) (by omega)]; omega
    rw [ev_pos (by omega), ev_pos (by omega), ev_pos (by omega), rdOf_nat, w64i (i := (i : Int)) (n := W.length) (by omega) (by omega) (by omega), List.range'_succ, List.all_cons, propP, e]
    cases ha : W.getD i false with
    | false =>
      rw [ev_neg (by decide), Bool.false_and, Bool.not_false, Bool.true_and]
      exact hih
    | true =>
      rw [ev_pos rfl, ev_pos (by omega), ev_pos (by omega), rdOf_nat, Bool.true_and]
      cases hb : W.getD (2 ^ n - 1 - i) false with
      | true => rw [ev_pos rfl, ev_now, Bool.not_true, Bool.false_and]
      | false =>
        rw [ev_neg (by decide), Bool.not_false, Bool.true_and]
        exact hih
theorem spec_IsProper.ev (q : Int) (ws : List Int) (hl : ws.length ≤ 9223372036854775807) : Ev (fun k => spec_IsProper.f k q ws) (prV q ws) := by
  simp only [spec_IsProper.f]
  rw [ev_bind (spec_voGood.ev q ws hl)]
  unfold prV
  cases hg : goodB q ws with
  | false => rw [ev_neg (by decide), ev_now, if_neg (by decide)]
  | true =>
    have hc := (good_iff q ws).1 hg
    have h9 := hc.l9
    rw [ev_pos rfl, if_pos rfl, ev_bind (spec_voWins.ev q ws hc.l9 hc.wb), ev_bind (ev_of (spec_voAll.v ws.length (by omega)))]
    exact spec_IsProper.ev_l (winsL q ws) ws.length (winsL_length q ws) (by omega) (2 ^ ws.length) 0 (by omega)
theorem spec_IsStrong.ev_l (W : List Bool) (n : Nat) (hW : W.length = 2 ^ n) (hn : n ≤ 18) : ∀ (d i : Nat), i + d = 2 ^ n → Ev (fun k => spec_IsStrong.l0 k W ((2 ^ n - 1 : Nat) : Int) (W.length : Int) (i : Int)) ((List.range' i d).all (stroP W n), true) := by
  have h2 : 2 ^ n ≤ 2 ^ 18 := Nat.pow_le_pow_right (by omega) hn
  intro d
  induction d with
  | zero =>
    intro i h
    refine ev_step ?_
    simp only [spec_IsStrong.l0]
    rw [ev_neg (by omega), ev_now]
    rfl
  | succ d ih =>
    intro i h
    refine ev_step ?_
    simp only [spec_IsStrong.l0]
    have hi : i < 2 ^ n := by omega
    have hih := ih (i + 1) (by omega)
    rw [show ((i + 1 : Nat) : Int) = (i : Int) + 1 by omega] at hih
    have e : wrap64 (((2 ^ n - 1 : Nat) : Int) - (i : Int)) = ((2 ^ n - 1 - i : Nat) : Int) := by rw [w64 (by omega) (by omega)]; omega
    rw [ev_pos (by omega), ev_pos (by omega), ev_pos (by omega), rdOf_nat, w64i (i := (i : Int)) (n := W.length) (by omega) (by omega) (by omega), List.range'_succ, List.all_cons, stroP, e]
    cases ha : W.getD i false with
    | true =>
      rw [ev_pos rfl, Bool.true_or, Bool.true_and]
      exact hih
    | false =>
      rw [ev_neg (by decide), ev_pos (by omega), ev_pos (by omega), rdOf_nat, Bool.false_or]
      cases hb : W.getD (2 ^ n - 1 - i) false with
      | false => rw [ev_neg (by decide), ev_now, Bool.false_and]
      | true =>
        rw [ev_pos rfl, Bool.true_and]
        exact hih
theorem spec_IsStrong.ev (q : Int) (ws : List Int) (hl : ws.length ≤ 9223372036854775807) : Ev (fun k => spec_IsStrong.f k q ws) (stV q ws) := by
  simp only [spec_IsStrong.f]
  rw [ev_bind (spec_voGood.ev q ws hl)]
  unfold stV
  cases hg : goodB q ws with
  | false => rw [ev_neg (by decide), ev_now, if_neg (by decide)]
  | true =>
    have hc := (good_iff q ws).1 hg
    have h9 := hc.l9
    rw [ev_pos rfl, if_pos rfl, ev_bind (spec_voWins.ev q ws hc.l9 hc.wb), ev_bind (ev_of (spec_voAll.v ws.length (by omega)))]
    exact spec_IsStrong.ev_l (winsL q ws) ws.length (winsL_length q ws) (by omega) (2 ^ ws.length) 0 (by omega)
theorem impl_isIncreasing.ev_l (l : List Int) (hl : l.length ≤ 9223372036854775807) : ∀ (d i : Nat), i + d = l.length → Ev (fun k => impl_isIncreasing.l0 k l (l.length : Int) (i : Int)) (incB (l.drop (i - 1))) := by
  intro d
  induction d with
  | zero =>
    intro i h
    refine ev_step ?_
    simp only [impl_isIncreasing.l0]
    rw [ev_neg (by omega), ev_now, incB_short (by rw [List.length_drop]; omega)]
  | succ d ih =>
    intro i h
    refine ev_step ?_
    simp only [impl_isIncreasing.l0]
    have hi : i < l.length := by omega
    rw [ev_pos (by omega), w64i (n := l.length) (by omega) (by omega) hl]
    by_cases h0 : i = 0
    · subst h0
      rw [ev_neg (by omega)]
      exact ih 1 (by omega)
    · have e1 : (i : Int) - 1 = ((i - 1 : Nat) : Int) := by omega
      rw [ev_pos (by omega), ev_pos (by omega), ev_pos (by omega), w64 (by omega) (by omega), e1, ev_pos (by omega), ev_pos (by omega), rd_lt l i hi, rd_lt l (i - 1) (by omega), incB_at l i (by omega) hi]
      by_cases hc : l[i] ≤ l[i - 1]
      · rw [ev_pos hc, ev_now, decide_eq_false (by omega), Bool.false_and]
      · rw [ev_neg hc, decide_eq_true (by omega), Bool.true_and]
        have := ih (i + 1) (by omega)
        rw [Nat.add_sub_cancel] at this
        exact this
theorem impl_isIncreasing.ev (l : List Int) (hl : l.length ≤ 9223372036854775807) : Ev (fun k => impl_isIncreasing.f k l) (incB l) := impl_isIncreasing.ev_l l hl l.length 0 (by omega)
theorem impl_isSet.ev (l : List Int) (n : Int) (h0 : 0 ≤ n) (h9 : n ≤ 1000) (hl : l.length ≤ 9223372036854775807) : Ev (fun k => impl_isSet.f k l n) (setB n l) := by
  simp only [impl_isSet.f]
  rw [w64 (by omega) (by omega), ev_bind (ev_of (show impl_areIn.f l 0 (n - 1) = some _ from rfl))]
  unfold setB
  cases (l.all fun x => decide (0 ≤ x) && decide (x ≤ n - 1)) with
  | true => rw [ev_pos rfl, ev_bind (impl_isIncreasing.ev l hl), ev_now, Bool.true_and]
  | false => rw [ev_neg (by simp), ev_now, Bool.false_and]
theorem impl_maskOf.ev_l (l : List Int) (hl : l.length ≤ 9223372036854775807) (hx : ∀ x ∈ l, 0 ≤ x ∧ x ≤ 60) : ∀ (d i m : Nat), i + d = l.length → m < 2 ^ 61 → Ev (fun k => impl_maskOf.l0 k (m : Int) l (l.length : Int) (i : Int)) ((orBits m (l.drop i) : Nat) : Int) := by
  intro d
  induction d with
  | zero =>
    intro i m h hm
    refine ev_step ?_
    simp only [impl_maskOf.l0]
    rw [ev_neg (by omega), ev_now, List.drop_of_length_le (by omega)]
    rfl
  | succ d ih =>
    intro i m h hm
    refine ev_step ?_
    simp only [impl_maskOf.l0]
    have hi : i < l.length := by omega
    have hxi := hx l[i] (List.getElem_mem hi)
    obtain ⟨c, hc⟩ := Int.eq_ofNat_of_zero_le hxi.1
    have hp : 2 ^ c ≤ 2 ^ 60 := Nat.pow_le_pow_right (by omega) (by omega)
    have ho : m ||| 2 ^ c < 2 ^ 61 := Nat.or_lt_two_pow hm (by omega)
    rw [ev_pos (by omega), ev_pos (by omega), ev_pos (by omega), rd_lt l i hi, hc, ev_pos (by omega), w64i (n := l.length) (by omega) (by omega) hl, shl_one c (by omega), or_nat m (2 ^ c) (by omega) (by omega)]
    have := ih (i + 1) (m ||| 2 ^ c) (by omega) ho
    rw [List.drop_eq_getElem_cons hi]
    show Ev _ ((orBits (m ||| 2 ^ l[i].toNat) (l.drop (i + 1)) : Nat) : Int)
    rw [hc]
    exact this
theorem impl_maskOf.ev (l : List Int) (hl : l.length ≤ 9223372036854775807) (hx : ∀ x ∈ l, 0 ≤ x ∧ x ≤ 60) : Ev (fun k => impl_maskOf.f k l) ((maskN l : Nat) : Int) := impl_maskOf.ev_l l hl hx l.length 0 0 (by omega) (by omega)
def setOfB (q : Int) (ws s : List Int) : Bool := goodB q ws && setB (ws.length : Int) s
theorem impl_isSetOf.ev (q : Int) (ws s : List Int) (hl : ws.length ≤ 9223372036854775807) (hs : s.length ≤ 9223372036854775807) : Ev (fun k => impl_isSetOf.f k q ws s) (setOfB q ws s) := by
  simp only [impl_isSetOf.f]
  rw [ev_bind (impl_IsCommittee.ev q ws hl)]
  unfold setOfB
  cases hg : goodB q ws with
  | false => rw [ev_neg (by decide), ev_now]; rfl
  | true =>
    have h9 := ((good_iff q ws).1 hg).l9
    rw [ev_pos rfl, ev_bind (impl_isSet.ev s (ws.length : Int) (by omega) (by omega) hs), ev_now, Bool.true_and]
theorem setOfB_facts {q : Int} {ws s : List Int} (h : setOfB q ws s = true) : GoodC q ws ∧ setB (ws.length : Int) s = true ∧ (∀ x ∈ s, 0 ≤ x ∧ x ≤ 60) ∧ maskN s < 2 ^ ws.length ∧ maskN s < 2 ^ 62 := by
  unfold setOfB at h
  rw [Bool.and_eq_true] at h
  have hc := (good_iff q ws).1 h.1
  have h9 := hc.l9
  have hp := hc.pow
  have hm := setB_mask h.2
  exact ⟨hc, h.2, fun x hx => by have := setB_in h.2 x hx; omega, hm, by omega⟩
def winsV (q : Int) (ws s : List Int) : Bool × Bool := if setOfB q ws s = true then (decide (q ≤ wsum ws (maskN s)), true) else (false, false)
theorem impl_IsWinning.ev (q : Int) (ws s : List Int) (hl : ws.length ≤ 9223372036854775807) (hs : s.length ≤ 9223372036854775807) : Ev (fun k => impl_IsWinning.f k q ws s) (winsV q ws s) := by
  simp only [impl_IsWinning.f]
  rw [ev_bind (impl_isSetOf.ev q ws s hl hs)]
  unfold winsV
  cases hg : setOfB q ws s with
  | false => rw [ev_neg (by decide), ev_now]; rfl
  | true =>
    obtain ⟨hc, h1, h2, h3, h4⟩ := setOfB_facts hg
    have h9 := hc.l9
    rw [ev_pos rfl, ev_bind (impl_maskOf.ev s hs h2), ev_bind (impl_Committee_weight.ev q ws (maskN s) h4 (by omega) hc.wb), ev_now]
    rfl
theorem wsum_compl (ws : List Int) : ∀ m, m < 2 ^ ws.length → wsum ws (2 ^ ws.length - 1 - m) = ws.sum - wsum ws m := by
  induction ws with
  | nil => intro m h; simp [wsum]
  | cons a l ih =>
    intro m h
    have hp : 2 ^ (l.length + 1) = 2 * 2 ^ l.length := by rw [Nat.pow_succ, Nat.mul_comm]
    have h0 : 0 < 2 ^ l.length := Nat.two_pow_pos _
    simp only [List.length_cons] at h
    have e1 : (2 ^ (l.length + 1) - 1 - m) / 2 = 2 ^ l.length - 1 - m / 2 := by rw [hp] at h ⊢; omega
    have e2 : (2 ^ (l.length + 1) - 1 - m) % 2 = 1 - m % 2 := by rw [hp] at h ⊢; omega
    have hi := ih (m / 2) (by rw [hp] at h; omega)
    show (if (2 ^ (l.length + 1) - 1 - m) % 2 = 1 then a else 0) + wsum l ((2 ^ (l.length + 1) - 1 - m) / 2) = (a :: l).sum - ((if m % 2 = 1 then a else 0) + wsum l (m / 2))
    rw [e1, e2, hi, List.sum_cons]
    by_cases hm : m % 2 = 1
    · rw [if_neg (by omega), if_pos hm]
      omega
    · rw [if_pos (by omega), if_neg hm]
      omega
theorem winsL_dual {q : Int} {ws : List Int} (h : GoodC q ws) : ((List.range (2 ^ ws.length)).map fun m => !((winsL q ws).getD (2 ^ ws.length - 1 - m) false)) = winsL (ws.sum + 1 - q) ws := by
  unfold winsL
  refine List.map_congr_left (fun m hm => ?_)
  have hm' : m < 2 ^ ws.length := List.mem_range.1 hm
  have := winsL_getD q ws (2 ^ ws.length - 1 - m) (by omega)
  unfold winsL at this
  rw [this, wsum_compl ws m hm']
  by_cases c : q ≤ ws.sum - wsum ws m
  · rw [decide_eq_true c, decide_eq_false (by omega)]
    rfl
  · rw [decide_eq_false c, decide_eq_true (by omega)]
    rfl
theorem xor_all : ((List.range 512).all fun m => (List.range 9).all fun i => decide (Go.bits .xor .i64 (m : Int) ((2 ^ i : Nat) : Int) = ((if bitB m i = true then m - 2 ^ i else m + 2 ^ i : Nat) : Int))) = true := by decide +kernel
theorem xor_pow {m i : Nat} (hm : m < 512) (hi : i < 9) : Go.bits .xor .i64 (m : Int) ((2 ^ i : Nat) : Int) = ((if bitB m i = true then m - 2 ^ i else m + 2 ^ i : Nat) : Int) := of_decide_eq_true (List.all_eq_true.1 (List.all_eq_true.1 xor_all m (List.mem_range.2 hm)) i (List.mem_range.2 hi))
theorem setN_set {m n : Nat} (hm : m < 2 ^ n) (hn : n ≤ 60) : setB (n : Int) (setN m) = true ∧ maskN (setN m) = m := by
  have e : setN m = takeI (bitB m) n := by rw [setN_to hm (by omega)]; rfl
  refine ⟨by rw [e]; exact takeI_set _ _, Nat.eq_of_testBit_eq fun i => ?_⟩
  rw [e, maskN_takeI, bitB_test]
  by_cases h : i < n
  · rw [decide_eq_true h, Bool.true_and]
  · rw [decide_eq_false h, Bool.false_and, Nat.testBit_lt_two_pow (Nat.lt_of_lt_of_le hm (Nat.pow_le_pow_right (by omega) (by omega)))]
theorem setN_wins {q : Int} {ws : List Int} (hc : GoodC q ws) {m : Nat} (hm : m < 2 ^ ws.length) : winsV q ws (setN m) = ((winsL q ws).getD m false, true) ∧ winsV q ws (othI (setN m) ws.length) = ((winsL q ws).getD (2 ^ ws.length - 1 - m) false, true) := by
  have h9 := hc.l9
  have hg := (good_iff q ws).2 hc
  obtain ⟨h1, h2⟩ := setN_set hm (show ws.length ≤ 60 by omega)
  have h3 : setOfB q ws (setN m) = true := by rw [setOfB, hg, h1]; rfl
  have h4 : setOfB q ws (othI (setN m) ws.length) = true := by rw [setOfB, hg, othI, takeI_set]; rfl
  have h5 : maskN (othI (setN m) ws.length) = 2 ^ ws.length - 1 - m := by rw [othI, maskN_oth _ _ h1, h2]
  have hp := hc.pow
  exact ⟨by rw [winsV, if_pos h3, h2, winsL_getD q ws m hm], by rw [winsV, if_pos h4, h5, winsL_getD q ws _ (by omega)]⟩
def edgeP (W : List Bool) (m i : Nat) : Bool := if W.getD m false = true then !(bitB m i) || !(W.getD (m - 2 ^ i) false) else bitB m i || W.getD (m + 2 ^ i) false
theorem edge_least {W : List Bool} {n m : Nat} (h : W.getD m false = true) : ((List.range n).all (edgeP W m)) = leastB W n m := by
  unfold leastB
  rw [h, Bool.true_and]
  congr 1
  funext i
  unfold edgeP
  rw [if_pos h]
theorem edge_great {W : List Bool} {n m : Nat} (h : W.getD m false = false) : ((List.range n).all (edgeP W m)) = greatB W n m := by
  unfold greatB
  rw [h, Bool.not_false, Bool.true_and]
  congr 1
  funext i
  unfold edgeP
  rw [h, if_neg (by decide)]
def bothN (W : List Bool) (n m : Nat) : Nat := ((List.range m).filter fun j => W.getD j false == W.getD (2 ^ n - 1 - j) false).length
theorem bothN_succ (W : List Bool) (n m : Nat) : bothN W n (m + 1) = bothN W n m + if (W.getD m false == W.getD (2 ^ n - 1 - m) false) = true then 1 else 0 := by
  unfold bothN
  rw [List.range_succ, List.filter_append, List.length_append, List.filter_cons]
  split <;> rfl
theorem bothN_le (W : List Bool) (n m : Nat) : bothN W n m ≤ m := by
  have := List.length_filter_le (fun j => W.getD j false == W.getD (2 ^ n - 1 - j) false) (List.range m)
  rw [List.length_range] at this
  exact this
theorem bothN_zero (W : List Bool) (n : Nat) : (decide (bothN W n (2 ^ n) = 0)) = (properB W n && strongB W n) := by
  rw [Bool.eq_iff_iff, decide_eq_true_eq, Bool.and_eq_true]
  unfold bothN properB strongB
  rw [List.length_eq_zero_iff, List.filter_eq_nil_iff, List.all_eq_true, List.all_eq_true]
  constructor
  · intro h
    refine ⟨fun m hm => ?_, fun m hm => ?_⟩ <;>
    · rw [List.mem_range'_1] at hm
      have := h m (List.mem_range.2 (by omega))
      first | unfold propP | unfold stroP
      revert this
      cases W.getD m false <;> cases W.getD (2 ^ n - 1 - m) false <;> decide
  · intro ⟨h1, h2⟩ m hm
    rw [List.mem_range] at hm
    have a := h1 m (List.mem_range'_1.2 (by omega))
    have b := h2 m (List.mem_range'_1.2 (by omega))
    unfold propP at a
    unfold stroP at b
    revert a b
    cases W.getD m false <;> cases W.getD (2 ^ n - 1 - m) false <;> decide
def cntU (W : List Bool) (a : Nat) : Nat := ((List.range W.length).filter fun m => W.getD m false && decide (popN m < a)).length
theorem cntU_zero (W : List Bool) : cntU W 0 = 0 := by
  unfold cntU
  rw [List.length_eq_zero_iff, List.filter_eq_nil_iff]
  intro m _
  simp
theorem filter_split (L : List Nat) (p : Nat → Bool) (a : Nat) : ((L.filter fun m => p m && decide (popN m < a + 1)).length) = (L.filter fun m => p m && decide (popN m < a)).length + (L.filter fun m => p m && decide (((popN m : Nat) : Int) = (a : Int))).length := by
  induction L with
  | nil => rfl
  | cons x L ih =>
    simp only [List.filter_cons]
    cases p x with
    | false => simpa using ih
    | true =>
      simp only [Bool.true_and]
      by_cases h1 : popN x < a
      · rw [decide_eq_true (show popN x < a + 1 by omega), decide_eq_true h1, decide_eq_false (show ¬ ((popN x : Nat) : Int) = (a : Int) by omega)]
        simp only [if_true, List.length_cons, Bool.false_eq_true, if_false]
        omega
      · by_cases h2 : popN x = a
        · rw [decide_eq_true (show popN x < a + 1 by omega), decide_eq_false h1, decide_eq_true (show ((popN x : Nat) : Int) = (a : Int) by omega)]
          simp only [if_true, List.length_cons, Bool.false_eq_true, if_false]
          omega
        · rw [decide_eq_false (show ¬ popN x < a + 1 by omega), decide_eq_false h1, decide_eq_false (show ¬ ((popN x : Nat) : Int) = (a : Int) by omega)]
          simp only [Bool.false_eq_true, if_false]
          omega
theorem cntU_succ (W : List Bool) (a : Nat) : (cntU W (a + 1) : Int) = cntU W a + cntO W (a : Int) := by
  have := filter_split (List.range W.length) (fun m => W.getD m false) a
  unfold cntU cntO ofB
  omega
theorem cntU_all (W : List Bool) (n : Nat) (hW : W.length = 2 ^ n) (hn : n ≤ 9) : (cntU W (n + 1) : Int) = cntW W := by
  rw [cntW_range]
  unfold cntU
  congr 2
  refine List.filter_congr (fun m hm => ?_)
  rw [List.mem_range] at hm
  have := popN_le (m := m) (by omega) hn
  rw [decide_eq_true (show popN m < n + 1 by omega), Bool.and_true]
theorem cntU_le (W : List Bool) (a : Nat) : cntU W a ≤ W.length := by
  unfold cntU
  have := List.length_filter_le (fun m => W.getD m false && decide (popN m < a)) (List.range W.length)
  rw [List.length_range] at this
  exact this
theorem count_not (L : List Bool) : ((L.map fun b => !b).count true) + L.count true = L.length := by
  induction L with
  | nil => rfl
  | cons b L ih =>
    rw [List.map_cons, List.count_cons, List.count_cons, List.length_cons]
    cases b
    · show _ + 1 + (_ + 0) = _; omega
    · show _ + 0 + (_ + 1) = _; omega
theorem dual_rev (W : List Bool) (n : Nat) (hW : W.length = 2 ^ n) : ((List.range (2 ^ n)).map fun m => !(W.getD (2 ^ n - 1 - m) false)) = (W.map fun b => !b).reverse := by
  refine List.ext_getElem (by simp [hW]) (fun i h1 h2 => ?_)
  have hi : i < 2 ^ n := by simpa using h1
  rw [List.getElem_map, List.getElem_range, List.getElem_reverse, List.getElem_map, List.getD_eq_getElem?_getD, List.getElem?_eq_getElem (by omega), Option.getD_some]
  congr 2
  rw [List.length_map, hW]
theorem cntW_dual {q : Int} {ws : List Int} (h : GoodC q ws) : cntW (winsL (ws.sum - q + 1) ws) = (2 ^ ws.length : Nat) - cntW (winsL q ws) := by
  have e : ws.sum - q + 1 = ws.sum + 1 - q := by omega
  have h1 := count_not (winsL q ws)
  rw [winsL_length] at h1
  unfold cntW
  rw [e, ← winsL_dual h, dual_rev _ _ (winsL_length q ws), List.count_reverse]
  omega
theorem strong_dual {q : Int} {ws : List Int} (h : GoodC q ws) : strongB (winsL (ws.sum - q + 1) ws) ws.length = properB (winsL q ws) ws.length := by
  have e : ws.sum - q + 1 = ws.sum + 1 - q := by omega
  rw [e, ← winsL_dual h]
  unfold strongB properB
  rw [Bool.eq_iff_iff, List.all_eq_true, List.all_eq_true]
  have key : ∀ m, m ∈ List.range' 0 (2 ^ ws.length) → stroP ((List.range (2 ^ ws.length)).map fun m => !((winsL q ws).getD (2 ^ ws.length - 1 - m) false)) ws.length m = propP (winsL q ws) ws.length m := by
    intro m hm
    rw [List.mem_range'_1] at hm
    have hg : ∀ j, j < 2 ^ ws.length → ((List.range (2 ^ ws.length)).map fun m => !((winsL q ws).getD (2 ^ ws.length - 1 - m) false)).getD j false = !((winsL q ws).getD (2 ^ ws.length - 1 - j) false) := fun j hj => by
      rw [List.getD_eq_getElem?_getD, List.getElem?_map, List.getElem?_range hj]
      rfl
    unfold stroP propP
    rw [hg m (by omega), hg _ (by omega), show 2 ^ ws.length - 1 - (2 ^ ws.length - 1 - m) = m by omega]
    cases (winsL q ws).getD m false <;> cases (winsL q ws).getD (2 ^ ws.length - 1 - m) false <;> rfl
  exact ⟨fun h m hm => by rw [← key m hm]; exact h m hm, fun h m hm => by rw [key m hm]; exact h m hm⟩
theorem great_ex (W : List Bool) (n : Nat) (hW : W.length = 2 ^ n) : ∀ d m, m + d = 2 ^ n → m < 2 ^ n → W.getD m false = false → (∃ i, i < n ∧ m.testBit i = false ∧ W.getD (m + 2 ^ i) false = false) ∨ greatB W n m = true := by
  intro d m _ _ hw
  by_cases h : ∃ i, i < n ∧ m.testBit i = false ∧ W.getD (m + 2 ^ i) false = false
  · exact .inl h
  · refine .inr ?_
    unfold greatB
    rw [hw, Bool.not_false, Bool.true_and, List.all_eq_true]
    intro i hi
    rw [List.mem_range] at hi
    rw [bitB_test]
    cases hb : m.testBit i with
    | true => rfl
    | false =>
      cases hv : W.getD (m + 2 ^ i) false with
      | true => rfl
      | false => exact absurd ⟨i, hi, hb, hv⟩ h
theorem great_some (W : List Bool) (n : Nat) (hW : W.length = 2 ^ n) (h0 : W.getD 0 false = false) : ∃ m, m < 2 ^ n ∧ greatB W n m = true := by
  have key : ∀ d m, m + d = 2 ^ n → m < 2 ^ n → W.getD m false = false → ∃ m', m' < 2 ^ n ∧ greatB W n m' = true := by
    intro d
    induction d using Nat.strongRecOn with
    | ind d ih =>
      intro m h hm hw
      rcases great_ex W n hW d m h hm hw with ⟨i, hi, hb, hv⟩ | hg
      · have hp := Nat.two_pow_pos i
        have hlt := bitB_lt (m := m) (n := n) (i := i) (by rw [bitB_test, hb]; decide) hm hi
        exact ih (2 ^ n - (m + 2 ^ i)) (by omega) (m + 2 ^ i) (by omega) hlt hv
      · exact ⟨m, hm, hg⟩
  exact key (2 ^ n) 0 (by omega) (Nat.two_pow_pos n) h0
theorem ltc_eq {x y : Int} {xs ys : List Int} (h : x = y) : decide (cmpL (x :: xs) (y :: ys) < 0) = decide (cmpL xs ys < 0) := by
  subst h
  simp [cmpL]
theorem ltc_ne {x y : Int} {xs ys : List Int} (h : ¬ x = y) : decide (cmpL (x :: xs) (y :: ys) < 0) = decide (x < y) := by
  by_cases h2 : x < y
  · simp [cmpL, h2]
  · have h3 : y < x := by omega
    simp [cmpL, h2, h3]
theorem laws_mBefore.ev_l (a b : List Int) (ha : a.length ≤ 9223372036854775806) (hb : b.length ≤ 9223372036854775806) : ∀ (d i : Nat), a.length ≤ i + d → i ≤ a.length → i ≤ b.length → Ev (fun k => laws_mBefore.l0 k a b (i : Int)) (decide (cmpL (a.drop i) (b.drop i) < 0)) := by
  intro d
  induction d with
  | zero =>
    intro i h h1 h2
    refine ev_step ?_
    simp only [laws_mBefore.l0]
    rw [ev_neg (by omega)]
    refine ev_step ?_
    simp only [laws_mBefore.j1]
    rw [ev_neg (by decide), ev_now, List.drop_of_length_le (show a.length ≤ i by omega)]
    by_cases c : i < b.length
    · rw [List.drop_eq_getElem_cons c]
      exact decide_eq_true (by omega)
    · rw [List.drop_of_length_le (show b.length ≤ i by omega)]
      exact decide_eq_false (by omega)
  | succ d ih =>
    intro i h h1 h2
    refine ev_step ?_
    simp only [laws_mBefore.l0]
    by_cases hi : i < a.length
    · rw [ev_pos (by omega)]
      refine ev_step ?_
      simp only [laws_mBefore.j1]
      by_cases hj : i < b.length
      · rw [decide_eq_true (show (i : Int) < (b.length : Int) by omega), ev_pos rfl, ev_pos (by omega), ev_pos (by omega), ev_pos (by omega), rd_lt a i hi, rd_lt b i hj, w64 (by omega) (by omega), List.drop_eq_getElem_cons hi, List.drop_eq_getElem_cons hj]
        by_cases c : a[i] = b[i]
        · rw [ev_pos c, ltc_eq c]
          exact ih (i + 1) (by omega) (by omega) (by omega)
        · rw [ev_neg c, ev_now, ltc_ne c]
      · rw [decide_eq_false (show ¬ (i : Int) < (b.length : Int) by omega), ev_neg (by decide), ev_now, List.drop_eq_getElem_cons hi, List.drop_of_length_le (show b.length ≤ i by omega)]
        exact decide_eq_false (by omega)
    · rw [ev_neg (by omega)]
      refine ev_step ?_
      simp only [laws_mBefore.j1]
      rw [ev_neg (by decide), ev_now, List.drop_of_length_le (show a.length ≤ i by omega)]
      by_cases c : i < b.length
      · rw [List.drop_eq_getElem_cons c]
        exact decide_eq_true (by omega)
      · rw [List.drop_of_length_le (show b.length ≤ i by omega)]
        exact decide_eq_false (by omega)
theorem laws_mBefore.ev (a b : List Int) (ha : a.length ≤ 9223372036854775806) (hb : b.length ≤ 9223372036854775806) : Ev (fun k => laws_mBefore.f k a b) (decide (cmpL a b < 0)) := laws_mBefore.ev_l a b ha hb a.length 0 (by omega) (by omega) (by omega)
theorem setN_inj {m m' : Nat} (h1 : m < 2 ^ 62) (h2 : m' < 2 ^ 62) (h : setN m = setN m') : m = m' := by
  apply Nat.eq_of_testBit_eq
  intro i
  by_cases hi : i < 62
  · rw [← setN_contains m i hi, ← setN_contains m' i hi, h]
  · rw [Nat.testBit_lt_two_pow (Nat.lt_of_lt_of_le h1 (Nat.pow_le_pow_right (by omega) (by omega))), Nat.testBit_lt_two_pow (Nat.lt_of_lt_of_le h2 (Nat.pow_le_pow_right (by omega) (by omega)))]
theorem takeL_nodup (P : Nat → Bool) (N : Nat) (hN : N ≤ 2 ^ 62) : (takeL P N).Nodup := by
  unfold takeL List.Nodup
  rw [List.pairwise_map]
  refine (List.pairwise_lt_range.filter P).imp_of_mem (fun {a b} ha hb hab h => ?_)
  have h1 := List.mem_range.1 (List.mem_filter.1 ha).1
  have h2 := List.mem_range.1 (List.mem_filter.1 hb).1
  have := setN_inj (by omega) (by omega) h
  omega
theorem sortL_up (xs : List (List Int)) : (Go.Proofs.YtamfpkefnhcngaaGreatS.sortL xs).Pairwise fun a b => cmpL a b ≤ 0 := by
  have h : (xs.mergeSort fun a b => !Go.Proofs.ltOf cmpL b a).Pairwise (fun a b => (!Go.Proofs.ltOf cmpL b a) = true) := by
    refine List.pairwise_mergeSort (fun a b c h1 h2 => ?_) (fun a b => ?_) xs
    · simp only [Bool.not_eq_true', Go.Proofs.ltOf, decide_eq_false_iff_not] at *
      have e1 := cmpL_swap a b
      have e2 := cmpL_swap b c
      have e3 := cmpL_swap a c
      have := cmpL_le_trans a b c (by omega) (by omega)
      omega
    · simp only [Bool.or_eq_true, Bool.not_eq_true', Go.Proofs.ltOf, decide_eq_false_iff_not]
      have := cmpL_swap a b
      omega
  refine h.imp (fun {a b} h => ?_)
  simp only [Bool.not_eq_true', Go.Proofs.ltOf, decide_eq_false_iff_not] at h
  have := cmpL_swap a b
  omega
theorem sortL_lt {P : Nat → Bool} {N : Nat} (hN : N ≤ 2 ^ 62) (i : Nat) (h1 : 1 ≤ i) (hi : i < (Go.Proofs.YtamfpkefnhcngaaGreatS.sortL (takeL P N)).length) : cmpL ((Go.Proofs.YtamfpkefnhcngaaGreatS.sortL (takeL P N))[i - 1]) ((Go.Proofs.YtamfpkefnhcngaaGreatS.sortL (takeL P N))[i]) < 0 := by
  have h2 := List.pairwise_iff_getElem.1 (sortL_up (takeL P N)) (i - 1) i (by omega) hi (by omega)
  have h3 : (Go.Proofs.YtamfpkefnhcngaaGreatS.sortL (takeL P N)).Nodup := (Go.Proofs.YtamfpkefnhcngaaGreatS.sortL_perm _).nodup_iff.2 (takeL_nodup P N hN)
  have h4 := List.pairwise_iff_getElem.1 h3 (i - 1) i (by omega) hi (by omega)
  have h5 : cmpL ((Go.Proofs.YtamfpkefnhcngaaGreatS.sortL (takeL P N))[i - 1]) ((Go.Proofs.YtamfpkefnhcngaaGreatS.sortL (takeL P N))[i]) ≠ 0 := fun e => h4 (cmpL_zero _ _ e)
  omega
theorem sortL_contains {P : Nat → Bool} {N m : Nat} (hN : N ≤ 2 ^ 62) (hm : m < N) : (Go.Proofs.YtamfpkefnhcngaaGreatS.sortL (takeL P N)).contains (setN m) = P m := by
  rw [Bool.eq_iff_iff, List.contains_iff_mem, (Go.Proofs.YtamfpkefnhcngaaGreatS.sortL_perm _).mem_iff]
  constructor
  · intro h
    obtain ⟨m', h1, h2, h3⟩ := takeL_mem _ h
    rw [setN_inj (by omega) (by omega) h3]
    exact h2
  · intro h
    exact List.mem_map.2 ⟨m, List.mem_filter.2 ⟨List.mem_range.2 hm, h⟩, rfl⟩
def OrdL (L : List (List Int)) : Prop := L.length ≤ 512 ∧ (∀ x ∈ L, x.length ≤ 9) ∧ ∀ (i : Nat) (h : i < L.length), 1 ≤ i → cmpL (L[i - 1]'(by omega)) L[i] < 0
def leL (q : Int) (ws : List Int) : List (List Int) := Go.Proofs.YtamfpkefnhcngaaGreatS.sortL (takeL (leastB (winsL q ws) ws.length) (winsL q ws).length)
def grL (q : Int) (ws : List Int) : List (List Int) := Go.Proofs.YtamfpkefnhcngaaGreatS.sortL (takeL (greatB (winsL q ws) ws.length) (winsL q ws).length)
theorem ord_take {q : Int} {ws : List Int} (hc : GoodC q ws) (P : Nat → Bool) : OrdL (Go.Proofs.YtamfpkefnhcngaaGreatS.sortL (takeL P (winsL q ws).length)) := by
  have h9 := hc.l9
  have hp := hc.pow
  have hwl := winsL_length q ws
  have hin := fun s hs => sortL_in (P := P) (N := (winsL q ws).length) (n := ws.length) (by omega) (by omega) s hs
  refine ⟨?_, fun x hx => ?_, fun i h h1 => sortL_lt (by omega) i h1 h⟩
  · have := takeL_len P (winsL q ws).length
    rw [sortL_len]
    omega
  · have := (hin x hx).1
    omega
theorem spec_voLeast.ev_l1 (W : List Bool) (n : Nat) (hW : W.length = 2 ^ n) (hn : n ≤ 18) (m : Nat) (hm : m < W.length) (out : List (List Int)) (ho : out.length ≤ 1000000) (R : List (List Int)) : ∀ (d j : Nat) (b : Bool), j + d = (setN m).length → Ev (fun k => spec_voLeast.l0 k W (if (b && ((setN m).drop j).all fun x => !(W.getD (m - 2 ^ x.toNat) false)) = true then out ++ [setN m] else out) W (W.length : Int) ((m : Int) + 1)) R → Ev (fun k => spec_voLeast.l1 k W out (m : Int) b W (W.length : Int) (m : Int) (setN m) ((setN m).length : Int) (j : Int)) R := by
  have hp : 2 ^ n ≤ 2 ^ 18 := Nat.pow_le_pow_right (by omega) hn
  have hto := setN_to (m := m) (n := n) (by omega) (by omega)
  have hln : (setN m).length ≤ n := by rw [hto]; exact setTo_len m n
  intro d
  induction d with
  | zero =>
    intro j b h hR
    refine ev_step ?_
    simp only [spec_voLeast.l1]
    rw [List.drop_of_length_le (by omega), List.all_nil, Bool.and_true] at hR
    rw [ev_neg (by omega), w64 (x := (m : Int) + 1) (by omega) (by omega)]
    cases b with
    | true =>
      rw [if_pos rfl] at hR
      rw [ev_pos rfl, ev_bind (spec_voList.ev m (by omega)), ev_pos (by omega)]
      exact hR
    | false =>
      rw [if_neg (by decide)] at hR
      rw [ev_neg (by decide)]
      exact hR
  | succ d ih =>
    intro j b h hR
    refine ev_step ?_
    simp only [spec_voLeast.l1]
    have hj : j < (setN m).length := by omega
    have hx := setTo_in (m := m) (n := n) (setN m)[j] (by rw [← hto]; exact List.getElem_mem hj)
    rw [List.drop_eq_getElem_cons hj, List.all_cons] at hR
    rw [ev_pos (by omega), ev_pos (by omega), ev_pos (by omega), w64 (x := (j : Int) + 1) (by omega) (by omega), rd_lt (setN m) j hj]
    cases b with
    | true =>
      obtain ⟨c, hc⟩ := Int.eq_ofNat_of_zero_le hx.1
      have hcb : bitB m c = true := by have := hx.2.2; rw [hc, Int.toNat_natCast] at this; exact this
      have hcn : c < n := by have := hx.2.1; omega
      have hge : 2 ^ c ≤ m := by
        have hbb : m / 2 ^ c % 2 = 1 := by simpa [bitB] using hcb
        rcases Nat.lt_or_ge m (2 ^ c) with h1 | h1
        · rw [Nat.div_eq_of_lt h1] at hbb; omega
        · exact h1
      have h0 : 0 < 2 ^ c := Nat.two_pow_pos c
      have e1 : wrap64 ((m : Int) - ((2 ^ c : Nat) : Int)) = ((m - 2 ^ c : Nat) : Int) := by
        rw [w64 (by omega) (by omega)]
        omega
      rw [hc, Int.toNat_natCast, Bool.true_and] at hR
      rw [ev_pos rfl, hc, ev_pos (by omega), shl_one c (by omega), e1, ev_pos (by omega), ev_pos (by omega), rdOf_nat]
      exact ih (j + 1) _ (by omega) hR
    | false =>
      rw [Bool.false_and] at hR
      rw [ev_neg (by decide)]
      exact ih (j + 1) false (by omega) (by rw [Bool.false_and]; exact hR)
theorem leastB_set (W : List Bool) (n m : Nat) (hm : m < 2 ^ n) (hn : n ≤ 62) : leastB W n m = (W.getD m false && (setN m).all fun x => !(W.getD (m - 2 ^ x.toNat) false)) := by
  rw [leastB, setN_to hm hn]
  congr 1
  exact (setTo_all m n (fun i => !(W.getD (m - 2 ^ i) false))).symm
theorem spec_voLeast.ev_l0 (W : List Bool) (n : Nat) (hW : W.length = 2 ^ n) (hn : n ≤ 18) : ∀ (d m : Nat), m + d = W.length → Ev (fun k => spec_voLeast.l0 k W (takeL (leastB W n) m) W (W.length : Int) (m : Int)) (Go.Proofs.YtamfpkefnhcngaaGreatS.sortL (takeL (leastB W n) W.length)) := by
  have hp : 2 ^ n ≤ 2 ^ 18 := Nat.pow_le_pow_right (by omega) hn
  intro d
  induction d with
  | zero =>
    intro m h
    refine ev_step ?_
    simp only [spec_voLeast.l0]
    have hl := takeL_len (leastB W n) m
    rw [ev_neg (by omega), ev_bind (spec_voSorted.ev _ (by omega) (fun x hx => by
      obtain ⟨a, ha, _, rfl⟩ := takeL_mem x hx
      have := setTo_len a n
      rw [← setN_to (m := a) (n := n) (by omega) (by omega)] at this
      omega)), ev_now, show m = W.length by omega]
  | succ d ih =>
    intro m h
    refine ev_step ?_
    simp only [spec_voLeast.l0]
    have hm : m < W.length := by omega
    have hl := takeL_len (leastB W n) m
    have hih := ih (m + 1) (by omega)
    rw [takeL_succ, leastB_set W n m (by omega) (by omega)] at hih
    have ew : W.getD m false = W[m] := by simp [hm]
    rw [ev_pos (by omega), ev_pos (by omega), ev_pos (by omega), rdOf_lt false W m hm]
    cases hw : W[m] with
    | true =>
      rw [ew, hw] at hih
      rw [ev_pos rfl, ev_bind (spec_voList.ev m (by omega))]
      refine spec_voLeast.ev_l1 W n hW hn m hm _ (by omega) _ (setN m).length 0 true (by omega) ?_
      rw [List.drop_zero]
      exact hih
    | false =>
      rw [ew, hw, Bool.false_and, if_neg (by decide)] at hih
      rw [ev_neg (by decide), w64 (by omega) (by omega)]
      exact hih
theorem spec_voLeast.ev (W : List Bool) (n : Nat) (hW : W.length = 2 ^ n) (hn : n ≤ 18) : Ev (fun k => spec_voLeast.f k W) (Go.Proofs.YtamfpkefnhcngaaGreatS.sortL (takeL (leastB W n) W.length)) := spec_voLeast.ev_l0 W n hW hn W.length 0 (by omega)
def lbV (q : Int) (ws : List Int) : List (List Int) × Bool := if goodB q ws = true then (Go.Proofs.YtamfpkefnhcngaaGreatS.sortL (takeL (leastB (winsL (ws.sum + 1 - q) ws) ws.length) (winsL (ws.sum + 1 - q) ws).length), true) else ([], false)
theorem impl_LeastBlocking.ev (q : Int) (ws : List Int) (hl : ws.length ≤ 9223372036854775807) : Ev (fun k => impl_LeastBlocking.f k q ws) (lbV q ws) := by
  simp only [impl_LeastBlocking.f]
  rw [ev_bind (impl_IsCommittee.ev q ws hl)]
  unfold lbV
  cases hg : goodB q ws with
  | false => rw [ev_neg (by decide), ev_now, if_neg (by decide)]
  | true =>
    have hc := (good_iff q ws).1 hg
    have h9 := hc.l9
    have hd := impl_votes_dual.ev (winsL q ws) ws.length (winsL_length q ws) (by omega)
    rw [winsL_dual hc] at hd
    rw [ev_pos rfl, if_pos rfl, ev_bind (impl_Committee_votes.ev q ws h9 hc.wb), ev_bind hd, ev_bind (impl_votes_least.ev (winsL (ws.sum + 1 - q) ws) ws.length (winsL_length _ ws) (by omega)), ev_now]
theorem spec_LeastBlocking.ev (q : Int) (ws : List Int) (hl : ws.length ≤ 9223372036854775807) : Ev (fun k => spec_LeastBlocking.f k q ws) (lbV q ws) := by
  simp only [spec_LeastBlocking.f]
  rw [ev_bind (spec_voGood.ev q ws hl)]
  unfold lbV
  cases hg : goodB q ws with
  | false => rw [ev_neg (by decide), ev_now, if_neg (by decide)]
  | true =>
    have hc := (good_iff q ws).1 hg
    have h9 := hc.l9
    have hq1 := hc.q1
    have hqs := hc.qs
    have hsum := hc.sum
    have hown : spec_l1Own.f ws = some ws := by
      simp only [spec_l1Own.f]
      first
        | (rw [if_pos (by omega)]; simp; done)
        | (simp; omega)
    have hd : Ev (fun k => spec_voDual.f k q ws) (ws.sum + 1 - q, ws) := by
      simp only [spec_voDual.f]
      have hs := spec_voSum.ev ws hl
      rw [wfold_w ws h9 (by
        rw [List.all_eq_true]
        intro x hx
        have := hc.w x hx
        simp
        omega)] at hs
      rw [ev_bind hs, ev_bind (ev_of hown), ev_now, w64 (x := ws.sum + 1) (by omega) (by omega), w64 (by omega) (by omega)]
    rw [ev_pos rfl, if_pos rfl, ev_bind hd, ev_bind (spec_voWins.ev (ws.sum + 1 - q) ws h9 hc.wb), ev_bind (spec_voLeast.ev (winsL (ws.sum + 1 - q) ws) ws.length (winsL_length _ ws) (by omega)), ev_now]
theorem lbV_few (q : Int) (ws : List Int) : (lbV q ws).1.length ≤ 512 ∧ ∀ s ∈ (lbV q ws).1, s.length ≤ 9 := by
  unfold lbV
  split
  · next h => exact sortL_few ((good_iff q ws).1 h) (winsL_length _ ws)
  · simp
def lwV (q : Int) (ws : List Int) : List (List Int) × Bool := if goodB q ws = true then (Go.Proofs.YtamfpkefnhcngaaGreatS.sortL (takeL (leastB (winsL q ws) ws.length) (winsL q ws).length), true) else ([], false)
theorem impl_LeastWinning.ev (q : Int) (ws : List Int) (hl : ws.length ≤ 9223372036854775807) : Ev (fun k => impl_LeastWinning.f k q ws) (lwV q ws) := by
  simp only [impl_LeastWinning.f]
  rw [ev_bind (impl_IsCommittee.ev q ws hl)]
  unfold lwV
  cases hg : goodB q ws with
  | false => rw [ev_neg (by decide), ev_now, if_neg (by decide)]
  | true =>
    have hc := (good_iff q ws).1 hg
    have h9 := hc.l9
    have hwl := winsL_length q ws
    rw [ev_pos rfl, if_pos rfl, ev_bind (impl_Committee_votes.ev q ws h9 hc.wb), ev_bind (impl_votes_least.ev (winsL q ws) ws.length hwl (by omega)), ev_now]
theorem spec_LeastWinning.ev (q : Int) (ws : List Int) (hl : ws.length ≤ 9223372036854775807) : Ev (fun k => spec_LeastWinning.f k q ws) (lwV q ws) := by
  simp only [spec_LeastWinning.f]
  rw [ev_bind (spec_voGood.ev q ws hl)]
  unfold lwV
  cases hg : goodB q ws with
  | false => rw [ev_neg (by decide), ev_now, if_neg (by decide)]
  | true =>
    have hc := (good_iff q ws).1 hg
    have h9 := hc.l9
    have hwl := winsL_length q ws
    rw [ev_pos rfl, if_pos rfl, ev_bind (spec_voWins.ev q ws h9 hc.wb), ev_bind (spec_voLeast.ev (winsL q ws) ws.length hwl (by omega)), ev_now]
theorem lwV_few (q : Int) (ws : List Int) : (lwV q ws).1.length ≤ 512 ∧ ∀ s ∈ (lwV q ws).1, s.length ≤ 9 := by
  unfold lwV
  split
  · next h => exact sortL_few ((good_iff q ws).1 h) (winsL_length q ws)
  · simp
theorem rd_L2_lt (l : List (List Int)) (i : Nat) (h : i < l.length) : rd_L2 l (i : Int) = l[i] := by simp [rd_L2, h]
theorem laws_mSets.ev_l (a b : List (List Int)) (hl : a.length ≤ 9223372036854775807) (ha : ∀ x ∈ a, x.length ≤ 9223372036854775807) (hab : a.length = b.length) : ∀ (d i : Nat), i + d = a.length → Ev (fun k => laws_mSets.l0 k a b (a.length : Int) (i : Int)) (decide (a.drop i = b.drop i)) := by
  intro d
  induction d with
  | zero =>
    intro i h
    refine ev_step ?_
    simp only [laws_mSets.l0]
    rw [ev_neg (by omega), ev_now, List.drop_of_length_le (by omega), List.drop_of_length_le (by omega)]
    rfl
  | succ d ih =>
    intro i h
    refine ev_step ?_
    simp only [laws_mSets.l0]
    have hi : i < a.length := by omega
    have hib : i < b.length := by omega
    have e : decide (a.drop i = b.drop i) = (decide (a[i] = b[i]) && decide (a.drop (i + 1) = b.drop (i + 1))) := by
      rw [List.drop_eq_getElem_cons hi, List.drop_eq_getElem_cons hib, Bool.eq_iff_iff]
      simp only [Bool.and_eq_true, decide_eq_true_eq, List.cons.injEq]
    rw [ev_pos (by omega), ev_pos (by omega), ev_pos (by omega), ev_pos (by omega), rd_L2_lt a i hi, rd_L2_lt b i hib, ev_bind (laws_mSame.ev a[i] b[i] (ha _ (List.getElem_mem hi))), w64i (n := a.length) (by omega) (by omega) hl, e]
    cases c : decide (a[i] = b[i]) with
    | true =>
      rw [ev_pos rfl, Bool.true_and]
      exact ih (i + 1) (by omega)
    | false => rw [ev_neg (by decide), ev_now, Bool.false_and]
theorem laws_mSets.ev (a b : List (List Int)) (hl : a.length ≤ 9223372036854775807) (ha : ∀ x ∈ a, x.length ≤ 9223372036854775807) : Ev (fun k => laws_mSets.f k a b) (decide (a = b)) := by
  simp only [laws_mSets.f]
  by_cases c : (a.length : Int) = (b.length : Int)
  · rw [ev_pos c]
    exact laws_mSets.ev_l a b hl ha (by omega) a.length 0 (by omega)
  · rw [ev_neg c, ev_now, decide_eq_false (fun h => c (by rw [h]))]
theorem laws_mCommittee.ev_same (q : Int) (ws : List Int) (hl : ws.length ≤ 9223372036854775807) : Ev (fun k => laws_mCommittee.f k q ws q ws) true := by
  have h := laws_mSame.ev ws ws hl
  rw [decide_eq_true rfl] at h
  show Ev (fun k => if q = q then (laws_mSame.f k ws ws).bind fun t => some t else some false) true
  rw [ev_pos rfl, ev_bind h, ev_now]
theorem laws_mList.ev_l (m n : Nat) (hm : m < 2 ^ 62) (hn : n ≤ 62) : ∀ (d i : Nat), i + d = n → Ev (fun k => laws_mList.l0 k (m : Int) (n : Int) (setTo m i) (i : Int)) (setTo m n) := by
  intro d
  induction d with
  | zero =>
    intro i h
    refine ev_step ?_
    simp only [laws_mList.l0]
    rw [ev_neg (by omega), ev_now, show i = n by omega]
  | succ d ih =>
    intro i h
    refine ev_step ?_
    simp only [laws_mList.l0]
    have hih := ih (i + 1) (by omega)
    have hl := setTo_len m i
    rw [setTo_succ, show ((i + 1 : Nat) : Int) = (i : Int) + 1 by omega] at hih
    rw [ev_pos (by omega), ev_pos (by omega), shr_nat m i (by omega), w64 (x := (i : Int) + 1) (by omega) (by omega), show Int.tmod ((m / 2 ^ i : Nat) : Int) 2 = ((m / 2 ^ i % 2 : Nat) : Int) from (Int.ofNat_tmod _ 2).symm]
    by_cases c : m / 2 ^ i % 2 = 1
    · rw [if_pos (show bitB m i = true from decide_eq_true c)] at hih
      rw [ev_pos (by omega), ev_pos (by omega)]
      exact hih
    · rw [if_neg (by simpa [bitB] using c)] at hih
      rw [ev_neg (by omega)]
      exact hih
theorem laws_mList.ev (m n : Nat) (hn : n ≤ 62) (hm : m < 2 ^ n) : Ev (fun k => laws_mList.f k (m : Int) (n : Int)) (setN m) := by
  rw [setN_to hm hn]
  exact laws_mList.ev_l m n (Nat.lt_of_lt_of_le hm (Nat.pow_le_pow_right (by omega) hn)) hn n 0 (by omega)
theorem laws_mIn.ev_l (a : List (List Int)) (s : List Int) (hl : a.length ≤ 9223372036854775807) (ha : ∀ x ∈ a, x.length ≤ 9223372036854775807) : ∀ (d i : Nat), i + d = a.length → Ev (fun k => laws_mIn.l0 k s a (a.length : Int) (i : Int)) ((a.drop i).contains s) := by
  intro d
  induction d with
  | zero =>
    intro i h
    refine ev_step ?_
    simp only [laws_mIn.l0]
    rw [ev_neg (by omega), ev_now, List.drop_of_length_le (by omega)]
    rfl
  | succ d ih =>
    intro i h
    refine ev_step ?_
    simp only [laws_mIn.l0]
    have hi : i < a.length := by omega
    rw [ev_pos (by omega), ev_pos (by omega), ev_pos (by omega), rd_L2_lt a i hi, ev_bind (laws_mSame.ev a[i] s (ha _ (List.getElem_mem hi))), w64i (n := a.length) (by omega) (by omega) hl, List.drop_eq_getElem_cons hi, List.contains_cons]
    by_cases c : a[i] = s
    · rw [decide_eq_true c, ev_pos rfl, ev_now, c, beq_self_eq_true, Bool.true_or]
    · rw [decide_eq_false c, ev_neg (by decide), beq_eq_false_iff_ne.2 (fun h => c h.symm), Bool.false_or]
      exact ih (i + 1) (by omega)
theorem laws_mIn.ev (a : List (List Int)) (s : List Int) (hl : a.length ≤ 9223372036854775807) (ha : ∀ x ∈ a, x.length ≤ 9223372036854775807) : Ev (fun k => laws_mIn.f k a s) (a.contains s) := laws_mIn.ev_l a s hl ha a.length 0 (by omega)
theorem laws_FnLeastSetsWin.law_end (l1 : List Int) (hb : ByteL l1) : Ev (fun k => laws_FnLeastSetsWin.j10 k l1) true := by
  obtain ⟨q2, ws2, a, hdr, hC, _⟩ := spec_DrawCountWinningOf.ex hb
  have hl2 : ws2.length ≤ 9223372036854775807 := Nat.le_trans hC.l10 (by decide)
  refine ev_step ?_
  simp only [laws_FnLeastSetsWin.j10]
  rw [ev_bind hdr]
  dsimp only
  rw [ev_bind (impl_CountWinningOf.ev q2 ws2 a hl2), ev_bind (spec_CountWinningOf.ev q2 ws2 a hl2), ev_pos (by simp), ev_now]
  simp
theorem laws_FnLeastSetsWin.law_l4 (l1 : List Int) (hb : ByteL l1) (G : List (List Int)) (hG : OrdL G) : ∀ (d i : Nat), G.length ≤ i + d → 1 ≤ i → Ev (fun k => laws_FnLeastSetsWin.l4 k l1 G (i : Int)) true := by
  obtain ⟨g1, g2, g3⟩ := hG
  intro d
  induction d with
  | zero =>
    intro i h h1
    refine ev_step ?_
    simp only [laws_FnLeastSetsWin.l4]
    rw [ev_neg (by omega)]
    exact laws_FnLeastSetsWin.law_end l1 hb
  | succ d ih =>
    intro i h h1
    refine ev_step ?_
    simp only [laws_FnLeastSetsWin.l4]
    by_cases hi : i < G.length
    · have hb := laws_mBefore.ev (G[i - 1]'(by omega)) G[i] (by have := g2 _ (List.getElem_mem (show i - 1 < G.length by omega)); omega) (by have := g2 _ (List.getElem_mem hi); omega)
      rw [decide_eq_true (g3 i hi h1)] at hb
      have e : wrap64 ((i : Int) - 1) = ((i - 1 : Nat) : Int) := by rw [w64 (by omega) (by omega)]; omega
      rw [ev_pos (by omega), e, ev_pos (by omega), ev_pos (by omega), ev_pos (by omega), rd_L2_lt G i hi, rd_L2_lt G (i - 1) (by omega), ev_bind hb, ev_pos rfl, w64 (by omega) (by omega)]
      exact ih (i + 1) (by omega) (by omega)
    · rw [ev_neg (by omega)]
      exact laws_FnLeastSetsWin.law_end l1 hb
theorem laws_FnLeastSetsWin.law_l3 (l1 : List Int) (hb : ByteL l1) (L G : List (List Int)) (hL : OrdL L) (hG : OrdL G) : ∀ (d i : Nat), L.length ≤ i + d → 1 ≤ i → Ev (fun k => laws_FnLeastSetsWin.l3 k l1 L G (i : Int)) true := by
  obtain ⟨g1, g2, g3⟩ := hL
  intro d
  induction d with
  | zero =>
    intro i h h1
    refine ev_step ?_
    simp only [laws_FnLeastSetsWin.l3]
    rw [ev_neg (by omega)]
    exact laws_FnLeastSetsWin.law_l4 l1 hb G hG G.length 1 (by omega) (Nat.le_refl _)
  | succ d ih =>
    intro i h h1
    refine ev_step ?_
    simp only [laws_FnLeastSetsWin.l3]
    by_cases hi : i < L.length
    · have hb := laws_mBefore.ev (L[i - 1]'(by omega)) L[i] (by have := g2 _ (List.getElem_mem (show i - 1 < L.length by omega)); omega) (by have := g2 _ (List.getElem_mem hi); omega)
      rw [decide_eq_true (g3 i hi h1)] at hb
      have e : wrap64 ((i : Int) - 1) = ((i - 1 : Nat) : Int) := by rw [w64 (by omega) (by omega)]; omega
      rw [ev_pos (by omega), e, ev_pos (by omega), ev_pos (by omega), ev_pos (by omega), rd_L2_lt L i hi, rd_L2_lt L (i - 1) (by omega), ev_bind hb, ev_pos rfl, w64 (by omega) (by omega)]
      exact ih (i + 1) (by omega) (by omega)
    · rw [ev_neg (by omega)]
      exact laws_FnLeastSetsWin.law_l4 l1 hb G hG G.length 1 (by omega) (Nat.le_refl _)
theorem laws_FnLeastSetsWin.law_l2 {q : Int} {ws : List Int} (hc : GoodC q ws) (l1 : List Int) (m : Nat) (hm : m < 2 ^ ws.length) (both : Int) (hnext : Ev (fun k => laws_FnLeastSetsWin.l1 k l1 (leL q ws) (grL q ws) (properB (winsL q ws) ws.length) (strongB (winsL q ws) ws.length) (ws.length : Int) both (wrap64 ((m : Int) + 1)) q ws) true) :
    ∀ (d i : Nat) (e : Bool), i + d = ws.length → e = (List.range i).all (edgeP (winsL q ws) m) → Ev (fun k => laws_FnLeastSetsWin.l2 k l1 (leL q ws) (grL q ws) (properB (winsL q ws) ws.length) (strongB (winsL q ws) ws.length) (ws.length : Int) both (m : Int) (setN m) ((winsL q ws).getD m false) e (i : Int) q ws) true := by
  have h9 := hc.l9
  have hp := hc.pow
  have hwl := winsL_length q ws
  have hoL := ord_take hc (leastB (winsL q ws) ws.length)
  have hoG := ord_take hc (greatB (winsL q ws) ws.length)
  intro d
  induction d with
  | zero =>
    intro i e h he
    have hi : i = ws.length := by omega
    subst hi
    refine ev_step ?_
    simp only [laws_FnLeastSetsWin.l2]
    have hml := laws_mIn.ev (leL q ws) (setN m) (by unfold leL; have := hoL.1; omega) (fun x hx => by have := hoL.2.1 x hx; omega)
    have hmg := laws_mIn.ev (grL q ws) (setN m) (by unfold grL; have := hoG.1; omega) (fun x hx => by have := hoG.2.1 x hx; omega)
    have e1 : (leL q ws).contains (setN m) = leastB (winsL q ws) ws.length m := sortL_contains (by omega) (by omega)
    have e2 : (grL q ws).contains (setN m) = greatB (winsL q ws) ws.length m := sortL_contains (by omega) (by omega)
    rw [e1] at hml
    rw [e2] at hmg
    rw [ev_neg (by omega)]
    have hj6 : Ev (fun k => laws_FnLeastSetsWin.j6 k l1 (leL q ws) (grL q ws) (properB (winsL q ws) ws.length) (strongB (winsL q ws) ws.length) (ws.length : Int) both (m : Int) false q ws) true := by
      refine ev_step ?_
      simp only [laws_FnLeastSetsWin.j6]
      rw [ev_neg (by decide)]
      exact hnext
    cases hw : (winsL q ws).getD m false with
    | true =>
      have hz : greatB (winsL q ws) ws.length m = false := by unfold greatB; rw [hw]; rfl
      rw [hz] at hmg
      rw [edge_least hw] at he
      rw [ev_pos rfl, ev_bind hml, ev_neg (by rw [he]; simp), ev_bind hmg, ev_neg (by decide)]
      exact hj6
    | false =>
      have hz : leastB (winsL q ws) ws.length m = false := by unfold leastB; rw [hw]; rfl
      rw [hz] at hml
      rw [edge_great hw] at he
      rw [ev_neg (by decide), ev_bind hmg, ev_neg (by rw [he]; simp), ev_bind hml]
      exact hj6
  | succ d ih =>
    intro i e h he
    refine ev_step ?_
    simp only [laws_FnLeastSetsWin.l2]
    have hi : i < ws.length := by omega
    have hpi : 2 ^ i < 2 ^ ws.length := Nat.pow_lt_pow_right (by omega) hi
    have hx := xor_pow (m := m) (i := i) (by omega) (by omega)
    have hlt : (if bitB m i = true then m - 2 ^ i else m + 2 ^ i) < 2 ^ ws.length := by
      split
      · exact Nat.lt_of_le_of_lt (Nat.sub_le _ _) hm
      · next hb => exact bitB_lt hb hm hi
    have hml := laws_mList.ev (if bitB m i = true then m - 2 ^ i else m + 2 ^ i) ws.length (by omega) hlt
    have hsl : (setN (if bitB m i = true then m - 2 ^ i else m + 2 ^ i)).length ≤ 9223372036854775807 := by
      rw [setN_to hlt (by omega)]
      have := setTo_len (if bitB m i = true then m - 2 ^ i else m + 2 ^ i) ws.length
      omega
    have hw := impl_IsWinning.ev q ws (setN (if bitB m i = true then m - 2 ^ i else m + 2 ^ i)) (by omega) hsl
    rw [(setN_wins hc hlt).1] at hw
    have hih := fun e' he' => ih (i + 1) e' (by omega) he'
    rw [List.range_succ, List.all_append, ← he] at hih
    simp only [List.all_cons, List.all_nil, Bool.and_true] at hih
    rw [show ((i + 1 : Nat) : Int) = (i : Int) + 1 by omega] at hih
    have hm2 : Int.tmod (shr .i64 (m : Int) (i : Int)) 2 = ((m / 2 ^ i % 2 : Nat) : Int) := by rw [shr_nat m i (by omega)]; exact (Int.ofNat_tmod _ 2).symm
    have hj5 : ∀ (w b e' : Bool), e' = (e && !b) → Ev (fun k => laws_FnLeastSetsWin.l2 k l1 (leL q ws) (grL q ws) (properB (winsL q ws) ws.length) (strongB (winsL q ws) ws.length) (ws.length : Int) both (m : Int) (setN m) w e' ((i : Int) + 1) q ws) true → Ev (fun k => laws_FnLeastSetsWin.j5 k l1 (leL q ws) (grL q ws) (properB (winsL q ws) ws.length) (strongB (winsL q ws) ws.length) (ws.length : Int) both (m : Int) (setN m) w e (i : Int) b q ws) true := by
      intro w b e' hbe hE
      refine ev_step ?_
      simp only [laws_FnLeastSetsWin.j5]
      cases b with
      | true =>
        rw [Bool.not_true, Bool.and_false] at hbe
        rw [hbe] at hE
        rw [ev_pos rfl, w64 (x := (i : Int) + 1) (by omega) (by omega)]
        exact hE
      | false =>
        rw [Bool.not_false, Bool.and_true] at hbe
        rw [hbe] at hE
        rw [ev_neg (by decide), w64 (x := (i : Int) + 1) (by omega) (by omega)]
        exact hE
    rw [ev_pos (by omega), ev_pos (by omega), shl_one i (by omega), hx, ev_bind hml, ev_bind hw, ev_pos rfl, hm2]
    cases hwm : (winsL q ws).getD m false with
    | true =>
      have he1 : edgeP (winsL q ws) m i = (!(bitB m i) || !((winsL q ws).getD (m - 2 ^ i) false)) := by unfold edgeP; rw [if_pos hwm]
      rw [he1, hwm] at hih
      rw [ev_pos rfl]
      cases hb : bitB m i with
      | true =>
        have hb2 : m / 2 ^ i % 2 = 1 := by simpa [bitB] using hb
        rw [hb] at hih
        rw [ev_pos (by omega), if_pos rfl]
        cases hv : (winsL q ws).getD (m - 2 ^ i) false with
        | true => rw [ev_pos rfl]; exact hj5 true true false (by simp) (hih false (by rw [hv]; simp))
        | false => rw [ev_neg (by decide)]; exact hj5 true false e (by simp) (hih e (by rw [hv]; simp))
      | false =>
        have hb2 : ¬ m / 2 ^ i % 2 = 1 := by simpa [bitB] using hb
        rw [hb] at hih
        rw [ev_neg (by omega)]
        exact hj5 true false e (by simp) (hih e (by simp))
    | false =>
      have he1 : edgeP (winsL q ws) m i = (bitB m i || (winsL q ws).getD (m + 2 ^ i) false) := by unfold edgeP; rw [hwm, if_neg (by decide)]
      rw [he1, hwm] at hih
      rw [ev_neg (by decide)]
      cases hb : bitB m i with
      | true =>
        have hb2 : m / 2 ^ i % 2 = 1 := by simpa [bitB] using hb
        rw [hb] at hih
        rw [ev_neg (by omega)]
        exact hj5 false false e (by simp) (hih e (by simp))
      | false =>
        have hb2 : ¬ m / 2 ^ i % 2 = 1 := by simpa [bitB] using hb
        rw [hb] at hih
        rw [ev_pos (by omega), if_neg (by decide)]
        cases hv : (winsL q ws).getD (m + 2 ^ i) false with
        | true => exact hj5 false false e (by simp) (hih e (by rw [hv]; simp))
        | false => exact hj5 false true false (by simp) (hih false (by rw [hv]; simp))
theorem laws_FnLeastSetsWin.law_l1 {q : Int} {ws : List Int} (hc : GoodC q ws) (l1 : List Int) (hb : ByteL l1) : ∀ (d m : Nat), m + d = 2 ^ ws.length → Ev (fun k => laws_FnLeastSetsWin.l1 k l1 (leL q ws) (grL q ws) (properB (winsL q ws) ws.length) (strongB (winsL q ws) ws.length) (ws.length : Int) (bothN (winsL q ws) ws.length m : Int) (m : Int) q ws) true := by
  have h9 := hc.l9
  have hp := hc.pow
  have hoL := ord_take hc (leastB (winsL q ws) ws.length)
  have hoG := ord_take hc (greatB (winsL q ws) ws.length)
  intro d
  induction d with
  | zero =>
    intro m h
    have hm : m = 2 ^ ws.length := by omega
    subst hm
    refine ev_step ?_
    simp only [laws_FnLeastSetsWin.l1]
    have hz := bothN_zero (winsL q ws) ws.length
    have hz2 : ((bothN (winsL q ws) ws.length (2 ^ ws.length) : Int) == 0) = (properB (winsL q ws) ws.length && strongB (winsL q ws) ws.length) := by
      rw [← hz, Bool.eq_iff_iff, beq_iff_eq, decide_eq_true_eq]
      omega
    have hj7 : Ev (fun k => laws_FnLeastSetsWin.j7 k l1 (leL q ws) (grL q ws) false) true := by
      refine ev_step ?_
      simp only [laws_FnLeastSetsWin.j7]
      rw [ev_neg (by decide)]
      exact laws_FnLeastSetsWin.law_l3 l1 hb (leL q ws) (grL q ws) hoL hoG (leL q ws).length 1 (by omega) (Nat.le_refl _)
    rw [ev_pos (by omega), shl_one ws.length (by omega), ev_neg (by omega), hz2]
    cases hpr : properB (winsL q ws) ws.length with
    | true =>
      rw [ev_pos rfl, Bool.true_and, bne_self_eq_false]
      exact hj7
    | false =>
      rw [ev_neg (by decide), Bool.false_and, bne_self_eq_false]
      exact hj7
  | succ d ih =>
    intro m h
    have hm : m < 2 ^ ws.length := by omega
    refine ev_step ?_
    simp only [laws_FnLeastSetsWin.l1]
    have hih := ih (m + 1) (by omega)
    have hble := bothN_le (winsL q ws) ws.length m
    have hml := laws_mList.ev m ws.length (by omega) hm
    have hsl : (setN m).length ≤ 9223372036854775807 := by
      rw [setN_to hm (by omega)]
      have := setTo_len m ws.length
      omega
    have hol : (othI (setN m) ws.length).length ≤ 9223372036854775807 := by have := takeI_len (fun i => !((setN m).contains (i : Int))) ws.length; unfold othI; omega
    have hw := impl_IsWinning.ev q ws (setN m) (by omega) hsl
    have hw2 := impl_IsWinning.ev q ws (othI (setN m) ws.length) (by omega) hol
    rw [(setN_wins hc hm).1] at hw
    rw [(setN_wins hc hm).2] at hw2
    have hj3 : ∀ b : Int, b = bothN (winsL q ws) ws.length (m + 1) → Ev (fun k => laws_FnLeastSetsWin.j3 k l1 (leL q ws) (grL q ws) (properB (winsL q ws) ws.length) (strongB (winsL q ws) ws.length) (ws.length : Int) b (m : Int) (setN m) ((winsL q ws).getD m false) q ws) true := by
      intro b hb
      refine ev_step ?_
      simp only [laws_FnLeastSetsWin.j3]
      refine laws_FnLeastSetsWin.law_l2 hc l1 m hm b ?_ ws.length 0 true (by omega) rfl
      rw [w64 (by omega) (by omega), hb]
      exact hih
    have hj2 : Ev (fun k => laws_FnLeastSetsWin.j2 k l1 (leL q ws) (grL q ws) (properB (winsL q ws) ws.length) (strongB (winsL q ws) ws.length) (ws.length : Int) (bothN (winsL q ws) ws.length m : Int) (m : Int) (setN m) ((winsL q ws).getD m false) ((winsL q ws).getD (2 ^ ws.length - 1 - m) false) false q ws) true := by
      refine ev_step ?_
      simp only [laws_FnLeastSetsWin.j2]
      have hs := bothN_succ (winsL q ws) ws.length m
      rw [ev_neg (by decide)]
      by_cases c : ((winsL q ws).getD m false == (winsL q ws).getD (2 ^ ws.length - 1 - m) false) = true
      · rw [if_pos c] at hs
        rw [ev_pos c, w64 (by omega) (by omega)]
        exact hj3 _ (by omega)
      · rw [if_neg c] at hs
        rw [ev_neg c]
        exact hj3 _ (by omega)
    rw [ev_pos (by omega), shl_one ws.length (by omega), ev_pos (by omega), ev_bind hml, ev_bind hw, ev_bind (laws_mOthers.ev (setN m) ws.length hsl (by omega)), ev_bind hw2, ev_pos rfl, ev_pos rfl]
    have hpp : properB (winsL q ws) ws.length = true → propP (winsL q ws) ws.length m = true := fun h => List.all_eq_true.1 h m (List.mem_range'_1.2 (by omega))
    have hss : strongB (winsL q ws) ws.length = true → stroP (winsL q ws) ws.length m = true := fun h => List.all_eq_true.1 h m (List.mem_range'_1.2 (by omega))
    unfold propP at hpp
    unfold stroP at hss
    cases h1 : (winsL q ws).getD m false <;> cases h2 : (winsL q ws).getD (2 ^ ws.length - 1 - m) false <;> rw [h1, h2] at hpp hss hj2
    · have hst : strongB (winsL q ws) ws.length = false := by cases h : strongB (winsL q ws) ws.length with | false => rfl | true => exact absurd (hss h) (by decide)
      rw [ev_neg (by decide), ev_neg (by decide)]
      rw [hst] at hj2 ⊢
      exact hj2
    · rw [ev_neg (by decide), ev_pos rfl]
      exact hj2
    · rw [ev_pos rfl, ev_neg (by decide)]
      exact hj2
    · have hpr : properB (winsL q ws) ws.length = false := by cases h : properB (winsL q ws) ws.length with | false => rfl | true => exact absurd (hpp h) (by decide)
      rw [ev_pos rfl, ev_pos rfl, ev_neg (by rw [hpr]; decide)]
      exact hj2
theorem laws_FnLeastSetsWin.law_l0 {q : Int} {ws : List Int} (hc : GoodC q ws) (l1 : List Int) (hb : ByteL l1) : ∀ (d i : Nat), i + d = ws.length + 1 → Ev (fun k => laws_FnLeastSetsWin.l0 k l1 (leL q ws) (grL q ws) (cntW (winsL q ws)) (properB (winsL q ws) ws.length) (strongB (winsL q ws) ws.length) (ws.length : Int) (cntU (winsL q ws) i : Int) (i : Int) q ws) true := by
  have h9 := hc.l9
  have hp := hc.pow
  have hg := (good_iff q ws).2 hc
  have hwl := winsL_length q ws
  intro d
  induction d with
  | zero =>
    intro i h
    have hi : i = ws.length + 1 := by omega
    subst hi
    refine ev_step ?_
    simp only [laws_FnLeastSetsWin.l0]
    rw [ev_neg (by omega), cntU_all (winsL q ws) ws.length hwl h9, ev_pos rfl]
    exact laws_FnLeastSetsWin.law_l1 hc l1 hb (2 ^ ws.length) 0 (by omega)
  | succ d ih =>
    intro i h
    refine ev_step ?_
    simp only [laws_FnLeastSetsWin.l0]
    have hih := ih (i + 1) (by omega)
    have hs := cntU_succ (winsL q ws) i
    have hle := cntU_le (winsL q ws) (i + 1)
    have hof := impl_CountWinningOf.ev q ws (i : Int) (by omega)
    have e : cwoV q ws (i : Int) = (cntO (winsL q ws) (i : Int), true) := by
      rw [cwoV, if_pos (by rw [hg, decide_eq_true (by omega), decide_eq_true (by omega)]; rfl)]
    rw [e] at hof
    rw [hs, show ((i + 1 : Nat) : Int) = (i : Int) + 1 by omega] at hih
    have hc0 : 0 ≤ cntO (winsL q ws) (i : Int) := by unfold cntO; omega
    rw [ev_pos (by omega), ev_bind hof, ev_pos rfl, w64 (by omega) (by omega), w64 (by omega) (by omega)]
    exact hih
theorem laws_FnLeastSetsWin.law (l0 l1 : List Int) (ok0 : OkBL l0) (ok1 : OkBL l1) : Ev (fun k => laws_FnLeastSetsWin.f k l0 l1) true := by
  simp only [laws_FnLeastSetsWin.f]
  rcases laws_big.cases l0 l1 with ⟨b, hbg, rfl⟩ | ⟨hbg, h0, h1⟩
  · rw [ev_bind (ev_of hbg), ev_pos rfl, ev_now]
  have hb := ByteL.of ok1 h1
  obtain ⟨q, ws, hdr, hDC⟩ := spec_DrawLeastWinning.ex (ByteL.of ok0 h0)
  have hl : ws.length ≤ 9223372036854775807 := Nat.le_trans hDC.l10 (by decide)
  have f1 := lwV_few q ws
  have f2 := glV_few q ws
  have f3 := lbV_few q ws
  have s1 := laws_mSets.ev (lwV q ws).1 (lwV q ws).1 (by omega) (fun x hx => by have := f1.2 x hx; omega)
  have s2 := laws_mSets.ev (glV q ws).1 (glV q ws).1 (by omega) (fun x hx => by have := f2.2 x hx; omega)
  have s3 := laws_mSets.ev (lbV q ws).1 (lbV q ws).1 (by omega) (fun x hx => by have := f3.2 x hx; omega)
  rw [decide_eq_true rfl] at s1 s2 s3
  have b1 : (lwV q ws).2 = goodB q ws := by unfold lwV; split <;> simp_all
  have b2 : (glV q ws).2 = goodB q ws := by unfold glV; split <;> simp_all
  have b3 : (lbV q ws).2 = goodB q ws := by unfold lbV; split <;> simp_all
  have b4 : (cwV q ws).2 = goodB q ws := by unfold cwV; split <;> simp_all
  have b5 : (prV q ws).2 = goodB q ws := by unfold prV; split <;> simp_all
  have b6 : (stV q ws).2 = goodB q ws := by unfold stV; split <;> simp_all
  rw [ev_bind (ev_of hbg), ev_neg (by decide), ev_bind hdr]
  dsimp only
  rw [ev_bind (impl_LeastWinning.ev q ws hl), ev_bind (spec_LeastWinning.ev q ws hl), ev_bind (impl_GreatestLosing.ev q ws hl), ev_bind (spec_GreatestLosing.ev q ws hl), ev_bind (impl_LeastBlocking.ev q ws hl), ev_bind (spec_LeastBlocking.ev q ws hl), ev_bind (impl_CountWinning.ev q ws hl), ev_bind (spec_CountWinning.ev q ws hl), ev_bind (impl_IsProper.ev q ws hl), ev_bind (spec_IsProper.ev q ws hl), ev_bind (impl_IsStrong.ev q ws hl), ev_bind (spec_IsStrong.ev q ws hl), ev_neg (by simp), ev_bind s1, ev_pos rfl, ev_neg (by simp), ev_bind s2, ev_pos rfl, ev_neg (by simp), ev_bind s3, ev_pos rfl, ev_neg (by simp), ev_pos rfl, ev_neg (by simp), ev_neg (by simp), ev_neg (by simp), ev_neg (by simp), ev_neg (by rw [b1, b2]; simp), ev_neg (by rw [b1, b3]; simp), ev_neg (by rw [b1, b4]; simp), ev_neg (by rw [b1, b5]; simp), ev_neg (by rw [b1, b6]; simp), ev_bind (impl_IsCommittee.ev q ws hl), ev_neg (by rw [b1]; simp), b1]
  cases hg : goodB q ws with
  | false =>
    rw [ev_neg (by decide)]
    exact laws_FnLeastSetsWin.law_end l1 hb
  | true =>
    have hc := (good_iff q ws).1 hg
    have h9 := hc.l9
    have hp := hc.pow
    have hsum := hc.sum
    have hq1 := hc.q1
    have hqs := hc.qs
    have hwl := winsL_length q ws
    have hd := dual_good hc
    have e1 : lwV q ws = (leL q ws, true) := by rw [lwV, if_pos hg]; rfl
    have e2 : glV q ws = (grL q ws, true) := by rw [glV, if_pos hg]; rfl
    have e3 : cwV q ws = (cntW (winsL q ws), true) := by rw [cwV, if_pos hg]
    have e4 : prV q ws = (properB (winsL q ws) ws.length, true) := by rw [prV, if_pos hg]
    have e5 : stV q ws = (strongB (winsL q ws) ws.length, true) := by rw [stV, if_pos hg]
    have d1 := impl_DualCommittee.ev q ws hl
    have d2 := impl_LeastWinning.ev (ws.sum - q + 1) ws hl
    have d3 := impl_DualCommittee.ev (ws.sum - q + 1) ws hl
    have d4 := impl_IsStrong.ev (ws.sum - q + 1) ws hl
    have d5 := impl_CountWinning.ev (ws.sum - q + 1) ws hl
    have e6 : lwV (ws.sum - q + 1) ws = lbV q ws := by rw [lwV, lbV, if_pos hd, if_pos hg, show ws.sum - q + 1 = ws.sum + 1 - q by omega]
    rw [dualC, if_pos hg] at d1
    rw [dualC, if_pos hd, show ws.sum - (ws.sum - q + 1) + 1 = q by omega] at d3
    rw [e6] at d2
    rw [stV, if_pos hd, strong_dual hc] at d4
    rw [cwV, if_pos hd, cntW_dual hc] at d5
    have hcb := cntW_bounds (winsL q ws)
    have hlen1 : 1 ≤ (leL q ws).length := by
      obtain ⟨m, h1, h2, _⟩ := least_sub (winsL q ws) ws.length (2 ^ ws.length - 1) (by omega) (wins_full hc)
      have : setN m ∈ leL q ws := (Go.Proofs.YtamfpkefnhcngaaGreatS.sortL_perm _).mem_iff.2 (List.mem_map.2 ⟨m, List.mem_filter.2 ⟨List.mem_range.2 (by omega), h2⟩, rfl⟩)
      exact List.length_pos_of_mem this
    have hlen2 : 1 ≤ (grL q ws).length := by
      obtain ⟨m, h1, h2⟩ := great_some (winsL q ws) ws.length hwl (wins_none hc)
      have : setN m ∈ grL q ws := (Go.Proofs.YtamfpkefnhcngaaGreatS.sortL_perm _).mem_iff.2 (List.mem_map.2 ⟨m, List.mem_filter.2 ⟨List.mem_range.2 (by omega), h2⟩, rfl⟩)
      exact List.length_pos_of_mem this
    have hl0 := laws_FnLeastSetsWin.law_l0 hc l1 hb (ws.length + 1) 0 (by omega)
    rw [cntU_zero] at hl0
    rw [ev_pos rfl, ev_bind d1, ev_bind d2, ev_bind d3, ev_bind d4, ev_bind d5, ev_pos rfl, ev_pos (by rw [b3, hg]), ev_bind s3, ev_pos rfl, ev_pos rfl, ev_bind (laws_mCommittee.ev_same q ws hl), ev_pos rfl, ev_pos rfl, e1, e2, e3, e4, e5, ev_neg (by simp), ev_pos rfl, ev_pos (by rw [shl_one ws.length (by omega), w64 (by omega) (by omega)]), ev_neg (by show ¬ ((leL q ws).length : Int) < 1; omega), ev_neg (by show ¬ ((grL q ws).length : Int) < 1; omega)]
    exact hl0
end Go.Proofs.YtamfpkefnhcngaaGreat.Q
