/- Printed functions, their contracts and plain facts on them: PAndNot; PSetOf; PVotesLeast; PLeastSetCounts; PLFnExactLeastSetCounts; O. Conditions: as each theorem states. -/
import Derived.Deep.Slices
import Derived.Lib.SmallJoins
import Derived.OpenShut
import Derived.ShutString
import Derived.ChangeArms
import Derived.ChangeOld
import Derived.Test.YticnoiflccbhcaaWWords
import Derived.Test.YticnoiflccbhcaaGLeastSetCountsx0
import Derived.Test.YticnoiflccbhcaaGLeastSetCountsx2
import Derived.Test.YticnoiflccbhcaaGLeastSetCountsx1
namespace Go.Proofs.Yticnoiflccbhcaa.Q
open Go.RowKit Go.Proofs.YticnoiflccbhcaaW.PrintWords Go.Proofs.YticnoiflccbhcaaW.PrintLast Go.Proofs.YticnoiflccbhcaaW.PrintMore Go.Proofs.YticnoiflccbhcaaM
set_option linter.unusedVariables false
set_option linter.unusedSimpArgs false
theorem andNot_pow (m i : Nat) (hm : m < 2 ^ 62) (hi : i ≤ 61) (h : bitB m i = true) : Go.bits .andNot .i64 (m : Int) ((2 ^ i : Nat) : Int) = ((m - 2 ^ i : Nat) : Int) := by
  have hp : 2 ^ i ≤ 2 ^ 61 := Nat.pow_le_pow_right (by omega) hi
  have hb : m / 2 ^ i % 2 = 1 := by simpa [bitB] using h
  have hmi : m - 2 ^ i < 2 ^ 62 := Nat.lt_of_le_of_lt (Nat.sub_le _ _) hm
  have key : m &&& (2 ^ 64 - 1 - 2 ^ i) = m - 2 ^ i := by
    have hge : 2 ^ i ≤ m := by
      rcases Nat.lt_or_ge m (2 ^ i) with h1 | h1
      · rw [Nat.div_eq_of_lt h1] at hb; omega
      · exact h1
    have h0 : (m - 2 ^ i) / 2 ^ i % 2 = 0 := by
      have e : m = (m - 2 ^ i) + 2 ^ i := by omega
      have e2 : m / 2 ^ i = (m - 2 ^ i) / 2 ^ i + 1 := by
        conv => lhs; rw [e]
        exact Nat.add_div_right _ (Nat.two_pow_pos i)
      omega
    have hor := or_pow i (m - 2 ^ i) h0
    rw [Nat.sub_add_cancel hge] at hor
    apply Nat.eq_of_testBit_eq
    intro j
    rw [Nat.testBit_and, show 2 ^ 64 - 1 - 2 ^ i = 2 ^ 64 - (2 ^ i + 1) by omega, Nat.testBit_two_pow_sub_succ (by omega : 2 ^ i < 2 ^ 64)]
    have hmj : m.testBit j = ((m - 2 ^ i).testBit j || (2 ^ i).testBit j) := by rw [← Nat.testBit_or, hor]
    by_cases e : j = i
    · subst e
      have : (m - 2 ^ j).testBit j = false := by
        rw [Nat.testBit_eq_decide_div_mod_eq, h0]
        rfl
      rw [this, Nat.testBit_two_pow_self]
      simp
    · have h2 : (2 ^ i).testBit j = false := Nat.testBit_two_pow_of_ne (fun h => e h.symm)
      rw [hmj, h2]
      by_cases hj : j < 64
      · simp [hj]
      · have : (m - 2 ^ i).testBit j = false := Nat.testBit_lt_two_pow (Nat.lt_of_lt_of_le hmi (Nat.pow_le_pow_right (by omega) (by omega)))
        rw [this]
        simp
  have hbv : ((BitVec.ofInt 64 (m : Int)) &&& ~~~(BitVec.ofInt 64 ((2 ^ i : Nat) : Int))).toNat = m - 2 ^ i := by
    rw [BitVec.toNat_and, BitVec.toNat_not, BitVec.ofInt_natCast, BitVec.ofInt_natCast, BitVec.toNat_ofNat, BitVec.toNat_ofNat, Nat.mod_eq_of_lt (by omega : m < 2 ^ 64), Nat.mod_eq_of_lt (by omega : 2 ^ i < 2 ^ 64)]
    exact key
  show IntKind.i64.wrap (((BitVec.ofInt 64 (m : Int)) &&& ~~~(BitVec.ofInt 64 ((2 ^ i : Nat) : Int))).toNat : Int) = _
  rw [hbv]
  exact (fun (x : Nat) (hx : x < 2 ^ 62) => i64_wrap (x := (x : Int)) (by omega) (by omega)) (m - 2 ^ i) hmi
end Go.Proofs.Yticnoiflccbhcaa.Q

namespace Go.Proofs.Yticnoiflccbhcaa.Q
open Go.RowKit Go.Proofs.YticnoiflccbhcaaW.PrintWords Go.Proofs.YticnoiflccbhcaaW.PrintLast Go.Proofs.YticnoiflccbhcaaW.PrintMore Go.Proofs.YticnoiflccbhcaaM
set_option linter.unusedVariables false
set_option linter.unusedSimpArgs false
theorem impl_setOf.ev_l (m : Nat) (hm : m < 2 ^ 62) : ∀ (d i : Nat), i + d = 62 → Ev (fun k => impl_setOf.l0 k (m : Int) (setTo m i) (i : Int)) (setN m) := by
  intro d
  induction d with
  | zero =>
    intro i h
    refine ev_step ?_
    simp only [impl_setOf.l0]
    have e : m / 2 ^ i = 0 := by rw [show i = 62 by omega]; exact Nat.div_eq_of_lt hm
    rw [ev_pos (by omega), shr_nat m i (by omega), e, ev_neg (by omega), ev_now, setTo_done e (by omega)]
  | succ d ih =>
    intro i h
    refine ev_step ?_
    simp only [impl_setOf.l0]
    have hlt : m / 2 ^ i < 2 ^ 62 := Nat.lt_of_le_of_lt (Nat.div_le_self _ _) hm
    have hl := setTo_len m i
    rw [ev_pos (by omega), shr_nat m i (by omega), w64 (by omega) (by omega)]
    by_cases e : m / 2 ^ i = 0
    · rw [ev_neg (by omega), ev_now, setTo_done e (by omega)]
    · rw [ev_pos (Int.natCast_pos.2 (Nat.pos_of_ne_zero e)), and_one _ hlt]
      have := ih (i + 1) (by omega)
      rw [setTo_succ] at this
      by_cases hb : m / 2 ^ i % 2 = 1
      · rw [if_pos (by simp [bitB, hb])] at this
        rw [ev_pos (by rw [hb]; rfl), ev_pos (by omega)]
        exact this
      · rw [if_neg (by simp [bitB]; omega)] at this
        rw [ev_neg (c := ((m / 2 ^ i % 2 : Nat) : Int) = 1) (fun h_ => hb (Int.ofNat_inj.1 h_))]
        exact this
theorem impl_setOf.ev (m : Nat) (hm : m < 2 ^ 62) : Ev (fun k => impl_setOf.f k (m : Int)) (setN m) := impl_setOf.ev_l m hm 62 0 (by omega)
end Go.Proofs.Yticnoiflccbhcaa.Q

namespace Go.Proofs.Yticnoiflccbhcaa.Q
open Go.RowKit Go.Proofs.YticnoiflccbhcaaW.PrintWords Go.Proofs.YticnoiflccbhcaaW.PrintLast Go.Proofs.YticnoiflccbhcaaW.PrintMore Go.Proofs.YticnoiflccbhcaaM
set_option linter.unusedVariables false
set_option linter.unusedSimpArgs false
theorem impl_votes_isLeast.ev_l (W : List Bool) (n m : Nat) (hW : W.length = 2 ^ n) (hn : n ≤ 18) (hm : m < 2 ^ n) : ∀ (d i : Nat), i + d = n → Ev (fun k => impl_votes_isLeast.l0 k (m : Int) (n : Int) (i : Int) (n : Int) W) ((List.range' i d).all fun i => !(bitB m i) || !(W.getD (m - 2 ^ i) false)) := by
  have hp : 2 ^ n ≤ 2 ^ 18 := Nat.pow_le_pow_right (by omega) hn
  intro d
  induction d with
  | zero =>
    intro i h
    refine ev_step ?_
    simp only [impl_votes_isLeast.l0]
    rw [ev_neg (by omega), ev_now]
    rfl
  | succ d ih =>
    intro i h
    refine ev_step ?_
    simp only [impl_votes_isLeast.l0]
    have hih := ih (i + 1) (by omega)
    rw [ev_pos (by omega), ev_bind (ev_of (show impl_has.f (m : Int) (i : Int) = some (bitB m i) from impl_has.v m i (by omega) (by omega))), w64 (by omega) (by omega), List.range'_succ, List.all_cons]
    by_cases hb : bitB m i = true
    · have hpi : 2 ^ i ≤ 2 ^ n := Nat.pow_le_pow_right (by omega) (by omega)
      have hsub : m - 2 ^ i < W.length := by rw [hW]; exact Nat.lt_of_le_of_lt (Nat.sub_le _ _) hm
      rw [ev_pos hb, ev_pos (by omega), shl_one i (by omega), andNot_pow m i (by omega) (by omega) hb, ev_pos (Int.natCast_nonneg _), ev_pos (Int.ofNat_lt.2 hsub), rdOf_nat, hb]
      cases hw : W.getD (m - 2 ^ i) false with
      | true =>
        rw [ev_pos rfl, ev_now]
        rfl
      | false =>
        rw [ev_neg (by decide)]
        exact hih
    · rw [ev_neg hb, Bool.eq_false_iff.2 hb]
      exact hih
theorem impl_votes_isLeast.ev (W : List Bool) (n m : Nat) (hW : W.length = 2 ^ n) (hn : n ≤ 18) (hm : m < 2 ^ n) : Ev (fun k => impl_votes_isLeast.f k (n : Int) W (m : Int)) (leastB W n m) := by
  simp only [impl_votes_isLeast.f]
  rw [ev_pos (by omega), ev_pos (by omega), rdOf_nat, leastB]
  cases hw : W.getD m false with
  | true =>
    rw [ev_pos rfl, Bool.true_and, List.range_eq_range']
    exact impl_votes_isLeast.ev_l W n m hW hn hm n 0 (by omega)
  | false =>
    rw [ev_neg (by decide), ev_now]
    rfl
theorem impl_votes_sets.at_l (W : List Bool) (hW : W.length ≤ 1000000) (P : Int → Option Bool) (p : Nat → Bool) (K : Nat) (hP : ∀ m, m < W.length → P (m : Int) = some (p m)) (hS : ∀ k, K ≤ k → ∀ m, m < W.length → impl_setOf.f k (m : Int) = some (setN m)) : ∀ (d i k : Nat), i + d = W.length → K + d < k → impl_votes_sets.l0 k P W (takeL p i) (i : Int) = some (takeL p W.length) := by
  intro d
  induction d with
  | zero =>
    intro i k h hk
    obtain ⟨k, rfl⟩ : ∃ j, k = j + 1 := ⟨k - 1, by omega⟩
    simp only [impl_votes_sets.l0]
    rw [if_neg (by omega), show i = W.length by omega]
  | succ d ih =>
    intro i k h hk
    obtain ⟨k, rfl⟩ : ∃ j, k = j + 1 := ⟨k - 1, by omega⟩
    have hi : i < W.length := by omega
    have hl := takeL_len p i
    have hih := ih (i + 1) k (by omega) (by omega)
    rw [takeL_succ] at hih
    simp only [impl_votes_sets.l0]
    rw [if_pos (by omega), hP i hi, Option.bind_some, w64 (by omega) (by omega), hS k (by omega) i hi, Option.bind_some]
    cases hp : p i with
    | true =>
      rw [hp, if_pos rfl] at hih
      rw [if_pos rfl, if_pos (by omega)]
      exact hih
    | false =>
      rw [hp, if_neg (by decide)] at hih
      rw [if_neg (by decide)]
      exact hih
theorem impl_votes_sets.ev (W : List Bool) (hW : W.length ≤ 1000000) (P : Nat → Int → Option Bool) (p : Nat → Bool) (hP : ∀ m, m < W.length → Ev (fun k => P k (m : Int)) (p m)) : Ev (fun k => impl_votes_sets.g k W (P k)) (Go.Proofs.YticnoiflccbhcaaS.sortL (takeL p W.length)) := by
  obtain ⟨K1, h1⟩ := ev_all W.length (fun k m => P k (m : Int)) p hP
  obtain ⟨K2, h2⟩ := ev_all W.length (fun k m => impl_setOf.f k (m : Int)) setN (fun m hm => impl_setOf.ev m (by omega))
  refine ⟨max K1 (K2 + W.length + 1), fun k hk => ?_⟩
  have hl := takeL_len p W.length
  simp only [impl_votes_sets.g]
  rw [show impl_votes_sets.l0 k (P k) W [] 0 = some (takeL p W.length) from impl_votes_sets.at_l W hW (P k) p K2 (fun m hm => h1 k (by omega) m hm) h2 W.length 0 k (by omega) (by omega), Option.bind_some, if_pos (by omega)]
theorem impl_votes_least.ev (W : List Bool) (n : Nat) (hW : W.length = 2 ^ n) (hn : n ≤ 18) : Ev (fun k => impl_votes_least.f k (n : Int) W) (Go.Proofs.YticnoiflccbhcaaS.sortL (takeL (leastB W n) W.length)) := by
  have hp : 2 ^ n ≤ 2 ^ 18 := Nat.pow_le_pow_right (by omega) hn
  exact impl_votes_sets.ev W (by omega) (fun k x => impl_votes_isLeast.f k (n : Int) W x) (leastB W n) (fun m hm => impl_votes_isLeast.ev W n m hW hn (by omega))
theorem sortL_in {P : Nat → Bool} {n N : Nat} (hN : N ≤ 2 ^ n) (hn : n ≤ 62) : ∀ x ∈ Go.Proofs.YticnoiflccbhcaaS.sortL (takeL P N), x.length ≤ n ∧ ∀ y ∈ x, 0 ≤ y ∧ y < (n : Int) := by
  intro x hx
  obtain ⟨a, ha, _, rfl⟩ := takeL_mem x ((Go.Proofs.YticnoiflccbhcaaS.sortL_perm _).mem_iff.1 hx)
  rw [setN_to (m := a) (n := n) (by omega) hn]
  exact ⟨setTo_len a n, fun y hy => by have := setTo_in y hy; omega⟩
theorem sortL_len (xs : List (List Int)) : (Go.Proofs.YticnoiflccbhcaaS.sortL xs).length = xs.length := (Go.Proofs.YticnoiflccbhcaaS.sortL_perm xs).length_eq
end Go.Proofs.Yticnoiflccbhcaa.Q

namespace Go.Proofs.Yticnoiflccbhcaa.Q
open Go.RowKit Go.Proofs.YticnoiflccbhcaaW.PrintWords Go.Proofs.YticnoiflccbhcaaW.PrintLast Go.Proofs.YticnoiflccbhcaaW.PrintMore Go.Proofs.YticnoiflccbhcaaM
set_option linter.unusedVariables false
set_option linter.unusedSimpArgs false
/-- How often each number stands in a row, in rows. -/
def countR (s : List Int) (acc : List Int) : List Int := s.foldl (fun acc x => acc.set x.toNat (wrap64 (rd acc x + 1))) acc
def countL (L : List (List Int)) (acc : List Int) : List Int := L.foldl (fun acc s => countR s acc) acc
theorem countR_len (s : List Int) : ∀ acc : List Int, (countR s acc).length = acc.length := by
  induction s with
  | nil => intro acc; rfl
  | cons x s ih =>
    intro acc
    show (countR s _).length = _
    rw [ih, List.length_set]
theorem countL_len (L : List (List Int)) : ∀ acc : List Int, (countL L acc).length = acc.length := by
  induction L with
  | nil => intro acc; rfl
  | cons s L ih =>
    intro acc
    show (countL L _).length = _
    rw [ih, countR_len]
theorem impl_votes_leastCounts.ev_l1 (L : List (List Int)) (hL : L.length ≤ 1000000) (N i : Nat) (hi : i < L.length) (hs : L[i].length ≤ 1000000) (hx : ∀ x ∈ L[i], 0 ≤ x ∧ x < (N : Int)) (R : List Int) : ∀ (d j : Nat) (acc : List Int), j + d = L[i].length → acc.length = N → Ev (fun k => impl_votes_leastCounts.l0 k (countR (L[i].drop j) acc) L (L.length : Int) ((i : Int) + 1)) R → Ev (fun k => impl_votes_leastCounts.l1 k acc L (L.length : Int) (i : Int) L[i] (L[i].length : Int) (j : Int)) R := by
  intro d
  induction d with
  | zero =>
    intro j acc h ha hn
    refine ev_step ?_
    simp only [impl_votes_leastCounts.l1]
    rw [List.drop_of_length_le (by omega)] at hn
    rw [ev_neg (by omega), w64i (i := (i : Int)) (n := L.length) (by omega) (by omega) (by omega)]
    exact hn
  | succ d ih =>
    intro j acc h ha hn
    refine ev_step ?_
    simp only [impl_votes_leastCounts.l1]
    have hj : j < L[i].length := by omega
    have hxj := hx _ (List.getElem_mem hj)
    rw [List.drop_eq_getElem_cons hj] at hn
    rw [ev_pos (by omega), ev_pos (by omega), ev_pos (by omega), rd_lt L[i] j hj, ev_pos hxj.1, ev_pos (by omega), w64i (i := (j : Int)) (n := L[i].length) (by omega) (by omega) (by omega)]
    exact ih (j + 1) _ (by omega) (by rw [List.length_set]; exact ha) hn
theorem impl_votes_leastCounts.ev_l0 (L : List (List Int)) (hL : L.length ≤ 1000000) (N : Nat) (hs : ∀ s ∈ L, s.length ≤ 1000000 ∧ ∀ x ∈ s, 0 ≤ x ∧ x < (N : Int)) : ∀ (d i : Nat) (acc : List Int), i + d = L.length → acc.length = N → Ev (fun k => impl_votes_leastCounts.l0 k acc L (L.length : Int) (i : Int)) (countL (L.drop i) acc) := by
  intro d
  induction d with
  | zero =>
    intro i acc h ha
    refine ev_step ?_
    simp only [impl_votes_leastCounts.l0]
    rw [ev_neg (by omega), ev_now, List.drop_of_length_le (by omega)]
    rfl
  | succ d ih =>
    intro i acc h ha
    refine ev_step ?_
    simp only [impl_votes_leastCounts.l0]
    have hi : i < L.length := by omega
    have hsi := hs _ (List.getElem_mem hi)
    rw [ev_pos (by omega), ev_pos (by omega), ev_pos (by omega), rd_L2_lt L i hi, List.drop_eq_getElem_cons hi]
    refine impl_votes_leastCounts.ev_l1 L hL N i hi hsi.1 hsi.2 _ L[i].length 0 acc (by omega) ha ?_
    rw [List.drop_zero]
    exact ih (i + 1) _ (by omega) (by rw [countR_len]; exact ha)
theorem spec_shCounts.ev_l1 (L : List (List Int)) (hL : L.length ≤ 1000000) (N i : Nat) (hi : i < L.length) (hs : L[i].length ≤ 1000000) (hx : ∀ x ∈ L[i], 0 ≤ x ∧ x < (N : Int)) (R : List Int) : ∀ (d j : Nat) (acc : List Int), j + d = L[i].length → acc.length = N → Ev (fun k => spec_shCounts.l0 k (countR (L[i].drop j) acc) L (L.length : Int) ((i : Int) + 1)) R → Ev (fun k => spec_shCounts.l1 k acc L (L.length : Int) (i : Int) L[i] (L[i].length : Int) (j : Int)) R := by
  intro d
  induction d with
  | zero =>
    intro j acc h ha hn
    refine ev_step ?_
    simp only [spec_shCounts.l1]
    rw [List.drop_of_length_le (by omega)] at hn
    rw [ev_neg (by omega), w64i (i := (i : Int)) (n := L.length) (by omega) (by omega) (by omega)]
    exact hn
  | succ d ih =>
    intro j acc h ha hn
    refine ev_step ?_
    simp only [spec_shCounts.l1]
    have hj : j < L[i].length := by omega
    have hxj := hx _ (List.getElem_mem hj)
    rw [List.drop_eq_getElem_cons hj] at hn
    rw [ev_pos (by omega), ev_pos (by omega), ev_pos (by omega), rd_lt L[i] j hj, ev_pos hxj.1, ev_pos (by omega), w64i (i := (j : Int)) (n := L[i].length) (by omega) (by omega) (by omega)]
    exact ih (j + 1) _ (by omega) (by rw [List.length_set]; exact ha) hn
theorem spec_shCounts.ev_l0 (L : List (List Int)) (hL : L.length ≤ 1000000) (N : Nat) (hs : ∀ s ∈ L, s.length ≤ 1000000 ∧ ∀ x ∈ s, 0 ≤ x ∧ x < (N : Int)) : ∀ (d i : Nat) (acc : List Int), i + d = L.length → acc.length = N → Ev (fun k => spec_shCounts.l0 k acc L (L.length : Int) (i : Int)) (countL (L.drop i) acc) := by
  intro d
  induction d with
  | zero =>
    intro i acc h ha
    refine ev_step ?_
    simp only [spec_shCounts.l0]
    rw [ev_neg (by omega), ev_now, List.drop_of_length_le (by omega)]
    rfl
  | succ d ih =>
    intro i acc h ha
    refine ev_step ?_
    simp only [spec_shCounts.l0]
    have hi : i < L.length := by omega
    have hsi := hs _ (List.getElem_mem hi)
    rw [ev_pos (by omega), ev_pos (by omega), ev_pos (by omega), rd_L2_lt L i hi, List.drop_eq_getElem_cons hi]
    refine spec_shCounts.ev_l1 L hL N i hi hsi.1 hsi.2 _ L[i].length 0 acc (by omega) ha ?_
    rw [List.drop_zero]
    exact ih (i + 1) _ (by omega) (by rw [countR_len]; exact ha)
def countsV (q : Int) (ws : List Int) : List Int × Bool := if goodB q ws = true then (countL (Go.Proofs.YticnoiflccbhcaaS.sortL (takeL (leastB (winsL q ws) ws.length) (winsL q ws).length)) (List.replicate ws.length 0), true) else ([], false)
theorem impl_votes_leastCounts.ev (W : List Bool) (n : Nat) (hW : W.length = 2 ^ n) (hn : n ≤ 18) : Ev (fun k => impl_votes_leastCounts.f k (n : Int) W) (countL (Go.Proofs.YticnoiflccbhcaaS.sortL (takeL (leastB W n) W.length)) (List.replicate n 0)) := by
  have hp : 2 ^ n ≤ 2 ^ 18 := Nat.pow_le_pow_right (by omega) hn
  have hlen := takeL_len (leastB W n) W.length
  simp only [impl_votes_leastCounts.f]
  rw [ev_pos (by omega), ev_pos (by omega), Int.toNat_natCast, ev_bind (impl_votes_least.ev W n hW hn)]
  have := impl_votes_leastCounts.ev_l0 (Go.Proofs.YticnoiflccbhcaaS.sortL (takeL (leastB W n) W.length)) (by rw [sortL_len]; omega) n (fun s hs => by have := sortL_in (n := n) (by omega) (by omega) s hs; exact ⟨by omega, this.2⟩) _ 0 (List.replicate n 0) (Nat.zero_add _) (by simp)
  rw [List.drop_zero] at this
  exact this
theorem impl_LeastSetCounts.ev (q : Int) (ws : List Int) (hl : ws.length ≤ 9223372036854775807) : Ev (fun k => impl_LeastSetCounts.f k q ws) (countsV q ws) := by
  simp only [impl_LeastSetCounts.f]
  rw [ev_bind (impl_IsCommittee.ev q ws hl)]
  unfold countsV
  cases hg : goodB q ws with
  | false => rw [ev_neg (by decide), ev_now, if_neg (by decide)]
  | true =>
    have hc := (good_iff q ws).1 hg
    have h9 := hc.l9
    have hwl := winsL_length q ws
    rw [ev_pos rfl, if_pos rfl, ev_bind (impl_Committee_votes.ev q ws h9 hc.wb), ev_bind (impl_votes_leastCounts.ev (winsL q ws) ws.length hwl (by omega)), ev_now]
theorem spec_shCounts.ev (n : Nat) (hn : n ≤ 1000) (L : List (List Int)) (hL : L.length ≤ 1000000) (hs : ∀ s ∈ L, s.length ≤ 1000000 ∧ ∀ x ∈ s, 0 ≤ x ∧ x < (n : Int)) : Ev (fun k => spec_shCounts.f k (n : Int) L) (countL L (List.replicate n 0)) := by
  simp only [spec_shCounts.f]
  rw [ev_pos (by omega), ev_pos (by omega), Int.toNat_natCast]
  have := spec_shCounts.ev_l0 L hL n hs _ 0 (List.replicate n 0) (Nat.zero_add _) (by simp)
  rw [List.drop_zero] at this
  exact this
theorem spec_LeastSetCounts.ev (q : Int) (ws : List Int) (hl : ws.length ≤ 9223372036854775807) : Ev (fun k => spec_LeastSetCounts.f k q ws) (countsV q ws) := by
  simp only [spec_LeastSetCounts.f]
  rw [ev_bind (spec_voGood.ev q ws hl)]
  unfold countsV
  cases hg : goodB q ws with
  | false => rw [ev_neg (by decide), ev_now, if_neg (by decide)]
  | true =>
    have hc := (good_iff q ws).1 hg
    have h9 := hc.l9
    have hp := hc.pow
    have hwl := winsL_length q ws
    have hlen := takeL_len (leastB (winsL q ws) ws.length) (winsL q ws).length
    rw [ev_pos rfl, if_pos rfl, ev_bind (spec_voWins.ev q ws h9 hc.wb), ev_bind (spec_voLeast.ev (winsL q ws) ws.length hwl (by omega)), ev_bind (spec_shCounts.ev ws.length (by omega) _ (by rw [sortL_len]; omega) (fun s hs => by have := sortL_in (n := ws.length) (by omega) (by omega) s hs; exact ⟨by omega, this.2⟩)), ev_now]
theorem countsV_len (q : Int) (ws : List Int) : (countsV q ws).1.length ≤ 10 := by
  unfold countsV
  split
  · next h =>
    have := ((good_iff q ws).1 h).l9
    rw [countL_len, List.length_replicate]
    omega
  · simp
end Go.Proofs.Yticnoiflccbhcaa.Q

namespace Go.Proofs.Yticnoiflccbhcaa.Q
open Go.RowKit Go.Proofs.YticnoiflccbhcaaW.PrintWords Go.Proofs.YticnoiflccbhcaaW.PrintLast Go.Proofs.YticnoiflccbhcaaW.PrintMore Go.Proofs.YticnoiflccbhcaaM
set_option linter.unusedVariables false
set_option linter.unusedSimpArgs false
theorem laws_FnExactLeastSetCounts.law (q : Int) (ws : List Int) (okq : OkI q) (okws : OkL ws) : Ev (fun k => laws_FnExactLeastSetCounts.f k q ws) true := by
  have hl := okws.len
  simp only [laws_FnExactLeastSetCounts.f, ev_bind (ev_of (laws_szCommittee.v q ws 1048576 (by omega) (by omega)))]
  by_cases hz : (1048576 : Int) - (ws.length : Int) < 0
  · rw [if_pos hz, ev_pos (by omega), ev_now]
  rw [if_neg hz, ev_neg hz]
  have ht := laws_toCommittee.ev q ws (by omega)
  have hs := spec_LeastSetCounts.ev q ws hl
  have hi := impl_LeastSetCounts.ev q ws hl
  have hn := countsV_len q ws
  generalize countsV q ws = r at hs hi hn
  obtain ⟨l1, b1⟩ := r
  have hn' : l1.length ≤ 10 := hn
  have hm := laws_markIntS.ev l1 1 (by omega) (by omega)
  have hh := laws_heldIntS.ev l1.length 1 (by omega) (by omega)
  have he := laws_eqIntS.ev l1 l1 (by omega)
  rw [decide_eq_true rfl] at he
  have he0 := laws_eqCommittee.ev_same q ws (by omega)
  have hm0 := laws_markCommittee.ev q ws 1 (by omega) (by omega)
  have hng : ((1 : Int) + (l1.length : Int) < 0) = False := eq_false (by omega)
  have hng0 : ((1 : Int) + (ws.length : Int) < 0) = False := eq_false (by omega)
  simp only [ev_bind ht, ev_bind hs, ev_bind hi, ev_bind he, if_true]
  refine ev_step ?_
  simp only [laws_FnExactLeastSetCounts.j0, bne_self_eq_false, Bool.false_eq_true, if_false, ev_bind ht, ev_bind he0, ev_bind hm0, ev_bind he, if_true, hng0]
  refine ev_step ?_
  simp only [laws_FnExactLeastSetCounts.j1, bne_self_eq_false, Bool.false_eq_true, if_false, ev_bind ht, ev_bind hi, ev_bind he, ev_bind hm, ev_bind hh, if_true, hng]
  refine ev_step ?_
  simp only [laws_FnExactLeastSetCounts.j2, bne_self_eq_false, Bool.false_eq_true, if_false, ev_bind hh, if_true, hng, ev_now]
end Go.Proofs.Yticnoiflccbhcaa.Q

namespace Go.Proofs.YticnoiflccbhcaaO
open Go.RowKit Go.ChangeShapes Go.WideShapes Go.ChangeAt Go.Proofs.YticnoiflccbhcaaW.PrintWords Go.Proofs.YticnoiflccbhcaaM
section
variable {H : Type} {enc : TypeId × Value → H} {P : Program} {w : World} {α : Type}
/-- One cell of type t reads as a value of kind d. -/
def Reads1 (enc : TypeId × Value → H) (P : Program) (w : World) (t : TypeId) (d : Kd α) (ok : α → Prop) : Prop :=
  ∀ fuel v x, DataW.trod enc P w 0 (fun _ => true) true fuel t [v] = some x → ∃ a, d.K w a [v] ∧ ok a
theorem reads_int {t : TypeId} {k : IntKind} (hu : P.underlying t = some (.int k)) : Reads1 enc P w t (Kd.int k) (fun n => (Lit.int k n).wf = true) := by
  intro fuel v x h
  obtain ⟨n, e, _, hw⟩ := DataW.trod_int hu h
  exact ⟨n, e, hw⟩
theorem reads_slice {t e : TypeId} {d : Kd α} {ok : α → Prop} (hu : P.underlying t = some (.slice e)) (hc : P.cellsOf e = 1) (hs : d.sz = 1) (he : Reads1 enc P w e d ok) :
    Reads1 enc P w t (Kd.slice e d) (fun l => l.length ≤ maxLen ∧ ∀ x ∈ l, ok x) := by
  intro fuel v x h
  rcases Go.Deep.open_slice1 hu hc h with ⟨hcs, _⟩ | ⟨a, len, cap, m, n, V, D, Pl, hcs, _, hl, hm, hmm, _, hx⟩
  · obtain rfl : v = .slice none 0 0 := by simpa using hcs
    refine ⟨[], ⟨none, 0, rfl, Nat.le_refl _, rfl, Nat.zero_le _, fun h => absurd h (Nat.lt_irrefl _)⟩, Nat.zero_le _, fun _ h => by cases h⟩
  · obtain rfl : v = .slice (some a) len cap := by simpa using hcs
    have hlm : len ≤ m := by rw [hmm]; simpa using hl
    have hall : ∀ i, i < len → ∃ b, d.K w b [V i] ∧ ok b := fun i hi => he n (V i) _ (hx i (by omega)).2
    have key : ∀ j, j ≤ len → ∃ l : List α, l.length = j ∧ (∀ i b, l[i]? = some b → d.K w b [V i] ∧ ok b) := by
      intro j
      induction j with
      | zero => exact fun _ => ⟨[], rfl, fun i b h => by simp at h⟩
      | succ j ih =>
        intro hj
        obtain ⟨l, hl1, hl2⟩ := ih (by omega)
        obtain ⟨b, hb⟩ := hall j (by omega)
        refine ⟨l ++ [b], by simp [hl1], fun i c h => ?_⟩
        rcases Nat.lt_or_ge i l.length with hi | hi
        · rw [List.getElem?_append_left hi] at h
          exact hl2 i c h
        · have e : i = l.length := by
            have := (List.getElem?_eq_some_iff.1 h).1
            rw [List.length_append, List.length_singleton] at this
            omega
          subst e
          obtain rfl : b = c := by simpa using h
          rw [hl1]
          exact hb
    obtain ⟨l, hl1, hl2⟩ := key len (Nat.le_refl _)
    subst hl1
    refine ⟨l, ⟨some a, cap, rfl, hl, rfl, by unfold maxLen at hm; omega, fun _ => ⟨a, rfl, fun j p hj => ⟨[V j], by rw [hs]; rfl, (hl2 j p hj).1, fun i u hi => ?_⟩⟩⟩, Nat.le_trans hl hm, fun x hxm => ?_⟩
    · match i, hi with
      | 0, hi =>
        obtain rfl : V j = u := by simpa using hi
        have hj' := (List.getElem?_eq_some_iff.1 hj).1
        rw [hs, Nat.mul_one, Nat.add_zero]
        exact (hx j (by omega)).1
      | i + 1, hi => simp at hi
    · obtain ⟨i, hi, rfl⟩ := List.mem_iff_getElem.1 hxm
      exact (hl2 i _ (List.getElem?_eq_getElem hi)).2
/-- A slice that is an argument. -/
theorem open_slice_arg {r : Reach} {b0 : Nat} {t e : TypeId} {d : Kd α} {ok' : List α → Prop} {v : Value} {dd : DataW H} {ps : List MemPlace} (hu : P.underlying t = some (.slice e)) (hr : Reads1 enc P w t (Kd.slice e d) ok') (hv : Value.okWide P w r b0 t v)
    (h : DataW.Trod enc P w 0 (fun _ => true) true t v dd ps) : ∃ (A : Option Addr) (c : Nat) (l : List α), v = .slice A l.length c ∧ l.length ≤ c ∧ d.C w A l.length l ∧ ok' l := by
  obtain ⟨a, len, cap, rfl⟩ := okWide_slice hu hv
  obtain ⟨fuel, hf⟩ := h
  obtain ⟨l, ⟨A, c, hcs, hlc, hC⟩, ho⟩ := hr fuel _ _ hf
  exact ⟨A, c, l, by simpa using hcs, hlc, hC, ho⟩
end
end Go.Proofs.YticnoiflccbhcaaO
