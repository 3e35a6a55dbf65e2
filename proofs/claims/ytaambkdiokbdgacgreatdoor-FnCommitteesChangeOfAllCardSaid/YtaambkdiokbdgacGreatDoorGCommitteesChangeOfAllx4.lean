/- Printed functions, their contracts and plain facts on them: PAndNot; PSetOf; PVotesLeast; PSortFew; PLeastWinning; PIdle; PMFuncs; PRdL2; PMSets; PDecimal; PTextB; PL1In; PVoSum; PVoGood; PNumText; PSperner; PSetFacts; P. Conditions: as each theorem states. -/
import Derived.Test.YtaambkdiokbdgacGreatDoorGCommitteesChangeOfAllx1
import Derived.Test.YtaambkdiokbdgacGreatDoorGCommitteesChangeOfAllx3
import Derived.Test.YtaambkdiokbdgacGreatDoorGCommitteesChangeOfAllx2
set_option maxHeartbeats 40000000
set_option maxRecDepth 100000
namespace Go.Proofs.YtaambkdiokbdgacGreatDoor.Q
open Go.RowKit Go.Proofs.YtaambkdiokbdgacGreatDoorW.PrintWords Go.Proofs.YtaambkdiokbdgacGreatDoorW.PrintLast Go.Proofs.YtaambkdiokbdgacGreatDoorW.PrintMore Go.Proofs.YtaambkdiokbdgacGreatDoorM
set_option linter.unusedVariables false
set_option linter.unusedSimpArgs false
theorem andNot_pow (m i : Nat) (hm : m < 2 ^ 62) (hi : i ≤ 61) (h : bitB m i = true) : Go.bits .andNot .i64 (m : Int) ((2 ^ i : Nat) : Int) = ((m - 2 ^ i : Nat) : Int) := by
  have hp : 2 ^ i ≤ 2 ^ 61 := Nat.pow_le_pow_right (by omega) hi
  have hb : m / 2 ^ i % 2 = 1 := by simpa [bitB] using h
  have hmi : m - 2 ^ i < 2 ^ 62 := Nat.lt_of_le_of_lt (Nat.sub_le _ _) hm
  have key : m &&& (2 ^ 64 - 1 - 2 ^ i) = m - 2 ^ i := by
    have hge : 2 ^ i ≤ m := by
      rcases Nat.lt_or_ge m (2 ^ i) with h1 | h1
      · rw [Nat.div_eq_of_lt h1] at hb; omega
      · exact h1
    have h0 : (m - 2 ^ i) / 2 ^ i % 2 = 0 := by
      have e : m = (m - 2 ^ i) + 2 ^ i := by omega
      have e2 : m / 2 ^ i = (m - 2 ^ i) / 2 ^ i + 1 := by
        conv => lhs; rw [e]
        exact Nat.add_div_right _ (Nat.two_pow_pos i)
      omega
    have hor := or_pow i (m - 2 ^ i) h0
    rw [Nat.sub_add_cancel hge] at hor
    apply Nat.eq_of_testBit_eq
    intro j
    rw [Nat.testBit_and, show 2 ^ 64 - 1 - 2 ^ i = 2 ^ 64 - (2 ^ i + 1) by omega, Nat.testBit_two_pow_sub_succ (by omega : 2 ^ i < 2 ^ 64)]
    have hmj : m.testBit j = ((m - 2 ^ i).testBit j || (2 ^ i).testBit j) := by rw [← Nat.testBit_or, hor]
    by_cases e : j = i
    · subst e
      have : (m - 2 ^ j).testBit j = false := by
        rw [Nat.testBit_eq_decide_div_mod_eq, h0]
        rfl
      rw [this, Nat.testBit_two_pow_self]
      simp
    · have h2 : (2 ^ i).testBit j = false := Nat.testBit_two_pow_of_ne (fun h => e h.symm)
      rw [hmj, h2]
      by_cases hj : j < 64
      · simp [hj]
      · have : (m - 2 ^ i).testBit j = false := Nat.testBit_lt_two_pow (Nat.lt_of_lt_of_le hmi (Nat.pow_le_pow_right (by omega) (by omega)))
        rw [this]
        simp
  have hbv : ((BitVec.ofInt 64 (m : Int)) &&& ~~~(BitVec.ofInt 64 ((2 ^ i : Nat) : Int))).toNat = m - 2 ^ i := by
    rw [BitVec.toNat_and, BitVec.toNat_not, BitVec.ofInt_natCast, BitVec.ofInt_natCast, BitVec.toNat_ofNat, BitVec.toNat_ofNat, Nat.mod_eq_of_lt (by omega : m < 2 ^ 64), Nat.mod_eq_of_lt (by omega : 2 ^ i < 2 ^ 64)]
    exact key
  show IntKind.i64.wrap (((BitVec.ofInt 64 (m : Int)) &&& ~~~(BitVec.ofInt 64 ((2 ^ i : Nat) : Int))).toNat : Int) = _
  rw [hbv]
  exact (fun (x : Nat) (hx : x < 2 ^ 62) => i64_wrap (x := (x : Int)) (by omega) (by omega)) (m - 2 ^ i) hmi
theorem impl_setOf.ev_l (m : Nat) (hm : m < 2 ^ 62) : ∀ (d i : Nat), i + d = 62 → Ev (fun k => impl_setOf.l0 k (m : Int) (setTo m i) (i : Int)) (setN m) := by
  intro d
  induction d with
  | zero =>
    intro i h
    refine ev_step ?_
    simp only [impl_setOf.l0]
    have e : m / 2 ^ i = 0 := by rw [show i = 62 by omega]; exact Nat.div_eq_of_lt hm
    rw [ev_pos (by omega), shr_nat m i (by omega), e, ev_neg (by omega), ev_now, setTo_done e (by omega)]
  | succ d ih =>
    intro i h
    refine ev_step ?_
    simp only [impl_setOf.l0]
    have hlt : m / 2 ^ i < 2 ^ 62 := Nat.lt_of_le_of_lt (Nat.div_le_self _ _) hm
    have hl := setTo_len m i
    rw [ev_pos (by omega), shr_nat m i (by omega), w64 (by omega) (by omega)]
    by_cases e : m / 2 ^ i = 0
    · rw [ev_neg (by omega), ev_now, setTo_done e (by omega)]
    · rw [ev_pos (Int.natCast_pos.2 (Nat.pos_of_ne_zero e)), Go.Proofs.YtaambkdiokbdgacGreatDoorM.and_one _ hlt]
      have := ih (i + 1) (by omega)
      rw [setTo_succ] at this
      by_cases hb : m / 2 ^ i % 2 = 1
      · rw [if_pos (by simp [bitB, hb])] at this
        rw [ev_pos (by rw [hb]; rfl), ev_pos (by omega)]
        exact this
      · rw [if_neg (by simp [bitB]; omega)] at this
        rw [ev_neg (c := ((m / 2 ^ i % 2 : Nat) : Int) = 1) (fun h_ => hb (Int.ofNat_inj.1 h_))]
        exact this
theorem impl_setOf.ev (m : Nat) (hm : m < 2 ^ 62) : Ev (fun k => impl_setOf.f k (m : Int)) (setN m) := impl_setOf.ev_l m hm 62 0 (by omega)
theorem impl_votes_isLeast.ev_l (W : List Bool) (n m : Nat) (hW : W.length = 2 ^ n) (hn : n ≤ 18) (hm : m < 2 ^ n) : ∀ (d i : Nat), i + d = n → Ev (fun k => impl_votes_isLeast.l0 k (m : Int) (n : Int) (i : Int) (n : Int) W) ((List.range' i d).all fun i => !(bitB m i) || !(W.getD (m - 2 ^ i) false)) := by
  have hp : 2 ^ n ≤ 2 ^ 18 := Nat.pow_le_pow_right (by omega) hn
  intro d
  induction d with
  | zero =>
    intro i h
    refine ev_step ?_
    simp only [impl_votes_isLeast.l0]
    rw [ev_neg (by omega), ev_now]
    rfl
  | succ d ih =>
    intro i h
    refine ev_step ?_
    simp only [impl_votes_isLeast.l0]
    have hih := ih (i + 1) (by omega)
    rw [ev_pos (by omega), ev_bind (ev_of (show impl_has.f (m : Int) (i : Int) = some (bitB m i) from impl_has.v m i (by omega) (by omega))), w64 (by omega) (by omega), List.range'_succ, List.all_cons]
    by_cases hb : bitB m i = true
    · have hpi : 2 ^ i ≤ 2 ^ n := Nat.pow_le_pow_right (by omega) (by omega)
      have hsub : m - 2 ^ i < W.length := by rw [hW]; exact Nat.lt_of_le_of_lt (Nat.sub_le _ _) hm
      rw [ev_pos hb, ev_pos (by omega), shl_one i (by omega), andNot_pow m i (by omega) (by omega) hb, ev_pos (Int.natCast_nonneg _), ev_pos (Int.ofNat_lt.2 hsub), rdOf_nat, hb]
      cases hw : W.getD (m - 2 ^ i) false with
      | true =>
        rw [ev_pos rfl, ev_now]
        rfl
      | false =>
        rw [ev_neg (by decide)]
        exact hih
    · rw [ev_neg hb, Bool.eq_false_iff.2 hb]
      exact hih
theorem impl_votes_isLeast.ev (W : List Bool) (n m : Nat) (hW : W.length = 2 ^ n) (hn : n ≤ 18) (hm : m < 2 ^ n) : Ev (fun k => impl_votes_isLeast.f k (n : Int) W (m : Int)) (leastB W n m) := by
  simp only [impl_votes_isLeast.f]
  rw [ev_pos (by omega), ev_pos (by omega), rdOf_nat, leastB]
  cases hw : W.getD m false with
  | true =>
    rw [ev_pos rfl, Bool.true_and, List.range_eq_range']
    exact impl_votes_isLeast.ev_l W n m hW hn hm n 0 (by omega)
  | false =>
    rw [ev_neg (by decide), ev_now]
    rfl
theorem impl_votes_sets.at_l (W : List Bool) (hW : W.length ≤ 1000000) (P : Int → Option Bool) (p : Nat → Bool) (K : Nat) (hP : ∀ m, m < W.length → P (m : Int) = some (p m)) (hS : ∀ k, K ≤ k → ∀ m, m < W.length → impl_setOf.f k (m : Int) = some (setN m)) : ∀ (d i k : Nat), i + d = W.length → K + d < k → impl_votes_sets.l0 k P W (takeL p i) (i : Int) = some (takeL p W.length) := by
  intro d
  induction d with
  | zero =>
    intro i k h hk
    obtain ⟨k, rfl⟩ : ∃ j, k = j + 1 := ⟨k - 1, by omega⟩
    simp only [impl_votes_sets.l0]
    rw [if_neg (by omega), show i = W.length by omega]
  | succ d ih =>
    intro i k h hk
    obtain ⟨k, rfl⟩ : ∃ j, k = j + 1 := ⟨k - 1, by omega⟩
    have hi : i < W.length := by omega
    have hl := takeL_len p i
    have hih := ih (i + 1) k (by omega) (by omega)
    rw [takeL_succ] at hih
    simp only [impl_votes_sets.l0]
    rw [if_pos (by omega), hP i hi, Option.bind_some, w64 (by omega) (by omega), hS k (by omega) i hi, Option.bind_some]
    cases hp : p i with
    | true =>
      rw [hp, if_pos rfl] at hih
      rw [if_pos rfl, if_pos (by omega)]
      exact hih
    | false =>
      rw [hp, if_neg (by decide)] at hih
      rw [if_neg (by decide)]
      exact hih
theorem impl_votes_sets.ev (W : List Bool) (hW : W.length ≤ 1000000) (P : Nat → Int → Option Bool) (p : Nat → Bool) (hP : ∀ m, m < W.length → Ev (fun k => P k (m : Int)) (p m)) : Ev (fun k => impl_votes_sets.g k W (P k)) (Go.Proofs.YtaambkdiokbdgacGreatDoorS.sortL (takeL p W.length)) := by
  obtain ⟨K1, h1⟩ := ev_all W.length (fun k m => P k (m : Int)) p hP
  obtain ⟨K2, h2⟩ := ev_all W.length (fun k m => impl_setOf.f k (m : Int)) setN (fun m hm => impl_setOf.ev m (by omega))
  refine ⟨max K1 (K2 + W.length + 1), fun k hk => ?_⟩
  have hl := takeL_len p W.length
  simp only [impl_votes_sets.g]
  rw [show impl_votes_sets.l0 k (P k) W [] 0 = some (takeL p W.length) from impl_votes_sets.at_l W hW (P k) p K2 (fun m hm => h1 k (by omega) m hm) h2 W.length 0 k (by omega) (by omega), Option.bind_some, if_pos (by omega)]
theorem impl_votes_least.ev (W : List Bool) (n : Nat) (hW : W.length = 2 ^ n) (hn : n ≤ 18) : Ev (fun k => impl_votes_least.f k (n : Int) W) (Go.Proofs.YtaambkdiokbdgacGreatDoorS.sortL (takeL (leastB W n) W.length)) := by
  have hp : 2 ^ n ≤ 2 ^ 18 := Nat.pow_le_pow_right (by omega) hn
  exact impl_votes_sets.ev W (by omega) (fun k x => impl_votes_isLeast.f k (n : Int) W x) (leastB W n) (fun m hm => impl_votes_isLeast.ev W n m hW hn (by omega))
theorem sortL_in {P : Nat → Bool} {n N : Nat} (hN : N ≤ 2 ^ n) (hn : n ≤ 62) : ∀ x ∈ Go.Proofs.YtaambkdiokbdgacGreatDoorS.sortL (takeL P N), x.length ≤ n ∧ ∀ y ∈ x, 0 ≤ y ∧ y < (n : Int) := by
  intro x hx
  obtain ⟨a, ha, _, rfl⟩ := takeL_mem x ((Go.Proofs.YtaambkdiokbdgacGreatDoorS.sortL_perm _).mem_iff.1 hx)
  rw [setN_to (m := a) (n := n) (by omega) hn]
  exact ⟨setTo_len a n, fun y hy => by have := setTo_in y hy; omega⟩
theorem sortL_len (xs : List (List Int)) : (Go.Proofs.YtaambkdiokbdgacGreatDoorS.sortL xs).length = xs.length := (Go.Proofs.YtaambkdiokbdgacGreatDoorS.sortL_perm xs).length_eq
theorem sortL_few {P : Nat → Bool} {q : Int} {ws : List Int} (h : GoodC q ws) {N : Nat} (hN : N = 2 ^ ws.length) : (Go.Proofs.YtaambkdiokbdgacGreatDoorS.sortL (takeL P N)).length ≤ 512 ∧ ∀ s ∈ Go.Proofs.YtaambkdiokbdgacGreatDoorS.sortL (takeL P N), s.length ≤ 9 := by
  have hp := h.pow
  have h9 := h.l9
  have hlen := takeL_len P N
  exact ⟨by rw [sortL_len]; omega, fun s hs => by have := (sortL_in (n := ws.length) (by omega) (by omega) s hs).1; omega⟩
def lwV (q : Int) (ws : List Int) : List (List Int) × Bool := if goodB q ws = true then (Go.Proofs.YtaambkdiokbdgacGreatDoorS.sortL (takeL (leastB (winsL q ws) ws.length) (winsL q ws).length), true) else ([], false)
theorem impl_LeastWinning.ev (q : Int) (ws : List Int) (hl : ws.length ≤ 9223372036854775807) : Ev (fun k => impl_LeastWinning.f k q ws) (lwV q ws) := by
  simp only [impl_LeastWinning.f]
  rw [ev_bind (impl_IsCommittee.ev q ws hl)]
  unfold lwV
  cases hg : goodB q ws with
  | false => rw [ev_neg (by decide), ev_now, if_neg (by decide)]
  | true =>
    have hc := (good_iff q ws).1 hg
    have h9 := hc.l9
    have hwl := winsL_length q ws
    rw [ev_pos rfl, if_pos rfl, ev_bind (impl_Committee_votes.ev q ws h9 hc.wb), ev_bind (impl_votes_least.ev (winsL q ws) ws.length hwl (by omega)), ev_now]
theorem lwV_few (q : Int) (ws : List Int) : (lwV q ws).1.length ≤ 512 ∧ ∀ s ∈ (lwV q ws).1, s.length ≤ 9 := by
  unfold lwV
  split
  · next h => exact sortL_few ((good_iff q ws).1 h) (winsL_length q ws)
  · simp
theorem laws_mSum.ev_l (l : List Int) (hl : l.length ≤ 9223372036854775807) : ∀ (d i : Nat) (s : Int), i + d = l.length → Ev (fun k => laws_mSum.l0 k s l (l.length : Int) (i : Int)) (wfold (l.drop i) s) := by
  intro d
  induction d with
  | zero =>
    intro i s h
    refine ev_step ?_
    simp only [laws_mSum.l0]
    rw [ev_neg (by omega), ev_now, List.drop_of_length_le (by omega)]
    rfl
  | succ d ih =>
    intro i s h
    refine ev_step ?_
    simp only [laws_mSum.l0]
    have hi : i < l.length := by omega
    rw [ev_pos (by omega), ev_pos (by omega), ev_pos (by omega), rd_lt l i hi, w64i (n := l.length) (by omega) (by omega) hl, wfold_take l i hi]
    exact ih (i + 1) _ (by omega)
theorem laws_mSum.ev (l : List Int) (hl : l.length ≤ 9223372036854775807) : Ev (fun k => laws_mSum.f k l) (wfold l 0) := laws_mSum.ev_l l hl l.length 0 0 (by omega)
theorem laws_mSame.ev_l (a b : List Int) (hl : a.length ≤ 9223372036854775807) (hab : a.length = b.length) : ∀ (d i : Nat), i + d = a.length → Ev (fun k => laws_mSame.l0 k a b (a.length : Int) (i : Int)) (decide (a.drop i = b.drop i)) := by
  intro d
  induction d with
  | zero =>
    intro i h
    refine ev_step ?_
    simp only [laws_mSame.l0]
    rw [ev_neg (by omega), ev_now, List.drop_of_length_le (by omega), List.drop_of_length_le (by omega)]
    rfl
  | succ d ih =>
    intro i h
    refine ev_step ?_
    simp only [laws_mSame.l0]
    have hi : i < a.length := by omega
    have hib : i < b.length := by omega
    have e : decide (a.drop i = b.drop i) = (decide (a[i] = b[i]) && decide (a.drop (i + 1) = b.drop (i + 1))) := by
      rw [List.drop_eq_getElem_cons hi, List.drop_eq_getElem_cons hib, Bool.eq_iff_iff]
      simp only [Bool.and_eq_true, decide_eq_true_eq, List.cons.injEq]
    rw [ev_pos (by omega), ev_pos (by omega), ev_pos (by omega), ev_pos (by omega), rd_lt a i hi, rd_lt b i hib, w64i (n := a.length) (by omega) (by omega) hl, e]
    by_cases c : a[i] = b[i]
    · rw [ev_pos c, decide_eq_true c, Bool.true_and]
      exact ih (i + 1) (by omega)
    · rw [ev_neg c, ev_now, decide_eq_false c]
      rfl
theorem laws_mSame.ev (a b : List Int) (hl : a.length ≤ 9223372036854775807) : Ev (fun k => laws_mSame.f k a b) (decide (a = b)) := by
  simp only [laws_mSame.f]
  by_cases c : (a.length : Int) = (b.length : Int)
  · rw [ev_pos c]
    exact laws_mSame.ev_l a b hl (by omega) a.length 0 (by omega)
  · rw [ev_neg c, ev_now, decide_eq_false (fun h => c (by rw [h]))]
theorem rd_L2_lt (l : List (List Int)) (i : Nat) (h : i < l.length) : rd_L2 l (i : Int) = l[i] := by simp [rd_L2, h]
theorem laws_mSets.ev_l (a b : List (List Int)) (hl : a.length ≤ 9223372036854775807) (ha : ∀ x ∈ a, x.length ≤ 9223372036854775807) (hab : a.length = b.length) : ∀ (d i : Nat), i + d = a.length → Ev (fun k => laws_mSets.l0 k a b (a.length : Int) (i : Int)) (decide (a.drop i = b.drop i)) := by
  intro d
  induction d with
  | zero =>
    intro i h
    refine ev_step ?_
    simp only [laws_mSets.l0]
    rw [ev_neg (by omega), ev_now, List.drop_of_length_le (by omega), List.drop_of_length_le (by omega)]
    rfl
  | succ d ih =>
    intro i h
    refine ev_step ?_
    simp only [laws_mSets.l0]
    have hi : i < a.length := by omega
    have hib : i < b.length := by omega
    have e : decide (a.drop i = b.drop i) = (decide (a[i] = b[i]) && decide (a.drop (i + 1) = b.drop (i + 1))) := by
      rw [List.drop_eq_getElem_cons hi, List.drop_eq_getElem_cons hib, Bool.eq_iff_iff]
      simp only [Bool.and_eq_true, decide_eq_true_eq, List.cons.injEq]
    rw [ev_pos (by omega), ev_pos (by omega), ev_pos (by omega), ev_pos (by omega), rd_L2_lt a i hi, rd_L2_lt b i hib, ev_bind (laws_mSame.ev a[i] b[i] (ha _ (List.getElem_mem hi))), w64i (n := a.length) (by omega) (by omega) hl, e]
    cases c : decide (a[i] = b[i]) with
    | true =>
      rw [ev_pos rfl, Bool.true_and]
      exact ih (i + 1) (by omega)
    | false => rw [ev_neg (by decide), ev_now, Bool.false_and]
theorem laws_mSets.ev (a b : List (List Int)) (hl : a.length ≤ 9223372036854775807) (ha : ∀ x ∈ a, x.length ≤ 9223372036854775807) : Ev (fun k => laws_mSets.f k a b) (decide (a = b)) := by
  simp only [laws_mSets.f]
  by_cases c : (a.length : Int) = (b.length : Int)
  · rw [ev_pos c]
    exact laws_mSets.ev_l a b hl ha (by omega) a.length 0 (by omega)
  · rw [ev_neg c, ev_now, decide_eq_false (fun h => c (by rw [h]))]
theorem laws_mCommittee.ev_same (q : Int) (ws : List Int) (hl : ws.length ≤ 9223372036854775807) : Ev (fun k => laws_mCommittee.f k q ws q ws) true := by
  have h := laws_mSame.ev ws ws hl
  rw [decide_eq_true rfl] at h
  show Ev (fun k => if q = q then (laws_mSame.f k ws ws).bind fun t => some t else some false) true
  rw [ev_pos rfl, ev_bind h, ev_now]
def dgt (n : Nat) : List UInt8 := if n < 10 then [UInt8.ofNat (48 + n)] else if n < 100 then [UInt8.ofNat (48 + n / 10), UInt8.ofNat (48 + n % 10)] else if n < 1000 then [UInt8.ofNat (48 + n / 100), UInt8.ofNat (48 + n / 10 % 10), UInt8.ofNat (48 + n % 10)] else [UInt8.ofNat (48 + n / 1000), UInt8.ofNat (48 + n / 100 % 10), UInt8.ofNat (48 + n / 10 % 10), UInt8.ofNat (48 + n % 10)]
theorem dgt_eq {n : Nat} (h : n < 10000) : Go.Lib.decDigits n = dgt n := by
  unfold dgt
  split
  · next h1 => exact Go.Lib.decDigits_one h1
  · next h1 =>
    split
    · next h2 => exact Go.Lib.decDigits_two h1 h2
    · next h2 =>
      split
      · next h3 =>
        rw [Go.Lib.decDigits, dif_neg h1, Go.Lib.decDigits_two (by omega) (by omega), Nat.div_div_eq_div_mul]
        rfl
      · next h3 =>
        rw [Go.Lib.decDigits, dif_neg h1, Go.Lib.decDigits, dif_neg (by omega), Go.Lib.decDigits_two (by omega) (by omega)]
        simp only [Nat.div_div_eq_div_mul, List.cons_append, List.nil_append]
def okB (n : Nat) : Bool := match Go.Lib.atoiAll (dgt n) with | .ok v => decide (v = (n : Int)) | _ => false
set_option maxRecDepth 100000 in
theorem atoi_dgt_all : ((List.range 9001).all okB) = true := by decide +kernel
def txb (l : List UInt8) : ByteArray := ⟨l.toArray⟩
theorem txb_data (l : List UInt8) : (txb l).data.toList = l := rfl
theorem txb_app (a b : List UInt8) : txb a ++ txb b = txb (a ++ b) := by
  apply ByteArray.ext
  rw [ByteArray.data_append]
  simp [txb]
theorem txb_size (l : List UInt8) : (txb l).size = l.length := by simp [txb, ByteArray.size]
theorem txb_of (a : ByteArray) : a = txb a.data.toList := by
  apply ByteArray.ext
  simp [txb]
theorem tjoin_succ (xs : List (List UInt8)) (sep : List UInt8) (i : Nat) (h : i < xs.length) : Go.Lib.join (xs.take (i + 1)) sep = if i = 0 then xs[i] else Go.Lib.join (xs.take i) sep ++ sep ++ xs[i] := by
  cases xs with
  | nil => simp at h
  | cons y r =>
    rw [List.take_succ_cons, Go.Lib.join_cons]
    cases i with
    | zero => simp [Go.Lib.joinTail]
    | succ i =>
      have hi : i < r.length := by simpa using h
      rw [if_neg (by omega), List.take_succ_cons, Go.Lib.join_cons, Go.Lib.joinTail_take_succ sep r i r[i] (List.getElem?_eq_getElem hi), List.getElem_cons_succ, List.append_assoc, List.append_assoc, List.append_assoc]
theorem tjoin_len (xs : List (List UInt8)) (sep : List UInt8) (m : Nat) (hs : sep.length = 1) (hx : ∀ x ∈ xs, x.length ≤ m) : ∀ i, i ≤ xs.length → (Go.Lib.join (xs.take i) sep).length ≤ i * (m + 1) := by
  intro i
  induction i with
  | zero => intro _; simp [Go.Lib.join_nil]
  | succ i ih =>
    intro h
    have hi : i < xs.length := by omega
    have h1 := hx _ (List.getElem_mem hi)
    have h2 := ih (by omega)
    rw [tjoin_succ xs sep i hi, Nat.add_mul, Nat.one_mul]
    split
    · omega
    · simp only [List.length_append, hs]
      omega
theorem strings_Join.v (L : List (List UInt8)) (sep : List UInt8) (h0 : 0 < L.length) (h1 : L.length ≤ 1000000) (h2 : (Go.Lib.join L sep).length ≤ 140737488355328) : strings_Join.f (L.map txb) (txb sep) = some (txb (Go.Lib.join L sep)) := by
  have hm : (L.map txb).map (fun z : ByteArray => z.data.toList) = L := by
    rw [List.map_map]
    exact List.map_id L
  unfold strings_Join.f
  rw [hm, if_pos ⟨by rw [List.length_map]; omega, by rw [List.length_map]; omega, h2⟩]
  rfl
theorem spec_l1In.v (a b c : Int) : spec_l1In.f a b c = some (decide (b ≤ a) && decide (a ≤ c)) := by
  unfold spec_l1In.f
  by_cases h : b ≤ a
  · rw [if_pos h]; simp [h]
  · rw [if_neg h]; simp [h]
theorem spec_voSum.ev_l (l : List Int) (hl : l.length ≤ 9223372036854775807) : ∀ (d i : Nat) (s : Int), i + d = l.length → Ev (fun k => spec_voSum.l0 k s l (l.length : Int) (i : Int)) (wfold (l.drop i) s) := by
  intro d
  induction d with
  | zero =>
    intro i s h
    refine ev_step ?_
    simp only [spec_voSum.l0]
    rw [ev_neg (by omega), ev_now, List.drop_of_length_le (by omega)]
    rfl
  | succ d ih =>
    intro i s h
    refine ev_step ?_
    simp only [spec_voSum.l0]
    have hi : i < l.length := by omega
    rw [ev_pos (by omega), ev_pos (by omega), ev_pos (by omega), w64i (n := l.length) (by omega) (by omega) hl, rd_lt l i hi, wfold_take l i hi]
    exact ih (i + 1) _ (by omega)
theorem spec_voSum.ev (l : List Int) (hl : l.length ≤ 9223372036854775807) : Ev (fun k => spec_voSum.f k l) (wfold l 0) := spec_voSum.ev_l l hl l.length 0 0 (by omega)
theorem spec_l1All.ev_l (l : List Int) (lo hi : Int) (hl : l.length ≤ 9223372036854775807) : ∀ (d i : Nat), i + d = l.length → Ev (fun k => spec_l1All.l0 k lo hi l (l.length : Int) (i : Int)) ((l.drop i).all fun x => decide (lo ≤ x) && decide (x ≤ hi)) := by
  intro d
  induction d with
  | zero =>
    intro i h
    refine ev_step ?_
    simp only [spec_l1All.l0]
    rw [ev_neg (by omega), ev_now, List.drop_of_length_le (by omega)]
    rfl
  | succ d ih =>
    intro i h
    refine ev_step ?_
    simp only [spec_l1All.l0]
    have hi' : i < l.length := by omega
    rw [ev_pos (by omega), ev_pos (by omega), ev_pos (by omega), w64i (n := l.length) (by omega) (by omega) hl, rd_lt l i hi', List.drop_eq_getElem_cons hi', List.all_cons, ev_bind (ev_of (spec_l1In.v _ _ _))]
    cases hb : (decide (lo ≤ l[i]) && decide (l[i] ≤ hi)) with
    | true =>
      rw [ev_pos rfl, Bool.true_and]
      exact ih (i + 1) (by omega)
    | false =>
      rw [ev_neg (by decide), ev_now]
      rfl
theorem spec_l1All.ev (l : List Int) (lo hi : Int) (hl : l.length ≤ 9223372036854775807) : Ev (fun k => spec_l1All.f k l lo hi) (l.all fun x => decide (lo ≤ x) && decide (x ≤ hi)) := spec_l1All.ev_l l lo hi hl l.length 0 (by omega)
theorem spec_voGood.ev (q : Int) (l : List Int) (hl : l.length ≤ 9223372036854775807) : Ev (fun k => spec_voGood.f k q l) (goodB q l) := by
  simp only [spec_voGood.f]
  rw [ev_bind (ev_of (spec_l1In.v _ _ _))]
  unfold goodB
  by_cases h1 : 1 ≤ (l.length : Int) ∧ (l.length : Int) ≤ 9
  · rw [ev_pos (by simp [h1]), ev_bind (spec_l1All.ev l 0 1000 hl)]
    refine ev_step ?_
    simp only [spec_voGood.j0]
    cases hb : (l.all fun x => decide (0 ≤ x) && decide (x ≤ 1000)) with
    | true =>
      rw [ev_neg (by simp), ev_bind (spec_voSum.ev l hl), ev_bind (ev_of (spec_l1In.v _ _ _)), ev_now, wfold_w l (by omega) hb]
      have e1 : 1 ≤ l.length := by omega
      have e2 : l.length ≤ 9 := by omega
      simp [e1, e2]
    | false =>
      rw [ev_pos (by simp), ev_now]
      simp
  · rw [ev_neg (by simpa using h1)]
    refine ev_step ?_
    simp only [spec_voGood.j0]
    rw [ev_pos (by simp), ev_now]
    have : ¬ (1 ≤ l.length ∧ l.length ≤ 9) := by omega
    by_cases e1 : 1 ≤ l.length
    · have e2 : ¬ l.length ≤ 9 := by omega
      simp [e2]
    · simp [e1]
theorem dg_byte (d : Nat) (h : d < 10) : (UInt8.ofNat (48 + d)).toNat = 48 + d := by
  simp only [UInt8.toNat_ofNat']
  omega
theorem dgt_facts {n : Nat} (h : n < 10000) : 1 ≤ (dgt n).length ∧ (dgt n).length ≤ 4 ∧ ∀ b ∈ dgt n, 48 ≤ b.toNat ∧ b.toNat ≤ 57 := by
  have hb : ∀ d, d < 10 → 48 ≤ (UInt8.ofNat (48 + d)).toNat ∧ (UInt8.ofNat (48 + d)).toNat ≤ 57 := fun d hd => by rw [dg_byte d hd]; omega
  unfold dgt
  split
  · exact ⟨by simp, by simp, fun b hb' => by rw [List.mem_singleton.1 hb']; exact hb n (by omega)⟩
  · split
    · refine ⟨by simp, by simp, fun b hb' => ?_⟩
      simp only [List.mem_cons, List.not_mem_nil, or_false] at hb'
      rcases hb' with rfl | rfl
      · exact hb _ (by omega)
      · exact hb _ (by omega)
    · split
      · refine ⟨by simp, by simp, fun b hb' => ?_⟩
        simp only [List.mem_cons, List.not_mem_nil, or_false] at hb'
        rcases hb' with rfl | rfl | rfl <;> exact hb _ (by omega)
      · refine ⟨by simp, by simp, fun b hb' => ?_⟩
        simp only [List.mem_cons, List.not_mem_nil, or_false] at hb'
        rcases hb' with rfl | rfl | rfl | rfl <;> exact hb _ (by omega)
theorem strconv_Itoa.vd {n : Int} (h0 : 0 ≤ n) (h : n < 10000) : strconv_Itoa.f n = some (txb (dgt n.toNat)) := by
  unfold strconv_Itoa.f
  rw [if_pos ⟨h0, h⟩, dgt_eq (by omega)]
  rfl
theorem spec_l1Num.ev_d : ∀ (d n : Nat), n < 10 ^ d → 1 ≤ d → d ≤ 9 → Ev (fun k => spec_l1Num.f k (n : Int)) (txb (Go.Lib.decDigits n)) ∧ (Go.Lib.decDigits n).length ≤ d := by
  intro d
  induction d with
  | zero => intro n _ h; omega
  | succ d ih =>
    intro n hn _ hd
    by_cases c : n < 10
    · rw [Go.Lib.decDigits_one c]
      refine ⟨ev_step ?_, by simp⟩
      simp only [spec_l1Num.f]
      rw [ev_pos (by omega), ev_now, w64 (by omega) (by omega), show (48 + (n : Int)) % 256 = ((48 + n : Nat) : Int) by omega]
      rfl
    · have hp : 10 ^ (d + 1) = 10 ^ d * 10 := Nat.pow_succ 10 d
      have hd1 : 1 ≤ d := by
        rcases Nat.eq_zero_or_pos d with h | h
        · subst h; simp at hn; omega
        · exact h
      have hp9 : 10 ^ (d + 1) ≤ 10 ^ 9 := Nat.pow_le_pow_right (by omega) hd
      obtain ⟨h1, h2⟩ := ih (n / 10) (by omega) hd1 (by omega)
      have e1 : Int.tdiv (n : Int) 10 = ((n / 10 : Nat) : Int) := (Int.ofNat_tdiv n 10).symm
      have e2 : Int.tmod (n : Int) 10 = ((n % 10 : Nat) : Int) := (Int.ofNat_tmod n 10).symm
      have e3 : Go.Lib.decDigits n = Go.Lib.decDigits (n / 10) ++ [UInt8.ofNat (48 + n % 10)] := by rw [Go.Lib.decDigits, dif_neg c]
      have e4 : strOfNums [(wrap64 (48 + ((n % 10 : Nat) : Int))) % 256] = txb [UInt8.ofNat (48 + n % 10)] := by
        rw [w64 (by omega) (by omega), show (48 + ((n % 10 : Nat) : Int)) % 256 = ((48 + n % 10 : Nat) : Int) by omega]
        rfl
      rw [e3]
      refine ⟨ev_step ?_, by rw [List.length_append, List.length_singleton]; omega⟩
      simp only [spec_l1Num.f, Option.bind_some]
      rw [ev_neg (by omega), e1, w64 (x := ((n / 10 : Nat) : Int)) (by omega) (by omega), ev_bind h1, e2, e4, ev_pos (by rw [txb_size, txb_size, List.length_singleton]; omega), ev_now, txb_app]
theorem spec_l1Num.ev {n : Int} (h0 : 0 ≤ n) (h : n < 10000) : Ev (fun k => spec_l1Num.f k n) (txb (dgt n.toNat)) := by
  have h1 := (spec_l1Num.ev_d 4 n.toNat (by omega) (by omega) (by omega)).1
  rw [dgt_eq (by omega), show ((n.toNat : Nat) : Int) = n by omega] at h1
  exact h1
def nmL (ws : List Int) : List (List UInt8) := ws.map fun w => dgt w.toNat
def cmT (q : Int) (ws : List Int) : List UInt8 := dgt q.toNat ++ 58 :: Go.Lib.join (nmL ws) [44]
theorem nmL_len (ws : List Int) : (nmL ws).length = ws.length := by simp [nmL]
theorem nmL_in {ws : List Int} (h : ∀ w ∈ ws, 0 ≤ w ∧ w ≤ 1000) : ∀ x ∈ nmL ws, 1 ≤ x.length ∧ x.length ≤ 4 ∧ ∀ b ∈ x, 48 ≤ b.toNat ∧ b.toNat ≤ 57 := fun x hx => by
  obtain ⟨w, hw, rfl⟩ := List.mem_map.1 hx
  have := h w hw
  exact dgt_facts (by omega)
theorem nmL_join {ws : List Int} (h : ∀ w ∈ ws, 0 ≤ w ∧ w ≤ 1000) (h9 : ws.length ≤ 9) (i : Nat) (hi : i ≤ ws.length) : (Go.Lib.join ((nmL ws).take i) [44]).length ≤ 45 := by
  have h1 := tjoin_len (nmL ws) [44] 4 rfl (fun x hx => (nmL_in h x hx).2.1) i (by rw [nmL_len]; exact hi)
  omega
theorem impl_numbersText.ev {ws : List Int} (h : ∀ w ∈ ws, 0 ≤ w ∧ w ≤ 1000) (h9 : ws.length ≤ 9) (h1 : 1 ≤ ws.length) : Ev (fun k => impl_numbersText.f k ws) (txb (Go.Lib.join (nmL ws) [44])) := by
  have key : ∀ (d i : Nat), i + d = ws.length → Ev (fun k => impl_numbersText.l0 k (((nmL ws).take i).map txb) ws (ws.length : Int) (i : Int)) (txb (Go.Lib.join (nmL ws) [44])) := by
    intro d
    induction d with
    | zero =>
      intro i hi
      refine ev_step ?_
      simp only [impl_numbersText.l0]
      have hj := nmL_join h h9 ws.length (Nat.le_refl _)
      have hl := nmL_len ws
      rw [List.take_of_length_le (by omega)] at hj ⊢
      rw [ev_neg (by omega), ev_bind (ev_of (show strings_Join.f ((nmL ws).map txb) (⟨#[44]⟩ : ByteArray) = _ from strings_Join.v (nmL ws) [44] (by omega) (by omega) (by omega))), ev_now]
    | succ d ih =>
      intro i hi
      refine ev_step ?_
      simp only [impl_numbersText.l0]
      have hil : i < ws.length := by omega
      have hx := h ws[i] (List.getElem_mem hil)
      have hih := ih (i + 1) (by omega)
      have e : (nmL ws)[i]'(by rw [nmL_len]; exact hil) = dgt (ws[i]).toNat := by simp [nmL]
      rw [List.take_succ_eq_append_getElem (by rw [nmL_len]; exact hil), e, List.map_append, List.map_singleton, show ((i + 1 : Nat) : Int) = (i : Int) + 1 by omega] at hih
      rw [ev_pos (by omega), ev_pos (by omega), ev_pos (by omega), rd_lt ws i hil, ev_bind (ev_of (strconv_Itoa.vd hx.1 (by omega))), ev_pos (by rw [List.length_map, List.length_take]; omega), w64 (by omega) (by omega)]
      exact hih
  exact key ws.length 0 (Nat.zero_add _)
theorem spec_voText.ev {q : Int} {ws : List Int} (hq : 0 ≤ q ∧ q ≤ 9000) (h : ∀ w ∈ ws, 0 ≤ w ∧ w ≤ 1000) (h9 : ws.length ≤ 9) : Ev (fun k => spec_voText.f k q ws) (txb (cmT q ws)) := by
  have hdq := dgt_facts (n := q.toNat) (by omega)
  have hnl := nmL_len ws
  have key : ∀ (d i : Nat), i + d = ws.length → Ev (fun k => spec_voText.l0 k (txb (dgt q.toNat ++ 58 :: Go.Lib.join ((nmL ws).take i) [44])) ws (ws.length : Int) (i : Int)) (txb (cmT q ws)) := by
    intro d
    induction d with
    | zero =>
      intro i hi
      refine ev_step ?_
      simp only [spec_voText.l0]
      rw [ev_neg (by omega), ev_now, List.take_of_length_le (by omega)]
      rfl
    | succ d ih =>
      intro i hi
      refine ev_step ?_
      simp only [spec_voText.l0]
      have hil : i < ws.length := by omega
      have hx := h ws[i] (List.getElem_mem hil)
      have hdx := dgt_facts (n := ws[i].toNat) (by omega)
      have hj := nmL_join h h9 i (by omega)
      have hih := ih (i + 1) (by omega)
      have e : (nmL ws)[i]'(by omega) = dgt (ws[i]).toNat := by simp [nmL]
      rw [tjoin_succ (nmL ws) [44] i (by omega), e, show ((i + 1 : Nat) : Int) = (i : Int) + 1 by omega] at hih
      rw [ev_pos (by omega), ev_pos (by omega), ev_pos (by omega), rd_lt ws i hil]
      by_cases c : (i : Int) > 0
      · rw [if_neg (by omega)] at hih
        have e2 : txb (dgt q.toNat ++ 58 :: Go.Lib.join ((nmL ws).take i) [44]) ++ (⟨#[44]⟩ : ByteArray) = txb (dgt q.toNat ++ 58 :: Go.Lib.join ((nmL ws).take i) [44] ++ [44]) := txb_app _ [44]
        rw [ev_pos c, ev_pos (by rw [txb_size, List.length_append, List.length_cons]; omega), ev_bind (spec_l1Num.ev hx.1 (by omega)), e2, ev_pos (by rw [txb_size, txb_size, List.length_append, List.length_append, List.length_cons, List.length_singleton]; omega), txb_app, w64 (by omega) (by omega)]
        have e3 : dgt q.toNat ++ 58 :: Go.Lib.join ((nmL ws).take i) [44] ++ [44] ++ dgt ws[i].toNat = dgt q.toNat ++ 58 :: (Go.Lib.join ((nmL ws).take i) [44] ++ [44] ++ dgt ws[i].toNat) := by simp
        rw [e3]
        exact hih
      · have hi0 : i = 0 := by omega
        subst hi0
        rw [if_pos rfl] at hih
        rw [ev_neg c, ev_bind (spec_l1Num.ev hx.1 (by omega)), ev_pos (by rw [txb_size, txb_size, List.length_append, List.length_cons]; omega), txb_app, w64 (by omega) (by omega)]
        have e3 : dgt q.toNat ++ 58 :: Go.Lib.join ((nmL ws).take 0) [44] ++ dgt ws[0].toNat = dgt q.toNat ++ 58 :: dgt ws[0].toNat := by simp [Go.Lib.join_nil]
        rw [e3]
        exact hih
  simp only [spec_voText.f]
  have e0 : txb (dgt q.toNat) ++ (⟨#[58]⟩ : ByteArray) = txb (dgt q.toNat ++ 58 :: Go.Lib.join ((nmL ws).take 0) [44]) := by
    rw [List.take_zero, Go.Lib.join_nil]
    exact txb_app _ [58]
  rw [ev_bind (spec_l1Num.ev hq.1 (by omega)), ev_pos (by rw [txb_size]; omega), e0]
  exact key ws.length 0 (Nat.zero_add _)
def ctV (q : Int) (ws : List Int) : ByteArray × Bool := if goodB q ws = true then (txb (cmT q ws), true) else (txb [], false)
theorem cmT_len {q : Int} {ws : List Int} (hc : GoodC q ws) : (cmT q ws).length ≤ 60 := by
  have hs := hc.sum
  have hq := hc.qs
  have h1 := hc.q1
  have hd := dgt_facts (n := q.toNat) (by omega)
  have hj := nmL_join hc.w hc.l9 ws.length (Nat.le_refl _)
  rw [List.take_of_length_le (by rw [nmL_len]; exact Nat.le_refl _)] at hj
  unfold cmT
  rw [List.length_append, List.length_cons]
  omega
theorem impl_CommitteeText.ev (q : Int) (ws : List Int) (hl : ws.length ≤ 9223372036854775807) : Ev (fun k => impl_CommitteeText.f k q ws) (ctV q ws) := by
  simp only [impl_CommitteeText.f]
  rw [ev_bind (impl_IsCommittee.ev q ws hl)]
  unfold ctV
  cases hg : goodB q ws with
  | false => rw [ev_neg (by decide), ev_now]; rfl
  | true =>
    have hc := (good_iff q ws).1 hg
    have hs := hc.sum
    have hq := hc.qs
    have h1 := hc.q1
    have hd := dgt_facts (n := q.toNat) (by omega)
    have hj := nmL_join hc.w hc.l9 ws.length (Nat.le_refl _)
    rw [List.take_of_length_le (by rw [nmL_len]; exact Nat.le_refl _)] at hj
    have e0 : txb (dgt q.toNat) ++ (⟨#[58]⟩ : ByteArray) = txb (dgt q.toNat ++ [58]) := txb_app _ [58]
    rw [ev_pos rfl, ev_bind (ev_of (strconv_Itoa.vd (n := q) (by omega) (by omega))), ev_pos (by rw [txb_size]; omega), ev_bind (impl_numbersText.ev hc.w hc.l9 hc.l1), e0, ev_pos (by rw [txb_size, txb_size, List.length_append, List.length_singleton]; omega), ev_now, txb_app, if_pos rfl]
    simp [cmT]
theorem spec_CommitteeText.ev (q : Int) (ws : List Int) (hl : ws.length ≤ 9223372036854775807) : Ev (fun k => spec_CommitteeText.f k q ws) (ctV q ws) := by
  simp only [spec_CommitteeText.f]
  rw [ev_bind (spec_voGood.ev q ws hl)]
  unfold ctV
  cases hg : goodB q ws with
  | false => rw [ev_neg (by decide), ev_now]; rfl
  | true =>
    have hc := (good_iff q ws).1 hg
    have hs := hc.sum
    have hq := hc.qs
    have h1 := hc.q1
    rw [ev_pos rfl, ev_bind (spec_voText.ev ⟨by omega, by omega⟩ hc.w hc.l9), ev_now, if_pos rfl]
theorem nodup_le : ∀ (n : Nat) (l : List Nat), l.Nodup → (∀ x ∈ l, x < n) → l.length ≤ n
  | 0, l, _, h => by
    cases l with
    | nil => exact Nat.le_refl _
    | cons x l => exact absurd (h x List.mem_cons_self) (Nat.not_lt_zero _)
  | n + 1, l, hd, h => by
    have h1 := nodup_le n (l.erase n) (hd.erase n) (fun x hx => by
      have h2 := (hd.mem_erase_iff.1 hx)
      have := h x h2.2
      omega)
    rw [List.length_erase] at h1
    split at h1 <;> omega
def incB : List Int → Bool
  | a :: b :: l => decide (a < b) && incB (b :: l)
  | _ => true
def setB (n : Int) (l : List Int) : Bool := (l.all fun x => decide (0 ≤ x) && decide (x ≤ n - 1)) && incB l
def orBits (m : Nat) (l : List Int) : Nat := l.foldl (fun m x => m ||| 2 ^ x.toNat) m
def maskN (l : List Int) : Nat := orBits 0 l
theorem orBits_lt (n : Nat) : ∀ (l : List Int) (m : Nat), m < 2 ^ n → (∀ x ∈ l, 0 ≤ x ∧ x < (n : Int)) → orBits m l < 2 ^ n
  | [], m, h, _ => h
  | a :: l, m, h, hb => by
    have h1 := hb a List.mem_cons_self
    refine orBits_lt n l (m ||| 2 ^ a.toNat) (Nat.or_lt_two_pow h (Nat.pow_lt_pow_right (by omega) (by omega))) (fun x hx => hb x (List.mem_cons_of_mem _ hx))
theorem maskN_lt (n : Nat) (l : List Int) (hb : ∀ x ∈ l, 0 ≤ x ∧ x < (n : Int)) : maskN l < 2 ^ n := orBits_lt n l 0 (Nat.two_pow_pos n) hb
def mAt (l : List (List Int)) (i : Nat) : Nat := maskN (l.getD i [])
def gOrd (l : List (List Int)) (i : Nat) : Bool := decide (i = 0) || decide (cmpL (l.getD (i - 1) []) (l.getD i []) < 0)
def gInS (l : List (List Int)) (i j : Nat) : Bool := !(decide (mAt l i &&& mAt l j = mAt l i)) && !(decide (mAt l i &&& mAt l j = mAt l j))
def gS (l : List (List Int)) (i : Nat) : Bool := gOrd l i && (List.range' 0 i).all (gInS l i)
structure GoodG (n : Int) (l : List (List Int)) : Prop where
  n1 : 1 ≤ n
  n9 : n ≤ 9
  ne : l.length ≠ 0
  sets : ∀ x ∈ l, x.length ≠ 0 ∧ setB n x = true
  gs : ∀ i, i < l.length → gS l i = true
theorem impl_maskOf.ev_l (l : List Int) (hl : l.length ≤ 9223372036854775807) (hx : ∀ x ∈ l, 0 ≤ x ∧ x ≤ 60) : ∀ (d i m : Nat), i + d = l.length → m < 2 ^ 61 → Ev (fun k => impl_maskOf.l0 k (m : Int) l (l.length : Int) (i : Int)) ((orBits m (l.drop i) : Nat) : Int) := by
  intro d
  induction d with
  | zero =>
    intro i m h hm
    refine ev_step ?_
    simp only [impl_maskOf.l0]
    rw [ev_neg (by omega), ev_now, List.drop_of_length_le (by omega)]
    rfl
  | succ d ih =>
    intro i m h hm
    refine ev_step ?_
    simp only [impl_maskOf.l0]
    have hi : i < l.length := by omega
    have hxi := hx l[i] (List.getElem_mem hi)
    obtain ⟨c, hc⟩ := Int.eq_ofNat_of_zero_le hxi.1
    have hp : 2 ^ c ≤ 2 ^ 60 := Nat.pow_le_pow_right (by omega) (by omega)
    have ho : m ||| 2 ^ c < 2 ^ 61 := Nat.or_lt_two_pow hm (by omega)
    rw [ev_pos (by omega), ev_pos (by omega), ev_pos (by omega), rd_lt l i hi, hc, ev_pos (by omega), w64i (n := l.length) (by omega) (by omega) hl, shl_one c (by omega), or_nat m (2 ^ c) (by omega) (by omega)]
    have := ih (i + 1) (m ||| 2 ^ c) (by omega) ho
    rw [List.drop_eq_getElem_cons hi]
    show Ev _ ((orBits (m ||| 2 ^ l[i].toNat) (l.drop (i + 1)) : Nat) : Int)
    rw [hc]
    exact this
theorem impl_maskOf.ev (l : List Int) (hl : l.length ≤ 9223372036854775807) (hx : ∀ x ∈ l, 0 ≤ x ∧ x ≤ 60) : Ev (fun k => impl_maskOf.f k l) ((maskN l : Nat) : Int) := impl_maskOf.ev_l l hl hx l.length 0 0 (by omega) (by omega)
theorem bitB_test (m i : Nat) : bitB m i = m.testBit i := by rw [bitB, Nat.testBit_eq_decide_div_mod_eq]
theorem orBits_test : ∀ (x : List Int) (m i : Nat), (∀ y ∈ x, 0 ≤ y) → (orBits m x).testBit i = (m.testBit i || x.contains (i : Int))
  | [], m, i, _ => by simp [orBits]
  | y :: x, m, i, h => by
    have hy := h y List.mem_cons_self
    have ih := orBits_test x (m ||| 2 ^ y.toNat) i (fun z hz => h z (List.mem_cons_of_mem _ hz))
    show (orBits (m ||| 2 ^ y.toNat) x).testBit i = _
    rw [ih, Nat.testBit_or, Nat.testBit_two_pow, List.contains_cons, Bool.or_assoc]
    congr 2
    by_cases e : y.toNat = i
    · rw [decide_eq_true e, beq_iff_eq.2 (show (i : Int) = y by omega)]
    · rw [decide_eq_false e, beq_eq_false_iff_ne.2 (show (i : Int) ≠ y by omega)]
theorem maskN_test (x : List Int) (i : Nat) (h : ∀ y ∈ x, 0 ≤ y) : (maskN x).testBit i = x.contains (i : Int) := by
  rw [maskN, orBits_test x 0 i h]
  simp
theorem sub_pow_test (m i j : Nat) (h : m.testBit i = true) : (m - 2 ^ i).testBit j = (m.testBit j && !(decide (j = i))) := by
  have hb : m / 2 ^ i % 2 = 1 := by rw [Nat.testBit_eq_decide_div_mod_eq] at h; simpa using h
  have hge : 2 ^ i ≤ m := by
    rcases Nat.lt_or_ge m (2 ^ i) with h1 | h1
    · rw [Nat.div_eq_of_lt h1] at hb; omega
    · exact h1
  have h0 : (m - 2 ^ i) / 2 ^ i % 2 = 0 := by
    have e : m = (m - 2 ^ i) + 2 ^ i := by omega
    have e2 : m / 2 ^ i = (m - 2 ^ i) / 2 ^ i + 1 := by
      conv => lhs; rw [e]
      exact Nat.add_div_right _ (Nat.two_pow_pos i)
    omega
  have hor := or_pow i (m - 2 ^ i) h0
  rw [Nat.sub_add_cancel hge] at hor
  have hmj : m.testBit j = ((m - 2 ^ i).testBit j || (2 ^ i).testBit j) := by rw [← Nat.testBit_or, hor]
  by_cases e : j = i
  · subst e
    rw [decide_eq_true rfl, Bool.not_true, Bool.and_false, Nat.testBit_eq_decide_div_mod_eq, h0]
    rfl
  · rw [hmj, Nat.testBit_two_pow_of_ne (fun h => e h.symm), decide_eq_false e]
    simp
theorem setN_contains (m i : Nat) (hi : i < 62) : (setN m).contains (i : Int) = m.testBit i := by
  rw [← bitB_test, Bool.eq_iff_iff, List.contains_iff_mem, setN, List.mem_map]
  constructor
  · rintro ⟨j, hj, e⟩
    rw [List.mem_filter] at hj
    rw [← show j = i by omega]
    exact hj.2
  · intro h
    exact ⟨i, List.mem_filter.2 ⟨List.mem_range.2 hi, h⟩, rfl⟩
def popN (m : Nat) : Nat := ((List.range 9).filter (bitB m)).length
theorem popN_or_all : ((List.range 512).all fun m => (List.range 9).all fun x => decide (popN (m ||| 2 ^ x) = popN m + if bitB m x = true then 0 else 1)) = true := by decide +kernel
theorem impl_count_all : ((List.range 512).all fun m => decide (impl_count.f (m : Int) = some ((popN m : Nat) : Int))) = true := by decide +kernel
theorem popN_or {m x : Nat} (hm : m < 512) (hx : x < 9) : popN (m ||| 2 ^ x) = popN m + if bitB m x = true then 0 else 1 := by
  have h := List.all_eq_true.1 popN_or_all m (List.mem_range.2 hm)
  exact of_decide_eq_true (List.all_eq_true.1 h x (List.mem_range.2 hx))
theorem impl_count.v {m : Nat} (hm : m < 512) : impl_count.f (m : Int) = some ((popN m : Nat) : Int) := of_decide_eq_true (List.all_eq_true.1 impl_count_all m (List.mem_range.2 hm))
def newAt (l : List Int) (j : Nat) : Bool := !((l.take j).contains (l.getD j 0))
def orderB (n : Int) (l : List Int) : Bool := decide ((l.length : Int) = n) && ((l.all fun x => decide (0 ≤ x) && decide (x ≤ n - 1)) && (List.range' 0 l.length).all (newAt l))
theorem popN_take (l : List Int) (hx : ∀ x ∈ l, 0 ≤ x ∧ x ≤ 8) : ∀ i, i ≤ l.length → popN (maskN (l.take i)) ≤ i ∧ (popN (maskN (l.take i)) = i ↔ (List.range' 0 i).all (newAt l) = true) := by
  intro i
  induction i with
  | zero => intro _; rw [List.take_zero]; exact ⟨Nat.le_refl 0, by simp [show popN (maskN []) = 0 from rfl]⟩
  | succ i ih =>
    intro h
    obtain ⟨h1, h2⟩ := ih (by omega)
    have hi : i < l.length := by omega
    have hxi := hx l[i] (List.getElem_mem hi)
    have ht : ∀ y ∈ l.take i, 0 ≤ y ∧ y ≤ 8 := fun y hy => hx y (List.mem_of_mem_take hy)
    have hm : maskN (l.take i) < 512 := maskN_lt 9 (l.take i) (fun y hy => by have := ht y hy; omega)
    have e : maskN (l.take (i + 1)) = maskN (l.take i) ||| 2 ^ (l[i]).toNat := by
      rw [List.take_succ_eq_append_getElem hi]
      unfold maskN orBits
      rw [List.foldl_append]
      rfl
    have hb : bitB (maskN (l.take i)) (l[i]).toNat = (l.take i).contains l[i] := by
      rw [bitB_test, maskN_test _ _ (fun y hy => (ht y hy).1), show (((l[i]).toNat : Nat) : Int) = l[i] by omega]
    have hn : newAt l i = !((l.take i).contains l[i]) := by
      unfold newAt
      rw [List.getD_eq_getElem?_getD, List.getElem?_eq_getElem hi, Option.getD_some]
    rw [e, popN_or hm (by omega), hb, List.range'_1_concat, List.all_append, Nat.zero_add, Bool.and_eq_true]
    simp only [List.all_cons, List.all_nil, Bool.and_true, hn]
    generalize popN (maskN (l.take i)) = p at *
    cases (l.take i).contains l[i] with
    | true => simp; omega
    | false =>
      simp only [Bool.not_false, and_true, Bool.false_eq_true, if_false]
      exact ⟨by omega, by rw [← h2]; omega⟩
theorem impl_isOrder.ev (l : List Int) (n : Int) (h1 : 1 ≤ n) (h9 : n ≤ 9) (hl : l.length ≤ 9223372036854775807) : Ev (fun k => impl_isOrder.f k l n) (orderB n l) := by
  simp only [impl_isOrder.f]
  unfold orderB
  by_cases c : (l.length : Int) = n
  · rw [ev_pos c, decide_eq_true c, Bool.true_and, w64 (by omega) (by omega), ev_bind (ev_of (show impl_areIn.f l 0 (n - 1) = some _ from rfl))]
    cases hb : (l.all fun x => decide (0 ≤ x) && decide (x ≤ n - 1)) with
    | false => rw [ev_neg (by decide), ev_now, Bool.false_and]
    | true =>
      have hx : ∀ x ∈ l, 0 ≤ x ∧ x ≤ 8 := fun x h => by
        have := List.all_eq_true.1 hb x h
        simp only [Bool.and_eq_true, decide_eq_true_eq] at this
        omega
      have hm : maskN l < 512 := maskN_lt 9 l (fun y hy => by have := hx y hy; omega)
      obtain ⟨-, h2⟩ := popN_take l hx l.length (Nat.le_refl _)
      rw [List.take_length] at h2
      rw [ev_pos rfl, ev_bind (impl_maskOf.ev l hl (fun x h => by have := hx x h; omega)), ev_bind (ev_of (impl_count.v hm)), ev_now, Bool.true_and, Bool.eq_iff_iff, ← h2, beq_iff_eq]
      omega
  · rw [ev_neg c, ev_now, decide_eq_false c, Bool.false_and]
theorem spec_l1Has.ev_l (l : List Int) (a : Int) (hl : l.length ≤ 9223372036854775807) : ∀ (d i : Nat), i + d = l.length → Ev (fun k => spec_l1Has.l0 k a l (l.length : Int) (i : Int)) ((l.drop i).contains a) := by
  intro d
  induction d with
  | zero =>
    intro i h
    refine ev_step ?_
    simp only [spec_l1Has.l0]
    rw [ev_neg (by omega), ev_now, List.drop_of_length_le (by omega)]
    rfl
  | succ d ih =>
    intro i h
    refine ev_step ?_
    simp only [spec_l1Has.l0]
    have hi : i < l.length := by omega
    rw [ev_pos (by omega), ev_pos (by omega), ev_pos (by omega), rd_lt l i hi, w64i (n := l.length) (by omega) (by omega) hl, List.drop_eq_getElem_cons hi, List.contains_cons]
    by_cases c : l[i] = a
    · rw [ev_pos c, ev_now, c, beq_self_eq_true, Bool.true_or]
    · rw [ev_neg c, beq_eq_false_iff_ne.2 (fun h => c h.symm), Bool.false_or]
      exact ih (i + 1) (by omega)
theorem spec_l1Has.ev (l : List Int) (a : Int) (hl : l.length ≤ 9223372036854775807) : Ev (fun k => spec_l1Has.f k l a) (l.contains a) := spec_l1Has.ev_l l a hl l.length 0 (by omega)
theorem spec_voOrder.ev_l (l : List Int) (hl : l.length ≤ 9223372036854775807) : ∀ (d i : Nat), i + d = l.length → Ev (fun k => spec_voOrder.l0 k l l (l.length : Int) (i : Int)) ((List.range' i d).all (newAt l)) := by
  intro d
  induction d with
  | zero =>
    intro i h
    refine ev_step ?_
    simp only [spec_voOrder.l0]
    rw [ev_neg (by omega), ev_now]
    rfl
  | succ d ih =>
    intro i h
    refine ev_step ?_
    simp only [spec_voOrder.l0]
    have hi : i < l.length := by omega
    have hn : newAt l i = !((l.take i).contains l[i]) := by
      unfold newAt
      rw [List.getD_eq_getElem?_getD, List.getElem?_eq_getElem hi, Option.getD_some]
    rw [ev_pos (by omega), ev_pos (by omega), ev_pos (by omega), ev_pos (by omega), rd_lt l i hi, w64i (n := l.length) (by omega) (by omega) hl, Int.toNat_natCast, ev_bind (spec_l1Has.ev (l.take i) l[i] (by rw [List.length_take]; omega)), List.range'_succ, List.all_cons, hn]
    cases (l.take i).contains l[i] with
    | true => rw [ev_pos rfl, ev_now]; rfl
    | false =>
      rw [ev_neg (by decide)]
      exact ih (i + 1) (by omega)
theorem spec_voOrder.ev (n : Int) (l : List Int) (h1 : 1 ≤ n) (h9 : n ≤ 9) (hl : l.length ≤ 9223372036854775807) : Ev (fun k => spec_voOrder.f k n l) (orderB n l) := by
  have hz : Ev (fun k => spec_voOrder.j0 k l true) false := by
    refine ev_step ?_
    simp only [spec_voOrder.j0]
    rw [ev_pos trivial, ev_now]
  simp only [spec_voOrder.f]
  unfold orderB
  by_cases c : (l.length : Int) = n
  · rw [ev_pos c, decide_eq_true c, Bool.true_and, w64 (by omega) (by omega), ev_bind (spec_l1All.ev l 0 (n - 1) hl)]
    cases hb : (l.all fun x => decide (0 ≤ x) && decide (x ≤ n - 1)) with
    | false => exact hz
    | true =>
      refine ev_step ?_
      simp only [spec_voOrder.j0]
      rw [ev_neg (by decide), Bool.true_and]
      exact spec_voOrder.ev_l l hl l.length 0 (by omega)
  · rw [ev_neg c, decide_eq_false c, Bool.false_and]
    exact hz
theorem nodup_range : ∀ (n : Nat) (l : List Nat), l.Nodup → (∀ x ∈ l, x < n) → l.length = n → l.Perm (List.range n)
  | 0, l, _, _, h => by
    have : l = [] := List.eq_nil_of_length_eq_zero h
    subst this
    exact List.Perm.refl _
  | n + 1, l, hd, hl, h => by
    by_cases hm : n ∈ l
    · have hp := List.perm_cons_erase hm
      have hlen : (l.erase n).length = n := by rw [List.length_erase_of_mem hm]; omega
      have ih := nodup_range n (l.erase n) (hd.erase n) (fun x hx => by
        have h2 := hd.mem_erase_iff.1 hx
        have := hl x h2.2
        omega) hlen
      rw [List.range_succ]
      exact hp.trans ((ih.cons n).trans (List.perm_append_singleton n (List.range n)).symm)
    · exfalso
      have := nodup_le n l hd (fun x hx => by
        have h2 := hl x hx
        have h3 : x ≠ n := fun e => hm (e ▸ hx)
        omega)
      omega
theorem order_facts {n : Nat} {l : List Int} (h : orderB (n : Int) l = true) : l.length = n ∧ (∀ x ∈ l, 0 ≤ x ∧ x < (n : Int)) ∧ (l.map Int.toNat).Nodup ∧ (l.map Int.toNat).Perm (List.range n) := by
  simp only [orderB, Bool.and_eq_true, decide_eq_true_eq] at h
  obtain ⟨h1, h2, h3⟩ := h
  have hin : ∀ x ∈ l, 0 ≤ x ∧ x < (n : Int) := fun x hx => by
    have := List.all_eq_true.1 h2 x hx
    simp only [Bool.and_eq_true, decide_eq_true_eq] at this
    omega
  have hnd : (l.map Int.toNat).Nodup := by
    rw [List.Nodup, List.pairwise_map, List.pairwise_iff_getElem]
    intro i j hi hj hij e
    have h4 := List.all_eq_true.1 h3 j (by rw [List.mem_range'_1]; omega)
    unfold newAt at h4
    rw [List.getD_eq_getElem?_getD, List.getElem?_eq_getElem hj, Option.getD_some, Bool.not_eq_true', List.contains_eq_mem, decide_eq_false_iff_not] at h4
    refine h4 ?_
    have h5 := hin l[i] (List.getElem_mem hi)
    have h6 := hin l[j] (List.getElem_mem hj)
    have h7 : l[i] = l[j] := by omega
    rw [← h7]
    exact List.mem_take_iff_getElem.2 ⟨i, by omega, rfl⟩
  refine ⟨by omega, hin, hnd, nodup_range n _ hnd (fun x hx => ?_) (by rw [List.length_map]; omega)⟩
  obtain ⟨y, hy, rfl⟩ := List.mem_map.1 hx
  have := hin y hy
  omega
theorem order_perm {ws l : List Int} (h : orderB (ws.length : Int) l = true) : (l.map fun i => ws.getD i.toNat 0).Perm ws := by
  obtain ⟨_, _, _, hp⟩ := order_facts h
  have h1 := hp.map (fun i => ws.getD i 0)
  rw [List.map_map] at h1
  have h2 : (List.range ws.length).map (fun i => ws.getD i 0) = ws := by
    refine List.ext_getElem (by simp) (fun i h3 h4 => ?_)
    simp [List.getD_eq_getElem?_getD, h4]
  rw [h2] at h1
  exact h1
theorem bt_txb (l : List UInt8) (i : Nat) (h : i < l.length) : bt (txb l) (i : Int) = ((l[i].toNat : Nat) : Int) := by
  unfold bt
  rw [dif_pos (by rw [txb_size, Int.toNat_natCast]; exact h)]
  simp only [Int.toNat_natCast]
  rfl
theorem txb_inj {a b : List UInt8} (h : txb a = txb b) : a = b := by
  have := congrArg (fun z : ByteArray => z.data.toList) h
  exact this
theorem txb_toList (a b : ByteArray) : a.toList = b.toList ↔ a = b := by
  constructor
  · intro h
    rw [Go.Lib.toList_data, Go.Lib.toList_data] at h
    rw [txb_of a, txb_of b, h]
  · rintro rfl; rfl
theorem txb_extract (l : List UInt8) (a b : Nat) : (txb l).extract a b = txb ((l.drop a).take (b - a)) := by
  rw [txb_of ((txb l).extract a b), Go.Lib.extract_data, txb_data]
theorem rd_txb (L : List (List UInt8)) (j : Nat) (h : j < L.length) : rdOf ByteArray.empty (L.map txb) (j : Int) = txb L[j] := by
  unfold rdOf
  simp [h]
theorem atoi_dgt {n : Nat} (h : n ≤ 9000) : Go.Lib.atoiAll (dgt n) = .ok (n : Int) := by
  have h1 := List.all_eq_true.1 atoi_dgt_all n (List.mem_range.2 (by omega))
  unfold okB at h1
  split at h1
  · next v hv => rw [hv, of_decide_eq_true h1]
  · cases h1
theorem impl_readNumber.hit {n m : Int} (h0 : 0 ≤ n) (h1 : n ≤ m) (hm : m ≤ 9000) : impl_readNumber.f (txb (dgt n.toNat)) m = some (n, true) := by
  have hd := dgt_facts (n := n.toNat) (by omega)
  unfold impl_readNumber.f
  rw [if_pos ⟨by rw [txb_size]; omega, by omega⟩, txb_data, atoi_dgt (by omega)]
  simp only
  rw [if_pos ⟨by omega, by omega⟩, show (((n.toNat : Nat) : Int)).toNat = n.toNat from Int.toNat_natCast _, dgt_eq (by omega)]
  rw [show ((n.toNat : Nat) : Int) = n by omega]
  exact congrArg some (if_pos rfl)
theorem impl_readNumber.is {s : List UInt8} {m : Int} (hs : s.length ≤ 1048576) (hm : m ≤ 9000) : ∃ n ok, impl_readNumber.f (txb s) m = some (n, ok) ∧ (ok = true → 0 ≤ n ∧ n ≤ m ∧ s = dgt n.toNat) := by
  unfold impl_readNumber.f
  rw [if_pos ⟨by rw [txb_size]; exact hs, by omega⟩]
  refine ⟨_, _, rfl, ?_⟩
  split
  · next v hv =>
    split
    · next hv2 =>
      split
      · next ht =>
        intro _
        refine ⟨hv2.1, hv2.2, ?_⟩
        rw [txb_toList] at ht
        rw [dgt_eq (by omega)] at ht
        exact (txb_inj ht).symm
      · intro h; cases h
    · intro h; cases h
  · intro h; cases h
def numN (l : List UInt8) (s : Nat) : Nat := l.foldl (fun s b => 10 * s + (b.toNat - 48)) s
theorem spec_l1Read.ev_l (l : List UInt8) (hl : l.length ≤ 6) (hd : ∀ b ∈ l, 48 ≤ b.toNat ∧ b.toNat ≤ 57) : ∀ (d i s : Nat), i + d = l.length → s < 10 ^ i → Ev (fun k => spec_l1Read.l0 k (txb l) (s : Int) (i : Int)) ((numN (l.drop i) s : Nat) : Int) := by
  have hs := txb_size l
  intro d
  induction d with
  | zero =>
    intro i s h hb
    refine ev_step ?_
    simp only [spec_l1Read.l0]
    rw [ev_neg (by omega), ev_now, List.drop_of_length_le (by omega)]
    rfl
  | succ d ih =>
    intro i s h hb
    refine ev_step ?_
    simp only [spec_l1Read.l0]
    have hi : i < l.length := by omega
    have hx := hd _ (List.getElem_mem hi)
    have hp : 10 ^ (i + 1) = 10 ^ i * 10 := Nat.pow_succ 10 i
    have hp6 : 10 ^ i ≤ 10 ^ 6 := Nat.pow_le_pow_right (by omega) (by omega)
    have hih := ih (i + 1) (10 * s + (l[i].toNat - 48)) (by omega) (by omega)
    have e1 : ((((l[i].toNat : Nat) : Int) - 48) % 256) = ((l[i].toNat - 48 : Nat) : Int) := by omega
    rw [ev_pos (by omega), ev_pos (by omega), bt_txb l i hi, ev_neg (by omega), ev_neg (by omega), e1, w64 (x := 10 * (s : Int)) (by omega) (by omega), w64 (x := (i : Int) + 1) (by omega) (by omega), w64 (by omega) (by omega), List.drop_eq_getElem_cons hi, show 10 * (s : Int) + ((l[i].toNat - 48 : Nat) : Int) = ((10 * s + (l[i].toNat - 48) : Nat) : Int) by omega]
    exact hih
theorem spec_l1Read.ex_l (l : List UInt8) (hl : l.length ≤ 6) : ∀ (d i : Nat) (s : Int), i + d = l.length → ∃ v, Ev (fun k => spec_l1Read.l0 k (txb l) s (i : Int)) v := by
  have hs := txb_size l
  intro d
  induction d with
  | zero =>
    intro i s h
    refine ⟨s, ev_step ?_⟩
    simp only [spec_l1Read.l0]
    rw [ev_neg (by omega), ev_now]
  | succ d ih =>
    intro i s h
    have hi : i < l.length := by omega
    by_cases c1 : bt (txb l) (i : Int) < 48
    · refine ⟨-1, ev_step ?_⟩
      simp only [spec_l1Read.l0]
      rw [ev_pos (by omega), ev_pos (by omega), ev_pos c1, ev_now]
    · by_cases c2 : bt (txb l) (i : Int) > 57
      · refine ⟨-1, ev_step ?_⟩
        simp only [spec_l1Read.l0]
        rw [ev_pos (by omega), ev_pos (by omega), ev_neg c1, ev_pos c2, ev_now]
      · obtain ⟨v, hv⟩ := ih (i + 1) (wrap64 ((wrap64 (10 * s)) + (((bt (txb l) (i : Int)) - 48) % 256))) (by omega)
        refine ⟨v, ev_step ?_⟩
        simp only [spec_l1Read.l0]
        rw [ev_pos (by omega), ev_pos (by omega), ev_neg c1, ev_neg c2, w64 (x := (i : Int) + 1) (by omega) (by omega)]
        exact hv
theorem spec_l1Read.ex (l : List UInt8) : ∃ v, Ev (fun k => spec_l1Read.f k (txb l)) v := by
  have hs := txb_size l
  have hin : spec_l1In.f ((txb l).size : Int) 1 6 = some (decide (1 ≤ l.length) && decide (l.length ≤ 6)) := by
    rw [spec_l1In.v, hs]
    congr 1
    rw [Bool.eq_iff_iff]
    simp only [Bool.and_eq_true, decide_eq_true_eq]
    omega
  simp only [spec_l1Read.f]
  by_cases c : 1 ≤ l.length ∧ l.length ≤ 6
  · have e : (decide (1 ≤ l.length) && decide (l.length ≤ 6)) = true := by rw [decide_eq_true c.1, decide_eq_true c.2]; rfl
    have hj : ∀ b : Bool, ∃ v, Ev (fun k => spec_l1Read.j0 k (txb l) b) v := by
      intro b
      cases b with
      | true =>
        refine ⟨-1, ev_step ?_⟩
        simp only [spec_l1Read.j0]
        rw [ev_pos trivial, ev_now]
      | false =>
        obtain ⟨v, hv⟩ := spec_l1Read.ex_l l c.2 l.length 0 0 (Nat.zero_add _)
        refine ⟨v, ev_step ?_⟩
        simp only [spec_l1Read.j0]
        rw [ev_neg (by decide)]
        exact hv
    by_cases c0 : bt (txb l) 0 = 48
    · obtain ⟨v, hv⟩ := hj (decide (((txb l).size : Int) > 1))
      refine ⟨v, ?_⟩
      rw [ev_bind (ev_of hin), e, ev_pos rfl, ev_pos (by omega), ev_pos c0]
      exact hv
    · obtain ⟨v, hv⟩ := hj false
      refine ⟨v, ?_⟩
      rw [ev_bind (ev_of hin), e, ev_pos rfl, ev_pos (by omega), ev_neg c0]
      exact hv
  · refine ⟨-1, ?_⟩
    have e : (decide (1 ≤ l.length) && decide (l.length ≤ 6)) = false := by
      rw [Bool.eq_false_iff]
      simp only [ne_eq, Bool.and_eq_true, decide_eq_true_eq]
      exact c
    rw [ev_bind (ev_of hin), e, ev_neg (by decide)]
    refine ev_step ?_
    simp only [spec_l1Read.j0]
    rw [ev_pos trivial, ev_now]
def numB (n : Nat) : Bool := decide (numN (dgt n) 0 = n) && (decide ((dgt n).length = 1) || !(decide (((dgt n).getD 0 0).toNat = 48)))
set_option maxRecDepth 100000 in
theorem num_dgt_all : ((List.range 9001).all numB) = true := by decide +kernel
theorem spec_l1Read.hit {n : Int} (h0 : 0 ≤ n) (h : n ≤ 9000) : Ev (fun k => spec_l1Read.f k (txb (dgt n.toNat))) n := by
  obtain ⟨d1, d2, d3⟩ := dgt_facts (n := n.toNat) (by omega)
  have hb := List.all_eq_true.1 num_dgt_all n.toNat (List.mem_range.2 (by omega))
  simp only [numB, Bool.and_eq_true, Bool.or_eq_true, decide_eq_true_eq, Bool.not_eq_true', decide_eq_false_iff_not] at hb
  have hs := txb_size (dgt n.toNat)
  have hin : spec_l1In.f ((txb (dgt n.toNat)).size : Int) 1 6 = some true := by
    rw [spec_l1In.v, hs]
    congr 1
    simp only [Bool.and_eq_true, decide_eq_true_eq]
    omega
  have hl := spec_l1Read.ev_l (dgt n.toNat) (by omega) d3 (dgt n.toNat).length 0 0 (Nat.zero_add _) (by simp)
  rw [List.drop_zero, hb.1, show ((n.toNat : Nat) : Int) = n by omega] at hl
  have hj : Ev (fun k => spec_l1Read.j0 k (txb (dgt n.toNat)) false) n := by
    refine ev_step ?_
    simp only [spec_l1Read.j0]
    rw [ev_neg (by decide)]
    exact hl
  have b0 := bt_txb (dgt n.toNat) 0 (by omega)
  have e0 : (dgt n.toNat).getD 0 0 = (dgt n.toNat)[0]'(by omega) := by
    rw [List.getD_eq_getElem?_getD, List.getElem?_eq_getElem (by omega), Option.getD_some]
  simp only [spec_l1Read.f]
  rw [ev_bind (ev_of hin), ev_pos rfl, ev_pos (by omega), show bt (txb (dgt n.toNat)) 0 = _ from b0]
  by_cases c : (((dgt n.toNat)[0]'(by omega)).toNat : Int) = 48
  · rcases hb.2 with h1 | h1
    · rw [ev_pos c, decide_eq_false (by omega)]
      exact hj
    · rw [e0] at h1
      omega
  · rw [ev_neg c]
    exact hj
def spc (c : UInt8) : List UInt8 → List (List UInt8)
  | [] => [[]]
  | b :: t => if b = c then [] :: spc c t else match spc c t with
    | x :: r => (b :: x) :: r
    | [] => [[b]]
theorem spc_cons (c : UInt8) (l : List UInt8) : ∃ x r, spc c l = x :: r := by
  cases l with
  | nil => exact ⟨_, _, rfl⟩
  | cons b t =>
    unfold spc
    by_cases h : b = c
    · rw [if_pos h]; exact ⟨_, _, rfl⟩
    · rw [if_neg h]
      cases spc c t with
      | nil => exact ⟨_, _, rfl⟩
      | cons x r => exact ⟨_, _, rfl⟩
theorem spc_dot (c : UInt8) (t : List UInt8) : spc c (c :: t) = [] :: spc c t := by rw [spc, if_pos rfl]
theorem spc_else {c b : UInt8} {t x : List UInt8} {r : List (List UInt8)} (h : b ≠ c) (e : spc c t = x :: r) : spc c (b :: t) = (b :: x) :: r := by rw [spc, if_neg h, e]
theorem join_spc (c : UInt8) : ∀ l : List UInt8, Go.Lib.join (spc c l) [c] = l
  | [] => by rw [spc, Go.Lib.join_one]
  | b :: t => by
    obtain ⟨x, r, e⟩ := spc_cons c t
    have ih := join_spc c t
    rw [e, Go.Lib.join_cons] at ih
    by_cases h : b = c
    · subst h
      rw [spc_dot, Go.Lib.join_cons, e, List.nil_append, ← ih]
      simp [Go.Lib.joinTail]
    · rw [spc_else h e, Go.Lib.join_cons, ← ih]
      rfl
theorem spc_one (c : UInt8) : ∀ p : List UInt8, (∀ b ∈ p, b ≠ c) → spc c p = [p]
  | [], _ => rfl
  | b :: p, h => spc_else (h b (List.mem_cons_self ..)) (spc_one c p (fun z hz => h z (List.mem_cons_of_mem _ hz)))
theorem spc_app (c : UInt8) : ∀ (p t : List UInt8), (∀ b ∈ p, b ≠ c) → spc c (p ++ c :: t) = p :: spc c t
  | [], t, _ => spc_dot c t
  | b :: p, t, h => spc_else (h b (List.mem_cons_self ..)) (spc_app c p t (fun z hz => h z (List.mem_cons_of_mem _ hz)))
theorem spc_join (c : UInt8) : ∀ (ps : List (List UInt8)), ps ≠ [] → (∀ p ∈ ps, ∀ b ∈ p, b ≠ c) → spc c (Go.Lib.join ps [c]) = ps
  | [], h, _ => absurd rfl h
  | [p], _, h => by rw [Go.Lib.join_one]; exact spc_one c p (h p (List.mem_cons_self ..))
  | p :: q :: r, _, h => by
    have ih := spc_join c (q :: r) (by simp) (fun x hx => h x (List.mem_cons_of_mem _ hx))
    have e : Go.Lib.join (p :: q :: r) [c] = p ++ c :: Go.Lib.join (q :: r) [c] := by
      rw [Go.Lib.join_cons, Go.Lib.join_cons]
      simp [Go.Lib.joinTail]
    rw [e, spc_app c p _ (h p (List.mem_cons_self ..)), ih]
theorem splitK_spc (c : UInt8) : ∀ l : List UInt8, Go.Lib.splitK [c] 0 (Go.Lib.count l [c]) l = spc c l
  | [] => by rw [Go.Lib.count_one]; rfl
  | b :: t => by
    have ih := splitK_spc c t
    by_cases h : b = c
    · subst h
      have hix : Go.Lib.index (b :: t) [b] = ((0 : Nat) : Int) := by rw [Go.Lib.index]; simp [List.isPrefixOf]
      rw [Go.Lib.count_cons_eq, Nat.add_comm, Go.Lib.splitK, hix, spc_dot]
      simp only [Int.toNat_natCast]
      rw [if_neg (by decide)]
      simp only [Nat.add_zero, List.take_zero, Nat.zero_add, List.length_singleton, List.drop_succ_cons, List.drop_zero, ih]
    · have hp : ([c] : List UInt8).isPrefixOf (b :: t) = false := by simp [List.isPrefixOf, Ne.symm h]
      have hix : Go.Lib.index (b :: t) [c] = if Go.Lib.index t [c] == -1 then -1 else Go.Lib.index t [c] + 1 := by rw [Go.Lib.index, hp]; simp
      rw [Go.Lib.count_cons_ne b c t h]
      by_cases hm : Go.Lib.index t [c] = -1
      · rw [Go.Lib.count_miss hm] at ih ⊢
        have e : spc c t = [t] := by rw [← ih]; rfl
        rw [spc_else h e]
        rfl
      · have hge := Go.Lib.index_ge t [c]
        obtain ⟨j, hj⟩ : ∃ j : Nat, Go.Lib.index t [c] = j := ⟨(Go.Lib.index t [c]).toNat, by omega⟩
        have hix' : Go.Lib.index (b :: t) [c] = ((j + 1 : Nat) : Int) := by rw [hix, if_neg (fun e => hm (beq_iff_eq.1 e)), hj]; omega
        have hc := Go.Lib.count_hit (by simp) hj
        obtain ⟨n, hn⟩ : ∃ n, Go.Lib.count t [c] = n + 1 := ⟨_, by rw [hc, Nat.add_comm]⟩
        rw [hn] at ih ⊢
        rw [Go.Lib.splitK, hj, if_neg (by rw [beq_iff_eq]; omega)] at ih
        rw [Go.Lib.splitK, hix', if_neg (by rw [beq_iff_eq]; omega)]
        simp only [Int.toNat_natCast, Nat.add_zero, List.length_singleton] at ih ⊢
        rw [spc_else h ih.symm]
        simp
theorem strings_Split.vc (c : UInt8) (l : List UInt8) (h : l.length ≤ 1048576) : strings_Split.f (txb l) (txb [c]) = some ((spc c l).map txb) := by
  unfold strings_Split.f
  rw [if_pos ⟨by rw [txb_size]; exact h, by rw [txb_size]; exact Nat.le_refl _⟩]
  congr 1
  have e := Go.Lib.splitB_data (txb [c]) 0 (Go.Lib.countB (txb l) (txb [c])) (txb l)
  have e2 : Go.Lib.splitK (txb [c]).data.toList 0 (Go.Lib.countB (txb l) (txb [c])) (txb l).data.toList = spc c l := splitK_spc c l
  rw [e2] at e
  rw [← e, List.map_map]
  conv => lhs; rw [← List.map_id (Go.Lib.splitB (txb [c]) 0 (Go.Lib.countB (txb l) (txb [c])) (txb l))]
  exact List.map_congr_left (fun a _ => txb_of a)
theorem spec_l1Split.evc_l (c : UInt8) (l : List UInt8) (hl : l.length ≤ 1048576) : ∀ (d i j : Nat) (out x : List (List UInt8)) (y : List UInt8) (r : List (List UInt8)), i + d = l.length → j ≤ i → out.length ≤ i → spc c (l.drop i) = y :: r → Ev (fun k => spec_l1Split.l0 k (txb l) ((c.toNat : Nat) : Int) (out.map txb) (j : Int) (i : Int)) ((out ++ (((l.drop j).take (i - j) ++ y) :: r)).map txb) := by
  have hs := txb_size l
  intro d
  induction d with
  | zero =>
    intro i j out x y r h hj ho he
    refine ev_step ?_
    simp only [spec_l1Split.l0]
    rw [List.drop_of_length_le (by omega)] at he
    simp only [spc, List.cons.injEq] at he
    obtain ⟨rfl, rfl⟩ := he
    rw [ev_neg (by omega), ev_pos (by omega), ev_pos (by omega), ev_pos (by rw [List.length_map]; omega), ev_now, Int.toNat_natCast, txb_extract, hs, List.append_nil, List.map_append, List.map_singleton, show i - j = l.length - j by omega]
  | succ d ih =>
    intro i j out x y r h hj ho he
    refine ev_step ?_
    simp only [spec_l1Split.l0]
    have hi : i < l.length := by omega
    have hb := l[i].toNat_lt
    rw [List.drop_eq_getElem_cons hi] at he
    obtain ⟨y', r', e'⟩ := spc_cons c (l.drop (i + 1))
    rw [ev_pos (by omega), ev_pos (by omega), bt_txb l i hi]
    by_cases hcc : l[i] = c
    · rw [hcc, spc_dot, e'] at he
      obtain ⟨rfl, rfl⟩ := List.cons.inj he
      have hih := ih (i + 1) (i + 1) (out ++ [(l.drop j).take (i - j)]) x y' r' (by omega) (Nat.le_refl _) (by rw [List.length_append, List.length_singleton]; omega) e'
      rw [Nat.sub_self, List.take_zero, List.nil_append, List.append_assoc, List.singleton_append, List.map_append, List.map_singleton] at hih
      rw [ev_pos (by rw [hcc]), ev_pos (by omega), ev_pos (by omega), ev_pos (by omega), ev_pos (by rw [List.length_map]; omega), Int.toNat_natCast, Int.toNat_natCast, txb_extract, w64 (x := (i : Int) + 1) (by omega) (by omega), List.append_nil]
      exact hih
    · rw [spc_else hcc e'] at he
      obtain ⟨rfl, rfl⟩ := List.cons.inj he
      have hih := ih (i + 1) j out x y' r' (by omega) (by omega) (by omega) e'
      have e3 : (l.drop j).take (i + 1 - j) = (l.drop j).take (i - j) ++ [l[i]] := by
        rw [show i + 1 - j = (i - j) + 1 by omega, List.take_succ_eq_append_getElem (by rw [List.length_drop]; omega), List.getElem_drop]
        congr 2
        congr 1
        omega
      rw [e3, List.append_assoc, List.singleton_append] at hih
      have c46 : ¬ ((l[i].toNat : Nat) : Int) = ((c.toNat : Nat) : Int) := fun h => hcc (by
        have h2 : l[i].toNat = c.toNat := by omega
        exact UInt8.toNat.inj h2)
      rw [ev_neg c46, w64 (x := (i : Int) + 1) (by omega) (by omega)]
      exact hih
theorem spec_l1Split.evc (c : UInt8) (l : List UInt8) (hl : l.length ≤ 1048576) : Ev (fun k => spec_l1Split.f k (txb l) ((c.toNat : Nat) : Int)) ((spc c l).map txb) := by
  obtain ⟨y, r, e⟩ := spc_cons c l
  have h := spec_l1Split.evc_l c l hl l.length 0 0 [] [] y r (Nat.zero_add _) (Nat.le_refl _) (Nat.le_refl _) e
  simp only [List.drop_zero, Nat.sub_self, List.take_zero, List.nil_append, List.map_nil] at h
  rw [e]
  exact h
theorem index_none : ∀ (l : List UInt8) (c : UInt8), (∀ b ∈ l, b ≠ c) → Go.Lib.index l [c] = -1
  | [], c, _ => by rw [Go.Lib.index]; simp [List.isPrefixOf]
  | b :: t, c, h => by
    have hb := h b (List.mem_cons_self ..)
    have hp : ([c] : List UInt8).isPrefixOf (b :: t) = false := by simp [List.isPrefixOf, Ne.symm hb]
    rw [Go.Lib.index, hp, index_none t c (fun x hx => h x (List.mem_cons_of_mem _ hx))]
    simp
theorem index_at : ∀ (p t : List UInt8) (c : UInt8), (∀ b ∈ p, b ≠ c) → Go.Lib.index (p ++ c :: t) [c] = ((p.length : Nat) : Int)
  | [], t, c, _ => by rw [List.nil_append, Go.Lib.index]; simp [List.isPrefixOf]
  | b :: p, t, c, h => by
    have hb := h b (List.mem_cons_self ..)
    have hp : ([c] : List UInt8).isPrefixOf (b :: (p ++ c :: t)) = false := by simp [List.isPrefixOf, Ne.symm hb]
    rw [List.cons_append, Go.Lib.index, hp, index_at p t c (fun x hx => h x (List.mem_cons_of_mem _ hx))]
    simp only [Bool.false_eq_true, if_false]
    rw [if_neg (by rw [beq_iff_eq]; omega), List.length_cons]
    omega
theorem cut_at (p t : List UInt8) (c : UInt8) (h : ∀ b ∈ p, b ≠ c) : Go.Lib.cut (p ++ c :: t) [c] = (p, t, true) := by
  unfold Go.Lib.cut
  rw [index_at p t c h, if_pos (by omega), Int.toNat_natCast, List.length_singleton, List.take_left' rfl]
  congr 2
  rw [List.drop_append, List.drop_eq_nil_of_le (by omega), List.nil_append, show p.length + 1 - p.length = 1 by omega]
  rfl
theorem cut_cases (l : List UInt8) (c : UInt8) : (∃ a b, Go.Lib.cut l [c] = (a, b, true) ∧ l = a ++ c :: b) ∨ Go.Lib.cut l [c] = (l, [], false) := by
  by_cases h : c ∈ l
  · obtain ⟨a, b, e, hn⟩ := List.append_of_mem h |>.elim (fun a ⟨b, e⟩ => (⟨a, b, e, trivial⟩ : ∃ a b, l = a ++ c :: b ∧ True))
    left
    -- the first place
    have : ∃ a b, l = a ++ c :: b ∧ ∀ x ∈ a, x ≠ c := by
      clear e hn a b
      induction l with
      | nil => cases h
      | cons x t ih =>
        by_cases hx : x = c
        · exact ⟨[], t, by rw [hx]; rfl, fun y hy => by cases hy⟩
        · have ht : c ∈ t := by
            rcases List.mem_cons.1 h with h1 | h1
            · exact absurd h1.symm hx
            · exact h1
          obtain ⟨a, b, e, ha⟩ := ih ht
          refine ⟨x :: a, b, by rw [e]; rfl, fun y hy => ?_⟩
          rcases List.mem_cons.1 hy with rfl | hy
          · exact hx
          · exact ha y hy
    obtain ⟨a, b, e, ha⟩ := this
    exact ⟨a, b, by rw [e]; exact cut_at a b c ha, e⟩
  · right
    unfold Go.Lib.cut
    rw [index_none l c (fun b hb e => h (e ▸ hb)), if_neg (by decide)]
theorem spc_small (c : UInt8) : ∀ l : List UInt8, (spc c l).length ≤ l.length + 1 ∧ ∀ q ∈ spc c l, q.length ≤ l.length
  | [] => by simp [spc]
  | b :: t => by
    obtain ⟨x, r, e⟩ := spc_cons c t
    have ih := spc_small c t
    rw [e] at ih
    by_cases h : b = c
    · rw [h, spc_dot, e]
      refine ⟨by have := ih.1; simp only [List.length_cons] at this ⊢; omega, fun q hq => ?_⟩
      rcases List.mem_cons.1 hq with rfl | hq
      · simp
      · have := ih.2 q hq; rw [List.length_cons]; omega
    · rw [spc_else h e]
      refine ⟨by have := ih.1; simp only [List.length_cons] at this ⊢; omega, fun q hq => ?_⟩
      rcases List.mem_cons.1 hq with rfl | hq
      · have := ih.2 x (List.mem_cons_self ..); rw [List.length_cons, List.length_cons]; omega
      · have := ih.2 q (List.mem_cons_of_mem _ hq); rw [List.length_cons]; omega
theorem mem_join44 : ∀ (ps : List (List UInt8)) (b : UInt8), b ∈ Go.Lib.join ps [44] → b = 44 ∨ ∃ p ∈ ps, b ∈ p
  | [], b, h => by rw [Go.Lib.join_nil] at h; cases h
  | [p], b, h => by
    rw [Go.Lib.join_one] at h
    exact .inr ⟨p, List.mem_cons_self .., h⟩
  | p :: q :: r, b, h => by
    have e : Go.Lib.join (p :: q :: r) [44] = p ++ 44 :: Go.Lib.join (q :: r) [44] := by
      rw [Go.Lib.join_cons, Go.Lib.join_cons]
      simp [Go.Lib.joinTail]
    rw [e] at h
    rcases List.mem_append.1 h with h | h
    · exact .inr ⟨p, List.mem_cons_self .., h⟩
    · rcases List.mem_cons.1 h with h | h
      · exact .inl h
      · rcases mem_join44 (q :: r) b h with h | ⟨x, hx, hb⟩
        · exact .inl h
        · exact .inr ⟨x, List.mem_cons_of_mem _ hx, hb⟩
theorem byte_ne {b c : UInt8} (h : b.toNat ≠ c.toNat) : b ≠ c := fun e => h (by rw [e])
theorem nm_split {ws : List Int} (h : ∀ w ∈ ws, 0 ≤ w ∧ w ≤ 1000) (h1 : 1 ≤ ws.length) : spc 44 (Go.Lib.join (nmL ws) [44]) = nmL ws := by
  refine spc_join 44 (nmL ws) (fun e => by have := nmL_len ws; rw [e] at this; simp at this; omega) (fun p hp b hb => byte_ne ?_)
  have := (nmL_in h p hp).2.2 b hb
  have e : (44 : UInt8).toNat = 44 := rfl
  omega
theorem cm_split {q : Int} {ws : List Int} (hq : 0 ≤ q ∧ q ≤ 9000) (h : ∀ w ∈ ws, 0 ≤ w ∧ w ≤ 1000) : spc 58 (cmT q ws) = [dgt q.toNat, Go.Lib.join (nmL ws) [44]] ∧ Go.Lib.cut (cmT q ws) [58] = (dgt q.toNat, Go.Lib.join (nmL ws) [44], true) := by
  have hd := (dgt_facts (n := q.toNat) (by omega)).2.2
  have e58 : (58 : UInt8).toNat = 58 := rfl
  have h1 : ∀ b ∈ dgt q.toNat, b ≠ 58 := fun b hb => byte_ne (by have := hd b hb; omega)
  have h2 : ∀ b ∈ Go.Lib.join (nmL ws) [44], b ≠ 58 := fun b hb => by
    rcases mem_join44 _ b hb with rfl | ⟨p, hp, hb⟩
    · decide
    · have := (nmL_in h p hp).2.2 b hb
      exact byte_ne (by omega)
  unfold cmT
  exact ⟨by rw [spc_app 58 _ _ h1, spc_one 58 _ h2], cut_at _ _ 58 h1⟩
theorem impl_readNumbers.hit {ws : List Int} (h : ∀ w ∈ ws, 0 ≤ w ∧ w ≤ 1000) (h9 : ws.length ≤ 9) (h1 : 1 ≤ ws.length) : Ev (fun k => impl_readNumbers.f k (txb (Go.Lib.join (nmL ws) [44])) 1000) (ws, true) := by
  have hl := nmL_len ws
  have hj := nmL_join h h9 ws.length (Nat.le_refl _)
  rw [List.take_of_length_le (by omega)] at hj
  have key : ∀ (d i : Nat), i + d = ws.length → Ev (fun k => impl_readNumbers.l0 k 1000 (ws.take i) ((nmL ws).map txb) (((nmL ws).map txb).length : Int) (i : Int)) (ws, true) := by
    intro d
    induction d with
    | zero =>
      intro i hi
      refine ev_step ?_
      simp only [impl_readNumbers.l0]
      rw [ev_neg (by rw [List.length_map]; omega), ev_now, List.take_of_length_le (by omega)]
    | succ d ih =>
      intro i hi
      refine ev_step ?_
      simp only [impl_readNumbers.l0]
      have hil : i < ws.length := by omega
      have hx := h ws[i] (List.getElem_mem hil)
      have hih := ih (i + 1) (by omega)
      have e : (nmL ws)[i]'(by omega) = dgt (ws[i]).toNat := by simp [nmL]
      rw [List.take_succ_eq_append_getElem hil, show ((i + 1 : Nat) : Int) = (i : Int) + 1 by omega] at hih
      rw [ev_pos (by rw [List.length_map]; omega), ev_pos (by omega), ev_pos (by rw [List.length_map]; omega), rd_txb _ i (by omega), e, ev_bind (ev_of (impl_readNumber.hit hx.1 hx.2 (by omega))), ev_pos rfl, ev_pos (by rw [List.length_take]; omega), w64 (by omega) (by omega)]
      exact hih
  simp only [impl_readNumbers.f]
  have hs := strings_Split.vc 44 (Go.Lib.join (nmL ws) [44]) (by omega)
  rw [nm_split h h1] at hs
  rw [ev_bind (ev_of (show strings_Split.f (txb (Go.Lib.join (nmL ws) [44])) (⟨#[44]⟩ : ByteArray) = _ from hs))]
  exact key ws.length 0 (Nat.zero_add _)
theorem impl_readNumbers.is (l : List UInt8) (hl : l.length ≤ 1048576) : ∃ L ok, Ev (fun k => impl_readNumbers.f k (txb l) 1000) (L, ok) ∧ (ok = true → (∀ w ∈ L, 0 ≤ w ∧ w ≤ 1000) ∧ spc 44 l = nmL L) ∧ L.length ≤ 2000000 := by
  have hsm := spc_small 44 l
  have key : ∀ (d i : Nat) (acc : List Int), i + d = (spc 44 l).length → (∀ w ∈ acc, 0 ≤ w ∧ w ≤ 1000) → (spc 44 l).take i = nmL acc → acc.length = i → ∃ L ok, Ev (fun k => impl_readNumbers.l0 k 1000 acc ((spc 44 l).map txb) (((spc 44 l).map txb).length : Int) (i : Int)) (L, ok) ∧ (ok = true → (∀ w ∈ L, 0 ≤ w ∧ w ≤ 1000) ∧ spc 44 l = nmL L) ∧ L.length ≤ 2000000 := by
    intro d
    induction d with
    | zero =>
      intro i acc hi ha ht hlen
      refine ⟨acc, true, ev_step ?_, fun _ => ⟨ha, by rw [← ht, List.take_of_length_le (by omega)]⟩, by omega⟩
      simp only [impl_readNumbers.l0]
      rw [ev_neg (by rw [List.length_map]; omega), ev_now]
    | succ d ih =>
      intro i acc hi ha ht hlen
      have hil : i < (spc 44 l).length := by omega
      obtain ⟨n, ok, hn, hok⟩ := impl_readNumber.is (s := (spc 44 l)[i]) (m := 1000) (by have := hsm.2 _ (List.getElem_mem hil); omega) (by omega)
      cases ok with
      | false =>
        refine ⟨[], false, ev_step ?_, (fun h => by cases h), by simp⟩
        simp only [impl_readNumbers.l0]
        rw [ev_pos (by rw [List.length_map]; omega), ev_pos (by omega), ev_pos (by rw [List.length_map]; omega), rd_txb _ i hil, ev_bind (ev_of hn), ev_neg (by simp), ev_now]
      | true =>
        obtain ⟨n0, n1, e⟩ := hok rfl
        obtain ⟨L, ok, hL, h2, h3⟩ := ih (i + 1) (acc ++ [n]) (by omega) (fun w hw => by
          rcases List.mem_append.1 hw with hw | hw
          · exact ha w hw
          · rw [List.mem_singleton] at hw; omega) (by rw [List.take_succ_eq_append_getElem hil, ht, e, nmL, nmL, List.map_append, List.map_singleton]) (by rw [List.length_append, List.length_singleton]; omega)
        refine ⟨L, ok, ev_step ?_, h2, h3⟩
        simp only [impl_readNumbers.l0]
        rw [ev_pos (by rw [List.length_map]; omega), ev_pos (by omega), ev_pos (by rw [List.length_map]; omega), rd_txb _ i hil, ev_bind (ev_of hn), ev_pos rfl, ev_pos (by omega), w64 (by omega) (by omega)]
        exact hL
  simp only [impl_readNumbers.f]
  obtain ⟨L, ok, h1, h2, h3⟩ := key (spc 44 l).length 0 [] (Nat.zero_add _) (fun w hw => by cases hw) rfl rfl
  refine ⟨L, ok, ?_, h2, h3⟩
  rw [ev_bind (ev_of (show strings_Split.f (txb l) (⟨#[44]⟩ : ByteArray) = _ from strings_Split.vc 44 l hl))]
  exact h1
theorem cut_text (l : List UInt8) (hl : l.length ≤ 1048576) : strings_Cut.f (txb l) (⟨#[58]⟩ : ByteArray) = some (txb (Go.Lib.cut l [58]).1, txb (Go.Lib.cut l [58]).2.1, (Go.Lib.cut l [58]).2.2) := by
  unfold strings_Cut.f
  rw [if_pos (by rw [txb_size]; exact hl)]
  rfl
theorem impl_ParseCommittee.hit {q : Int} {ws : List Int} (hc : GoodC q ws) : Ev (fun k => impl_ParseCommittee.f k (txb (cmT q ws))) (q, ws, true) := by
  have hs := hc.sum
  have hqs := hc.qs
  have h1 := hc.q1
  have hl := cmT_len hc
  have hcut := cut_text (cmT q ws) (by omega)
  rw [(cm_split ⟨by omega, by omega⟩ hc.w).2] at hcut
  simp only [impl_ParseCommittee.f]
  rw [ev_bind (ev_of hcut)]
  dsimp only
  rw [ev_bind (ev_of (impl_readNumber.hit (n := q) (by omega) (by omega) (by omega))), ev_bind (impl_readNumbers.hit hc.w hc.l9 hc.l1), ev_pos rfl, ev_pos rfl, ev_bind (impl_ifCommittee.ev q ws (by have := hc.l9; omega)), ev_now, ifGood, if_pos ((good_iff q ws).2 hc)]
theorem impl_ParseCommittee.miss (l : List UInt8) (hl : l.length ≤ 1048576) (hn : ∀ q ws, goodB q ws = true → cmT q ws ≠ l) : Ev (fun k => impl_ParseCommittee.f k (txb l)) (0, [], false) := by
  have hcut := cut_text l hl
  simp only [impl_ParseCommittee.f]
  rw [ev_bind (ev_of hcut)]
  dsimp only
  rcases cut_cases l 58 with ⟨a, b, e, el⟩ | e
  · have hla : a.length ≤ 1048576 ∧ b.length ≤ 1048576 := by rw [el, List.length_append, List.length_cons] at hl; omega
    rw [e]
    dsimp only
    obtain ⟨n, ok, hn1, hok⟩ := impl_readNumber.is (s := a) (m := 9000) hla.1 (by omega)
    obtain ⟨L, ok2, hL, hok2, hLl⟩ := impl_readNumbers.is b hla.2
    rw [ev_bind (ev_of hn1), ev_bind hL]
    cases ok with
    | false => rw [ev_neg (by simp), ev_now]
    | true =>
      cases ok2 with
      | false => rw [ev_pos rfl, ev_neg (by simp), ev_now]
      | true =>
        obtain ⟨n0, n1, ea⟩ := hok rfl
        obtain ⟨hw, eb⟩ := hok2 rfl
        rw [ev_pos rfl, ev_pos rfl, ev_bind (impl_ifCommittee.ev n L (by omega)), ev_now, ifGood]
        have hg : ¬ goodB n L = true := fun hg => by
          refine hn n L hg ?_
          unfold cmT
          rw [← ea, ← eb, join_spc, el]
        rw [if_neg hg]
  · rw [e]
    dsimp only
    obtain ⟨n, ok, hn1, hok⟩ := impl_readNumber.is (s := l) (m := 9000) hl (by omega)
    obtain ⟨L, ok2, hL, hok2, hLl⟩ := impl_readNumbers.is [] (by simp)
    have h2 : ok2 = false := by
      cases ok2 with
      | false => rfl
      | true =>
        exfalso
        obtain ⟨hw, eb⟩ := hok2 rfl
        have hlen := nmL_len L
        rw [← eb] at hlen
        simp only [spc, List.length_singleton] at hlen
        have hm : ([] : List UInt8) ∈ nmL L := by rw [← eb]; simp [spc]
        have := (nmL_in hw [] hm).1
        simp at this
    subst h2
    rw [ev_bind (ev_of hn1), ev_bind hL]
    cases ok with
    | false => rw [ev_neg (by simp), ev_now]
    | true => rw [ev_pos rfl, ev_neg (by simp), ev_now]
theorem spec_split58 (l : List UInt8) (hl : l.length ≤ 1048576) : Ev (fun k => spec_l1Split.f k (txb l) 58) ((spc 58 l).map txb) := spec_l1Split.evc 58 l hl
theorem spec_split44 (l : List UInt8) (hl : l.length ≤ 1048576) : Ev (fun k => spec_l1Split.f k (txb l) 44) ((spc 44 l).map txb) := spec_l1Split.evc 44 l hl
theorem spec_ParseCommittee.hit {q : Int} {ws : List Int} (hc : GoodC q ws) : Ev (fun k => spec_ParseCommittee.f k (txb (cmT q ws))) (q, ws, true) := by
  have hs := hc.sum
  have hqs := hc.qs
  have h1 := hc.q1
  have hw9 := hc.l9
  have hl := cmT_len hc
  have hsz := txb_size (cmT q ws)
  have hj := nmL_join hc.w hc.l9 ws.length (Nat.le_refl _)
  have hnl := nmL_len ws
  rw [List.take_of_length_le (by omega)] at hj
  have s1 := spec_split58 (cmT q ws) (by omega)
  rw [(cm_split ⟨by omega, by omega⟩ hc.w).1] at s1
  have s2 := spec_split44 (Go.Lib.join (nmL ws) [44]) (by omega)
  rw [nm_split hc.w hc.l1] at s2
  have key : ∀ (d i : Nat), i + d = ws.length → Ev (fun k => spec_voParse.l0 k (txb (cmT q ws)) ((nmL ws).map txb) (((nmL ws).map txb).length : Int) (i : Int) q (ws.take i)) (q, ws, true) := by
    intro d
    induction d with
    | zero =>
      intro i hi
      refine ev_step ?_
      simp only [spec_voParse.l0]
      rw [ev_neg (by rw [List.length_map]; omega), List.take_of_length_le (by omega), ev_bind (spec_voGood.ev q ws (by omega)), ev_pos ((good_iff q ws).2 hc), ev_bind (spec_voText.ev ⟨by omega, by omega⟩ hc.w hc.l9), ev_now]
      simp
    | succ d ih =>
      intro i hi
      refine ev_step ?_
      simp only [spec_voParse.l0]
      have hil : i < ws.length := by omega
      have hx := hc.w ws[i] (List.getElem_mem hil)
      have hih := ih (i + 1) (by omega)
      have e : (nmL ws)[i]'(by omega) = dgt (ws[i]).toNat := by simp [nmL]
      rw [List.take_succ_eq_append_getElem hil, show ((i + 1 : Nat) : Int) = (i : Int) + 1 by omega] at hih
      rw [ev_pos (by rw [List.length_map]; omega), ev_pos (by omega), ev_pos (by rw [List.length_map]; omega), rd_txb _ i (by omega), e, ev_bind (spec_l1Read.hit hx.1 (by omega)), ev_pos (by rw [List.length_take]; omega), w64 (by omega) (by omega)]
      exact hih
  have hp : Ev (fun k => spec_voParse.f k (txb (cmT q ws))) (q, ws, true) := by
    simp only [spec_voParse.f]
    rw [ev_bind s1, ev_neg (by omega)]
    refine ev_step ?_
    simp only [spec_voParse.j0]
    have r0 : rdOf ByteArray.empty ([dgt q.toNat, Go.Lib.join (nmL ws) [44]].map txb) 0 = txb (dgt q.toNat) := rfl
    have r1 : rdOf ByteArray.empty ([dgt q.toNat, Go.Lib.join (nmL ws) [44]].map txb) 1 = txb (Go.Lib.join (nmL ws) [44]) := rfl
    rw [ev_neg (by simp), ev_pos (by simp), r0, ev_bind (spec_l1Read.hit (n := q) (by omega) (by omega)), ev_pos (by simp), r1, ev_bind s2]
    exact key ws.length 0 (Nat.zero_add _)
  simp only [spec_ParseCommittee.f]
  rw [ev_bind hp, ev_pos rfl, ev_now]
theorem spec_ParseCommittee.miss (l : List UInt8) (hl : l.length ≤ 1048576) (hn : ∀ q ws, goodB q ws = true → cmT q ws ≠ l) : Ev (fun k => spec_ParseCommittee.f k (txb l)) (0, [], false) := by
  have hsz := txb_size l
  have hp : ∃ a b, Ev (fun k => spec_voParse.f k (txb l)) (a, b, false) := by
    have hbad : Ev (fun k => spec_voParse.j0 k (txb l) ((spc 58 l).map txb) true) (0, [], false) := by
      refine ev_step ?_
      simp only [spec_voParse.j0]
      rw [ev_pos trivial, ev_now]
    by_cases c : ((txb l).size : Int) > 60
    · refine ⟨0, [], ?_⟩
      simp only [spec_voParse.f]
      rw [ev_bind (spec_split58 l hl), ev_pos c]
      exact hbad
    · by_cases c2 : (spc 58 l).length = 2
      · have hb : ((((spc 58 l).map txb).length : Int) != 2) = false := by rw [List.length_map, c2]; rfl
        have hsm := spc_small 58 l
        obtain ⟨q, hq⟩ := spec_l1Read.ex ((spc 58 l)[0]'(by omega))
        have h1l := hsm.2 ((spc 58 l)[1]'(by omega)) (List.getElem_mem _)
        generalize hP : (spc 58 l)[1]'(by omega) = P at h1l
        have hsm2 := spc_small 44 P
        have key : ∀ (d i : Nat) (acc : List Int), i + d = (spc 44 P).length → acc.length = i → ∃ a b, Ev (fun k => spec_voParse.l0 k (txb l) ((spc 44 P).map txb) (((spc 44 P).map txb).length : Int) (i : Int) q acc) (a, b, false) := by
          intro d
          induction d with
          | zero =>
            intro i acc hi hal
            cases hg : goodB q acc with
            | false =>
              refine ⟨q, acc, ev_step ?_⟩
              simp only [spec_voParse.l0]
              rw [ev_neg (by rw [List.length_map]; omega), ev_bind (spec_voGood.ev q acc (by omega)), ev_neg (by rw [hg]; decide), ev_now]
            | true =>
              have hc := (good_iff q acc).1 hg
              have hs := hc.sum
              have hqs := hc.qs
              have hq1 := hc.q1
              refine ⟨q, acc, ev_step ?_⟩
              simp only [spec_voParse.l0]
              rw [ev_neg (by rw [List.length_map]; omega), ev_bind (spec_voGood.ev q acc (by omega)), ev_pos hg, ev_bind (spec_voText.ev ⟨by omega, by omega⟩ hc.w hc.l9), ev_now]
              have : ((txb (cmT q acc)).toList == (txb l).toList) = false := by
                rw [beq_eq_false_iff_ne]
                intro h
                rw [txb_toList] at h
                exact hn q acc hg (txb_inj h)
              rw [this]
          | succ d ih =>
            intro i acc hi hal
            have hil : i < (spc 44 P).length := by omega
            obtain ⟨v, hv⟩ := spec_l1Read.ex (spc 44 P)[i]
            obtain ⟨a, b, hab⟩ := ih (i + 1) (acc ++ [v]) (by omega) (by rw [List.length_append, List.length_singleton]; omega)
            refine ⟨a, b, ev_step ?_⟩
            simp only [spec_voParse.l0]
            rw [ev_pos (by rw [List.length_map]; omega), ev_pos (by omega), ev_pos (by rw [List.length_map]; omega), rd_txb _ i hil, ev_bind hv, ev_pos (by omega), w64 (by omega) (by omega)]
            exact hab
        obtain ⟨a, b, hab⟩ := key (spc 44 P).length 0 [] (Nat.zero_add _) rfl
        refine ⟨a, b, ?_⟩
        simp only [spec_voParse.f]
        rw [ev_bind (spec_split58 l hl), ev_neg c, hb]
        refine ev_step ?_
        simp only [spec_voParse.j0]
        have r0 : rdOf ByteArray.empty ((spc 58 l).map txb) 0 = txb ((spc 58 l)[0]'(by omega)) := rd_txb (spc 58 l) 0 (by omega)
        have r1 : rdOf ByteArray.empty ((spc 58 l).map txb) 1 = txb P := by rw [← hP]; exact rd_txb (spc 58 l) 1 (by omega)
        rw [ev_neg (by decide), ev_pos (by rw [List.length_map]; omega), r0, ev_bind hq, ev_pos (by rw [List.length_map]; omega), r1, ev_bind (spec_split44 P (by omega))]
        exact hab
      · refine ⟨0, [], ?_⟩
        have hb : ((((spc 58 l).map txb).length : Int) != 2) = true := by
          rw [List.length_map, bne_iff_ne]
          omega
        simp only [spec_voParse.f]
        rw [ev_bind (spec_split58 l hl), ev_neg c, hb]
        exact hbad
  obtain ⟨a, b, hab⟩ := hp
  simp only [spec_ParseCommittee.f]
  rw [ev_bind hab, ev_neg (by simp), ev_now]
theorem parse_cases (l : List UInt8) (hl : l.length ≤ 1048576) : ∃ q ws ok, Ev (fun k => impl_ParseCommittee.f k (txb l)) (q, ws, ok) ∧ Ev (fun k => spec_ParseCommittee.f k (txb l)) (q, ws, ok) ∧ ws.length ≤ 9 ∧ (ok = true → GoodC q ws ∧ cmT q ws = l) := by
  by_cases h : ∃ q ws, goodB q ws = true ∧ cmT q ws = l
  · obtain ⟨q, ws, hg, rfl⟩ := h
    have hc := (good_iff q ws).1 hg
    exact ⟨q, ws, true, impl_ParseCommittee.hit hc, spec_ParseCommittee.hit hc, hc.l9, fun _ => ⟨hc, rfl⟩⟩
  · have hn : ∀ q ws, goodB q ws = true → cmT q ws ≠ l := fun q ws hg e => h ⟨q, ws, hg, e⟩
    exact ⟨0, [], false, impl_ParseCommittee.miss l hl hn, spec_ParseCommittee.miss l hl hn, by simp, fun h => by cases h⟩
theorem wsum_mono (ws : List Int) (h : ∀ x ∈ ws, 0 ≤ x) : ∀ m m' : Nat, (∀ i, m.testBit i = true → m'.testBit i = true) → wsum ws m ≤ wsum ws m' := by
  induction ws with
  | nil => intro m m' _; simp [wsum]
  | cons w ws ih =>
    intro m m' hs
    have h1 := ih (fun x hx => h x (List.mem_cons_of_mem _ hx)) (m / 2) (m' / 2) (fun i hi => by
      have := hs (i + 1) (by rw [Nat.testBit_succ]; exact hi)
      rw [Nat.testBit_succ] at this
      exact this)
    have h2 := hs 0
    have h3 := h w List.mem_cons_self
    simp only [Nat.testBit_zero, decide_eq_true_eq] at h2
    simp only [wsum]
    split <;> split <;> omega
theorem wins_mono {q : Int} {ws : List Int} (h : ∀ x ∈ ws, 0 ≤ x) {m m' : Nat} (hm : m < 2 ^ ws.length) (hm' : m' < 2 ^ ws.length) (hs : ∀ i, m.testBit i = true → m'.testBit i = true) (hw : (winsL q ws).getD m false = true) : (winsL q ws).getD m' false = true := by
  rw [winsL_getD _ _ _ hm, decide_eq_true_eq] at hw
  rw [winsL_getD _ _ _ hm', decide_eq_true_eq]
  have := wsum_mono ws h m m' hs
  omega
theorem leastB_bits {W : List Bool} {n m : Nat} (h : leastB W n m = true) : W.getD m false = true ∧ ∀ i, i < n → m.testBit i = true → W.getD (m - 2 ^ i) false = false := by
  simp only [leastB, Bool.and_eq_true, List.all_eq_true, List.mem_range] at h
  refine ⟨h.1, fun i hi hb => ?_⟩
  have := h.2 i hi
  rw [bitB_test, hb] at this
  simpa using this
theorem leastB_of {W : List Bool} {n m : Nat} (h1 : W.getD m false = true) (h2 : ∀ i, i < n → m.testBit i = true → W.getD (m - 2 ^ i) false = false) : leastB W n m = true := by
  simp only [leastB, Bool.and_eq_true, List.all_eq_true, List.mem_range]
  refine ⟨h1, fun i hi => ?_⟩
  rw [bitB_test]
  cases hb : m.testBit i with
  | false => rfl
  | true => rw [h2 i hi hb]; rfl
theorem pow_le_of_bit {m i : Nat} (h : m.testBit i = true) : 2 ^ i ≤ m := by
  rcases Nat.lt_or_ge m (2 ^ i) with h2 | h2
  · rw [Nat.testBit_lt_two_pow h2] at h; cases h
  · exact h2
theorem least_sub (W : List Bool) (n : Nat) : ∀ m, m < 2 ^ n → W.getD m false = true → ∃ m', m' < 2 ^ n ∧ leastB W n m' = true ∧ ∀ i, m'.testBit i = true → m.testBit i = true := by
  intro m
  induction m using Nat.strongRecOn with
  | ind m ih =>
    intro hm hw
    by_cases h : ∀ i, i < n → m.testBit i = true → W.getD (m - 2 ^ i) false = false
    · exact ⟨m, hm, leastB_of hw h, fun _ h => h⟩
    · have h := Classical.not_forall.1 h
      obtain ⟨i, h⟩ := h
      simp only [Classical.not_imp, Bool.not_eq_false] at h
      obtain ⟨hi, hb, hv⟩ := h
      have hp := pow_le_of_bit hb
      have h0 := Nat.two_pow_pos i
      obtain ⟨m', a, b, c⟩ := ih (m - 2 ^ i) (by omega) (by omega) hv
      refine ⟨m', a, b, fun j hj => ?_⟩
      have := c j hj
      rw [sub_pow_test m i j hb] at this
      simp only [Bool.and_eq_true] at this
      exact this.1
def memB (q : Int) (ws : List Int) (a : Int) : Bool := goodB q ws && (decide (0 ≤ a) && decide (a ≤ (ws.length : Int) - 1))
theorem impl_isMember.ev (q : Int) (ws : List Int) (a : Int) (hl : ws.length ≤ 9223372036854775807) : Ev (fun k => impl_isMember.f k q ws a) (memB q ws a) := by
  simp only [impl_isMember.f]
  rw [ev_bind (impl_IsCommittee.ev q ws hl)]
  unfold memB
  cases hg : goodB q ws with
  | false => rw [ev_neg (by decide), ev_now]; rfl
  | true =>
    have h9 := ((good_iff q ws).1 hg).l9
    rw [ev_pos rfl, w64 (by omega) (by omega), ev_bind (ev_of (impl_within.v _ _ _)), ev_now]
    rfl
theorem cnt_sum (P : Nat → Bool) : ∀ N, ((List.range N).filter P).length = ((List.range N).map fun m => if P m = true then 1 else 0).sum := by
  intro N
  induction N with
  | zero => rfl
  | succ N ih =>
    rw [List.range_succ, List.filter_append, List.length_append, ih, List.map_append, List.sum_append_nat]
    by_cases h : P N = true
    · simp [h]
    · simp [h]
def cntR (q : Int) : List Int → Nat
  | [] => if q ≤ 0 then 1 else 0
  | w :: ws => cntR q ws + cntR (q - w) ws
theorem cntR_perm {l l' : List Int} (h : l.Perm l') : ∀ q, cntR q l = cntR q l' := by
  induction h with
  | nil => intro q; rfl
  | cons x _ ih => intro q; simp only [cntR, ih]
  | swap x y l =>
    intro q
    simp only [cntR]
    rw [show q - y - x = q - x - y by omega]
    omega
  | trans _ _ h1 h2 => intro q; rw [h1, h2]
theorem even_odd_sum (f : Nat → Nat) : ∀ N, ((List.range (2 * N)).map f).sum = ((List.range N).map fun m => f (2 * m) + f (2 * m + 1)).sum := by
  intro N
  induction N with
  | zero => rfl
  | succ N ih =>
    rw [show 2 * (N + 1) = 2 * N + 1 + 1 by omega, List.range_succ, List.range_succ, List.map_append, List.map_append, List.sum_append_nat, List.sum_append_nat, ih, List.range_succ, List.map_append, List.sum_append_nat]
    simp only [List.map_cons, List.map_nil, List.sum_cons, List.sum_nil]
    omega
theorem cnt_rec : ∀ (ws : List Int) (q : Int), ((List.range (2 ^ ws.length)).map fun m => if decide (q ≤ wsum ws m) = true then 1 else 0).sum = cntR q ws := by
  intro ws
  induction ws with
  | nil =>
    intro q
    by_cases h : q ≤ 0 <;> simp [cntR, wsum, h]
  | cons w ws ih =>
    intro q
    rw [List.length_cons, Nat.pow_succ, Nat.mul_comm, even_odd_sum, cntR, ← ih q, ← ih (q - w)]
    have e : ∀ m, ((if decide (q ≤ wsum (w :: ws) (2 * m)) = true then 1 else 0) + if decide (q ≤ wsum (w :: ws) (2 * m + 1)) = true then 1 else 0) = (if decide (q ≤ wsum ws m) = true then 1 else 0) + if decide (q - w ≤ wsum ws m) = true then 1 else 0 := by
      intro m
      have e1 : wsum (w :: ws) (2 * m) = wsum ws m := by
        show (if 2 * m % 2 = 1 then w else 0) + wsum ws (2 * m / 2) = _
        rw [if_neg (by omega), show 2 * m / 2 = m by omega]
        omega
      have e2 : wsum (w :: ws) (2 * m + 1) = w + wsum ws m := by
        show (if (2 * m + 1) % 2 = 1 then w else 0) + wsum ws ((2 * m + 1) / 2) = _
        rw [if_pos (by omega), show (2 * m + 1) / 2 = m by omega]
      rw [e1, e2]
      congr 1
      by_cases c : q - w ≤ wsum ws m
      · rw [decide_eq_true c, decide_eq_true (by omega)]
      · rw [decide_eq_false c, decide_eq_false (by omega)]
    have h2 : ∀ (L : List Nat), (L.map fun m => (if decide (q ≤ wsum (w :: ws) (2 * m)) = true then 1 else 0) + if decide (q ≤ wsum (w :: ws) (2 * m + 1)) = true then 1 else 0).sum = (L.map fun m => if decide (q ≤ wsum ws m) = true then 1 else 0).sum + (L.map fun m => if decide (q - w ≤ wsum ws m) = true then 1 else 0).sum := by
      intro L
      induction L with
      | nil => rfl
      | cons a L ih2 =>
        simp only [List.map_cons, List.sum_cons, e] at ih2 ⊢
        omega
    exact h2 _
theorem cntW_rec (q : Int) (ws : List Int) : cntW (winsL q ws) = ((cntR q ws : Nat) : Int) := by
  rw [cntW_range, cnt_sum, winsL_length, ← cnt_rec]
  congr 2
  refine List.map_congr_left (fun m hm => ?_)
  rw [winsL_getD q ws m (List.mem_range.1 hm)]
theorem cntW_perm {q : Int} {ws ws' : List Int} (h : ws.Perm ws') : cntW (winsL q ws) = cntW (winsL q ws') := by rw [cntW_rec, cntW_rec, cntR_perm h]
theorem impl_Clone.v (l : List Int) (h : l.length < 17592186044416) : slices_Clone_int_int.f l = some l := by
  simp [slices_Clone_int_int.f, h]
theorem spec_Own.v (l : List Int) (h : l.length < 17592186044416) : spec_l1Own.f l = some l := by
  simp [spec_l1Own.f, h]
theorem slices_Equal_bool_bool.ev_l (a b : List Bool) (hl : a.length ≤ 9223372036854775807) (hab : a.length = b.length) : ∀ (d i : Nat), i + d = a.length → Ev (fun k => slices_Equal_bool_bool.l0 k a b (a.length : Int) (i : Int)) (decide (a.drop i = b.drop i)) := by
  intro d
  induction d with
  | zero =>
    intro i h
    refine ev_step ?_
    simp only [slices_Equal_bool_bool.l0]
    rw [ev_neg (by omega), ev_now, List.drop_of_length_le (by omega), List.drop_of_length_le (by omega)]
    rfl
  | succ d ih =>
    intro i h
    refine ev_step ?_
    simp only [slices_Equal_bool_bool.l0]
    have hi : i < a.length := by omega
    have hib : i < b.length := by omega
    have e : decide (a.drop i = b.drop i) = (decide (a[i] = b[i]) && decide (a.drop (i + 1) = b.drop (i + 1))) := by
      rw [List.drop_eq_getElem_cons hi, List.drop_eq_getElem_cons hib, Bool.eq_iff_iff]
      simp only [Bool.and_eq_true, decide_eq_true_eq, List.cons.injEq]
    rw [ev_pos (by omega), ev_pos (by omega), ev_pos (by omega), ev_pos (by omega), rdOf_lt false a i hi, rdOf_lt false b i hib, w64i (n := a.length) (by omega) (by omega) hl, e]
    by_cases c : a[i] = b[i]
    · rw [ev_neg (by simp [c]), decide_eq_true c, Bool.true_and]
      exact ih (i + 1) (by omega)
    · rw [ev_pos (by simp [c]), ev_now, decide_eq_false c]
      rfl
theorem slices_Equal_bool_bool.ev (a b : List Bool) (hl : a.length ≤ 9223372036854775807) : Ev (fun k => slices_Equal_bool_bool.f k a b) (decide (a = b)) := by
  simp only [slices_Equal_bool_bool.f]
  by_cases c : (a.length : Int) = (b.length : Int)
  · rw [ev_pos c]
    exact slices_Equal_bool_bool.ev_l a b hl (by omega) a.length 0 (by omega)
  · rw [ev_neg c, ev_now, decide_eq_false (fun h => c (by rw [h]))]
def asmV (q : Int) (ws : List Int) (q' : Int) (ws' : List Int) : Bool × Bool := if goodB q ws = true ∧ goodB q' ws' = true then (decide (winsL q ws = winsL q' ws'), true) else (false, false)
theorem impl_AreSameVotes.ev (q : Int) (ws : List Int) (q' : Int) (ws' : List Int) (hl : ws.length ≤ 9223372036854775807) (hl' : ws'.length ≤ 9223372036854775807) : Ev (fun k => impl_AreSameVotes.f k q ws q' ws') (asmV q ws q' ws') := by
  have hf : Ev (fun k => impl_AreSameVotes.j0 k true q ws q' ws') (false, false) := by
    refine ev_step ?_
    simp only [impl_AreSameVotes.j0]
    rw [ev_pos trivial, ev_now]
  simp only [impl_AreSameVotes.f]
  rw [ev_bind (impl_IsCommittee.ev q ws hl)]
  unfold asmV
  cases h1 : goodB q ws with
  | false =>
    rw [ev_neg (by decide), if_neg (by simp)]
    exact hf
  | true =>
    rw [ev_pos rfl, ev_bind (impl_IsCommittee.ev q' ws' hl')]
    cases h2 : goodB q' ws' with
    | false =>
      rw [if_neg (by simp)]
      exact hf
    | true =>
      have c1 := (good_iff q ws).1 h1
      have c2 := (good_iff q' ws').1 h2
      have hw := winsL_length q ws
      have hp := c1.pow
      refine ev_step ?_
      simp only [impl_AreSameVotes.j0, Bool.not_true]
      rw [ev_neg (by decide), ev_bind (impl_Committee_votes.ev q ws c1.l9 c1.wb), ev_bind (impl_Committee_votes.ev q' ws' c2.l9 c2.wb)]
      have hs : Ev (fun k => impl_votes_same.f k (ws.length : Int) (winsL q ws) (ws'.length : Int) (winsL q' ws')) (decide (winsL q ws = winsL q' ws')) := by
        simp only [impl_votes_same.f]
        rw [ev_bind (slices_Equal_bool_bool.ev (winsL q ws) (winsL q' ws') (by omega)), ev_now]
      rw [ev_bind hs, ev_now, if_pos (by simp)]
theorem spec_voAll.v (n : Nat) (hn : n ≤ 60) : spec_voAll.f (n : Int) = some ((2 ^ n - 1 : Nat) : Int) := by
  unfold spec_voAll.f
  have h0 : 0 < 2 ^ n := Nat.two_pow_pos n
  have h : 2 ^ n ≤ 2 ^ 60 := Nat.pow_le_pow_right (by omega) hn
  rw [if_pos (by omega), shl_one n (by omega), w64 (by omega) (by omega)]
  congr 1
  omega
theorem spec_bit (m i : Nat) (hm : m < 2 ^ 62) (hi : i ≤ 62) : Int.tmod (shr .i64 (m : Int) (i : Int)) 2 = ((m / 2 ^ i % 2 : Nat) : Int) := by
  rw [shr_nat m i (by omega)]
  generalize m / 2 ^ i = x
  rw [Int.tmod_eq_emod_of_nonneg (by omega)]
  omega
theorem spec_voWeight.ev_l (q : Int) (ws : List Int) (m : Nat) (hm : m < 2 ^ 62) (hl : ws.length ≤ 60) (hw : ∀ x ∈ ws, 0 ≤ x ∧ x ≤ 1000000000) : ∀ (d i : Nat) (s : Int), i + d = ws.length → 0 ≤ s → s + wsum (ws.drop i) (m / 2 ^ i) ≤ 1000000000000 → Ev (fun k => spec_voWeight.l0 k (m : Int) s ws (ws.length : Int) (i : Int)) (s + wsum (ws.drop i) (m / 2 ^ i)) := by
  intro d
  induction d with
  | zero =>
    intro i s h _ _
    refine ev_step ?_
    simp only [spec_voWeight.l0]
    rw [ev_neg (by omega), ev_now, List.drop_of_length_le (by omega)]
    simp [wsum]
  | succ d ih =>
    intro i s h h0 h1
    refine ev_step ?_
    simp only [spec_voWeight.l0]
    have hi : i < ws.length := by omega
    have hx := hw ws[i] (List.getElem_mem hi)
    have hd : wsum (ws.drop i) (m / 2 ^ i) = (if m / 2 ^ i % 2 = 1 then ws[i] else 0) + wsum (ws.drop (i + 1)) (m / 2 ^ (i + 1)) := by
      rw [wsum_drop ws i _ hi, Nat.div_div_eq_div_mul, ← Nat.pow_succ]
    have hb := wsum_bounds (ws.drop (i + 1)) (fun x hx => (hw x (List.mem_of_mem_drop hx)).1) (m / 2 ^ (i + 1))
    rw [ev_pos (by omega), ev_pos (by omega), ev_pos (by omega), spec_bit m i hm (by omega), w64i (n := ws.length) (by omega) (by omega) (by omega), rd_lt ws i hi, hd]
    rw [hd] at h1
    by_cases hbit : m / 2 ^ i % 2 = 1
    · rw [if_pos hbit] at h1 ⊢
      rw [ev_pos (by rw [hbit]; rfl), w64 (by omega) (by omega), ← Int.add_assoc]
      exact ih (i + 1) (s + ws[i]) (by omega) (by omega) (by omega)
    · rw [if_neg hbit] at h1 ⊢
      rw [ev_neg (by omega), Int.zero_add]
      exact ih (i + 1) s (by omega) h0 (by omega)
theorem spec_voWeight.ev (q : Int) (ws : List Int) (m : Nat) (hm : m < 2 ^ 62) (hl : ws.length ≤ 60) (hw : ∀ x ∈ ws, 0 ≤ x ∧ x ≤ 1000000000) : Ev (fun k => spec_voWeight.f k q ws (m : Int)) (wsum ws m) := by
  have hb := wsum_bounds ws (fun x hx => (hw x hx).1) m
  have hs := sum_bounds ws 1000000000 hw
  have := spec_voWeight.ev_l q ws m hm hl hw ws.length 0 0 (by omega) (by omega) (by simp; omega)
  simpa [spec_voWeight.f] using this
theorem winsL_take (q : Int) (ws : List Int) (m : Nat) (h : m < 2 ^ ws.length) : (winsL q ws).take (m + 1) = (winsL q ws).take m ++ [decide (q ≤ wsum ws m)] := by
  rw [List.take_succ_eq_append_getElem (by rw [winsL_length]; exact h), winsL_get]
theorem spec_voWins.ev_l (q : Int) (ws : List Int) (hl : ws.length ≤ 9) (hw : ∀ x ∈ ws, 0 ≤ x ∧ x ≤ 1000000000) : ∀ (d m : Nat), m + d = 2 ^ ws.length → Ev (fun k => spec_voWins.l0 k ((winsL q ws).take m) (m : Int) q ws) (winsL q ws) := by
  have hp : 2 ^ ws.length ≤ 2 ^ 9 := Nat.pow_le_pow_right (by omega) hl
  have h0 : 0 < 2 ^ ws.length := Nat.two_pow_pos _
  intro d
  induction d with
  | zero =>
    intro m h
    refine ev_step ?_
    simp only [spec_voWins.l0]
    rw [ev_bind (ev_of (spec_voAll.v ws.length (by omega))), ev_neg (by omega), ev_now, List.take_of_length_le (by rw [winsL_length]; omega)]
  | succ d ih =>
    intro m h
    refine ev_step ?_
    simp only [spec_voWins.l0]
    rw [ev_bind (ev_of (spec_voAll.v ws.length (by omega))), ev_pos (by omega), ev_bind (spec_voWeight.ev q ws m (by omega) (by omega) hw), ev_pos (by simp; omega), w64i (n := 512) (by omega) (by omega) (by omega)]
    have := ih (m + 1) (by omega)
    rw [winsL_take q ws m (by omega)] at this
    exact this
theorem spec_voWins.ev (q : Int) (ws : List Int) (hl : ws.length ≤ 9) (hw : ∀ x ∈ ws, 0 ≤ x ∧ x ≤ 1000000000) : Ev (fun k => spec_voWins.f k q ws) (winsL q ws) := by
  have := spec_voWins.ev_l q ws hl hw (2 ^ ws.length) 0 (by omega)
  simpa [spec_voWins.f] using this
def renC (ws o : List Int) : List Int := o.map fun i => ws.getD i.toNat 0
def renV (q : Int) (ws o : List Int) : Int × List Int × Bool := if goodB q ws = true ∧ orderB (ws.length : Int) o = true then (q, renC ws o, true) else (0, [], false)
theorem renC_len (ws o : List Int) : (renC ws o).length = o.length := by simp [renC]
theorem renC_get (ws o : List Int) (i : Nat) (h : i < o.length) : (renC ws o)[i]'(by rw [renC_len]; exact h) = ws.getD (o[i]).toNat 0 := by simp [renC]
theorem impl_RenameCommittee.ev_l {q : Int} {ws o : List Int} (hc : GoodC q ws) (ho : orderB (ws.length : Int) o = true) : ∀ (d i : Nat), i + d = o.length → Ev (fun k => impl_RenameCommittee.l0 k o (o.length : Int) (i : Int) q ws q ((renC ws o).take i)) (q, renC ws o, true) := by
  obtain ⟨hl, hin, _, _⟩ := order_facts ho
  have h9 := hc.l9
  have hrl := renC_len ws o
  intro d
  induction d with
  | zero =>
    intro i h
    refine ev_step ?_
    simp only [impl_RenameCommittee.l0]
    rw [ev_neg (by omega), ev_now, List.take_of_length_le (by omega)]
  | succ d ih =>
    intro i h
    refine ev_step ?_
    simp only [impl_RenameCommittee.l0]
    have hi : i < o.length := by omega
    have hx := hin o[i] (List.getElem_mem hi)
    have hih := ih (i + 1) (by omega)
    obtain ⟨c, hcx⟩ := Int.eq_ofNat_of_zero_le hx.1
    have e := renC_get ws o i hi
    rw [hcx, Int.toNat_natCast] at e
    rw [List.take_succ_eq_append_getElem (by omega), e, show ((i + 1 : Nat) : Int) = (i : Int) + 1 by omega] at hih
    rw [ev_pos (by omega), ev_pos (by omega), ev_pos (by omega), rd_lt o i hi, hcx, ev_pos (by omega), ev_pos (by omega), ev_pos (by rw [List.length_take]; omega), rd_nat, w64 (by omega) (by omega)]
    exact hih
theorem spec_RenameCommittee.ev_l {q : Int} {ws o : List Int} (hc : GoodC q ws) (ho : orderB (ws.length : Int) o = true) : ∀ (d i : Nat), i + d = o.length → Ev (fun k => spec_RenameCommittee.l0 k o (o.length : Int) (i : Int) q ws q ((renC ws o).take i)) (q, renC ws o, true) := by
  obtain ⟨hl, hin, _, _⟩ := order_facts ho
  have h9 := hc.l9
  have hrl := renC_len ws o
  intro d
  induction d with
  | zero =>
    intro i h
    refine ev_step ?_
    simp only [spec_RenameCommittee.l0]
    rw [ev_neg (by omega), ev_now, List.take_of_length_le (by omega)]
  | succ d ih =>
    intro i h
    refine ev_step ?_
    simp only [spec_RenameCommittee.l0]
    have hi : i < o.length := by omega
    have hx := hin o[i] (List.getElem_mem hi)
    have hih := ih (i + 1) (by omega)
    obtain ⟨c, hcx⟩ := Int.eq_ofNat_of_zero_le hx.1
    have e := renC_get ws o i hi
    rw [hcx, Int.toNat_natCast] at e
    rw [List.take_succ_eq_append_getElem (by omega), e, show ((i + 1 : Nat) : Int) = (i : Int) + 1 by omega] at hih
    rw [ev_pos (by omega), ev_pos (by omega), ev_pos (by omega), rd_lt o i hi, hcx, ev_pos (by omega), ev_pos (by omega), ev_pos (by rw [List.length_take]; omega), rd_nat, w64 (by omega) (by omega)]
    exact hih
theorem impl_RenameCommittee.ev (q : Int) (ws o : List Int) (hl : ws.length ≤ 9223372036854775807) (ho : o.length ≤ 9223372036854775807) : Ev (fun k => impl_RenameCommittee.f k q ws o) (renV q ws o) := by
  have hj : Ev (fun k => impl_RenameCommittee.j0 k o true q ws) (0, [], false) := by
    refine ev_step ?_
    simp only [impl_RenameCommittee.j0]
    rw [ev_pos trivial, ev_now]
  simp only [impl_RenameCommittee.f]
  rw [ev_bind (impl_IsCommittee.ev q ws hl)]
  unfold renV
  cases hg : goodB q ws with
  | false =>
    rw [ev_neg (by decide), if_neg (by simp)]
    exact hj
  | true =>
    have hc := (good_iff q ws).1 hg
    have h1 := hc.l1
    have h9 := hc.l9
    rw [ev_pos rfl, ev_bind (impl_isOrder.ev o (ws.length : Int) (by omega) (by omega) ho)]
    cases hr : orderB (ws.length : Int) o with
    | false =>
      rw [if_neg (by simp)]
      exact hj
    | true =>
      rw [if_pos ⟨rfl, rfl⟩]
      refine ev_step ?_
      simp only [impl_RenameCommittee.j0, Bool.not_true]
      rw [ev_neg (by decide)]
      exact impl_RenameCommittee.ev_l hc hr o.length 0 (Nat.zero_add _)
theorem spec_RenameCommittee.ev (q : Int) (ws o : List Int) (hl : ws.length ≤ 9223372036854775807) (ho : o.length ≤ 9223372036854775807) : Ev (fun k => spec_RenameCommittee.f k q ws o) (renV q ws o) := by
  have hj : Ev (fun k => spec_RenameCommittee.j0 k o true q ws) (0, [], false) := by
    refine ev_step ?_
    simp only [spec_RenameCommittee.j0]
    rw [ev_pos trivial, ev_now]
  simp only [spec_RenameCommittee.f]
  rw [ev_bind (spec_voGood.ev q ws hl)]
  unfold renV
  cases hg : goodB q ws with
  | false =>
    rw [ev_neg (by decide), if_neg (by simp)]
    exact hj
  | true =>
    have hc := (good_iff q ws).1 hg
    have h1 := hc.l1
    have h9 := hc.l9
    rw [ev_pos rfl, ev_bind (spec_voOrder.ev (ws.length : Int) o (by omega) (by omega) ho)]
    cases hr : orderB (ws.length : Int) o with
    | false =>
      rw [if_neg (by simp)]
      exact hj
    | true =>
      rw [if_pos ⟨rfl, rfl⟩]
      refine ev_step ?_
      simp only [spec_RenameCommittee.j0, Bool.not_true]
      rw [ev_neg (by decide)]
      exact spec_RenameCommittee.ev_l hc hr o.length 0 (Nat.zero_add _)
def dropW (ws : List Int) (a : Int) : List Int := ws.take a.toNat ++ ws.drop (a.toNat + 1)
def dropV (q : Int) (ws : List Int) (a : Int) : Int × List Int × Bool := if memB q ws a = true then ifGood q (dropW ws a) else (0, [], false)
theorem memB_in {q : Int} {ws : List Int} {a : Int} (h : memB q ws a = true) : GoodC q ws ∧ 0 ≤ a ∧ a < (ws.length : Int) := by
  simp only [memB, Bool.and_eq_true, decide_eq_true_eq] at h
  exact ⟨(good_iff q ws).1 (by simp_all), by omega, by omega⟩
theorem impl_DropMember.ev (q : Int) (ws : List Int) (a : Int) (hl : ws.length ≤ 9223372036854775807) : Ev (fun k => impl_DropMember.f k q ws a) (dropV q ws a) := by
  simp only [impl_DropMember.f]
  rw [ev_bind (impl_isMember.ev q ws a hl)]
  unfold dropV
  cases hm : memB q ws a with
  | false => rw [ev_neg (by decide), ev_now]; rfl
  | true =>
    obtain ⟨hc, h0, h1⟩ := memB_in hm
    have h9 := hc.l9
    obtain ⟨c, rfl⟩ := Int.eq_ofNat_of_zero_le h0
    have hw : wrap64 ((c : Int) + 1) = ((c + 1 : Nat) : Int) := by rw [w64 (by omega) (by omega)]; omega
    have hd : slices_Delete_int_int.f ws (c : Int) (wrap64 ((c : Int) + 1)) = some (dropW ws (c : Int)) := by
      rw [hw]
      unfold slices_Delete_int_int.f dropW
      rw [if_pos ⟨by omega, by omega, by omega, by omega⟩, Int.toNat_natCast, Int.toNat_natCast]
    have hdl : (dropW ws (c : Int)).length ≤ 9223372036854775807 := by
      unfold dropW
      rw [List.length_append, List.length_take, List.length_drop]
      omega
    rw [ev_pos rfl, ev_bind (ev_of (impl_Clone.v ws (by omega))), ev_bind (ev_of hd), ev_bind (impl_ifCommittee.ev q (dropW ws (c : Int)) hdl), ev_now, if_pos rfl]
theorem spec_DropMember.ev (q : Int) (ws : List Int) (a : Int) (hl : ws.length ≤ 9223372036854775807) : Ev (fun k => spec_DropMember.f k q ws a) (dropV q ws a) := by
  have hj : Ev (fun k => spec_DropMember.j0 k a true q ws) (0, [], false) := by
    refine ev_step ?_
    simp only [spec_DropMember.j0]
    rw [ev_pos trivial, ev_now]
  simp only [spec_DropMember.f]
  rw [ev_bind (spec_voGood.ev q ws hl)]
  unfold dropV
  cases hg : goodB q ws with
  | false =>
    rw [ev_neg (by decide), if_neg (by simp [memB, hg])]
    exact hj
  | true =>
    have hc := (good_iff q ws).1 hg
    have h1 := hc.l1
    have h9 := hc.l9
    have em : memB q ws a = (decide (0 ≤ a) && decide (a ≤ (ws.length : Int) - 1)) := by
      rw [Bool.eq_iff_iff]
      simp only [memB, hg, Bool.and_eq_true, decide_eq_true_eq]
      constructor
      · intro h; omega
      · intro h; simp; omega
    rw [ev_pos rfl, ev_bind (ev_of (spec_l1In.v a 0 (wrap64 ((ws.length : Int) - 1)))), w64 (by omega) (by omega), ← em]
    cases hm : memB q ws a with
    | false => rw [if_neg (by simp)]; exact hj
    | true =>
      obtain ⟨_, h0, h2⟩ := memB_in hm
      obtain ⟨c, rfl⟩ := Int.eq_ofNat_of_zero_le h0
      have hw : wrap64 ((c : Int) + 1) = ((c + 1 : Nat) : Int) := by rw [w64 (by omega) (by omega)]; omega
      have hdl : (dropW ws (c : Int)).length ≤ 9223372036854775807 := by
        unfold dropW
        rw [List.length_append, List.length_take, List.length_drop]
        omega
      refine ev_step ?_
      simp only [spec_DropMember.j0, Bool.not_true, Option.bind_some]
      rw [ev_neg (by decide), ev_pos (by omega), ev_pos (by omega), Int.toNat_natCast, ev_bind (ev_of (spec_Own.v (ws.take c) (by rw [List.length_take]; omega))), hw, ev_pos (by omega), ev_pos (by omega), Int.toNat_natCast, ev_pos (by rw [List.length_take, List.length_drop]; omega)]
      have e : ws.take c ++ ws.drop (c + 1) = dropW ws (c : Int) := by rw [dropW, Int.toNat_natCast]
      rw [e, ev_bind (spec_voGood.ev q (dropW ws (c : Int)) hdl), if_pos trivial, ifGood]
      cases hg2 : goodB q (dropW ws (c : Int)) with
      | false => rw [ev_neg (by decide), ev_now]; rfl
      | true => rw [ev_pos rfl, ev_now]; rfl
theorem spec_AreSameVotes.ev_l (a b : List Bool) (hl : a.length = b.length) (hs : a.length ≤ 1000000) : ∀ (d i : Nat), i + d = a.length → Ev (fun k => spec_AreSameVotes.l0 k a b (a.length : Int) (i : Int)) (decide (a.drop i = b.drop i), true) := by
  intro d
  induction d with
  | zero =>
    intro i h
    refine ev_step ?_
    simp only [spec_AreSameVotes.l0]
    rw [ev_neg (by omega), ev_now, List.drop_of_length_le (by omega), List.drop_of_length_le (by omega), decide_eq_true rfl]
  | succ d ih =>
    intro i h
    refine ev_step ?_
    simp only [spec_AreSameVotes.l0]
    have hi : i < a.length := by omega
    have hib : i < b.length := by omega
    have hih := ih (i + 1) (by omega)
    rw [show ((i + 1 : Nat) : Int) = (i : Int) + 1 by omega] at hih
    rw [ev_pos (by omega), ev_pos (by omega), ev_pos (by omega), ev_pos (by omega), rdOf_lt false a i hi, rdOf_lt false b i hib, List.drop_eq_getElem_cons hi, List.drop_eq_getElem_cons hib]
    by_cases c : a[i] = b[i]
    · rw [ev_neg (by simp [c]), w64 (by omega) (by omega)]
      have e : decide (a[i] :: a.drop (i + 1) = b[i] :: b.drop (i + 1)) = decide (a.drop (i + 1) = b.drop (i + 1)) := by
        rw [c, Bool.eq_iff_iff, decide_eq_true_eq, decide_eq_true_eq]
        exact ⟨fun h => (List.cons.inj h).2, fun h => by rw [h]⟩
      rw [e]
      exact hih
    · rw [ev_pos (by simpa using c), ev_now, decide_eq_false (fun e => c (List.cons.inj e).1)]
theorem spec_AreSameVotes.ev (q : Int) (ws : List Int) (q' : Int) (ws' : List Int) (hl : ws.length ≤ 9223372036854775807) (hl' : ws'.length ≤ 9223372036854775807) : Ev (fun k => spec_AreSameVotes.f k q ws q' ws') (asmV q ws q' ws') := by
  have hf : Ev (fun k => spec_AreSameVotes.j0 k true q ws q' ws') (false, false) := by
    refine ev_step ?_
    simp only [spec_AreSameVotes.j0]
    rw [ev_pos trivial, ev_now]
  simp only [spec_AreSameVotes.f]
  rw [ev_bind (spec_voGood.ev q ws hl)]
  unfold asmV
  cases h1 : goodB q ws with
  | false =>
    rw [ev_neg (by decide), if_neg (by simp)]
    exact hf
  | true =>
    rw [ev_pos rfl, ev_bind (spec_voGood.ev q' ws' hl')]
    cases h2 : goodB q' ws' with
    | false =>
      rw [if_neg (by simp)]
      exact hf
    | true =>
      have c1 := (good_iff q ws).1 h1
      have c2 := (good_iff q' ws').1 h2
      have hp := c1.pow
      have hw := winsL_length q ws
      refine ev_step ?_
      simp only [spec_AreSameVotes.j0, Bool.not_true]
      rw [ev_neg (by decide), ev_bind (spec_voWins.ev q ws c1.l9 c1.wb), ev_bind (spec_voWins.ev q' ws' c2.l9 c2.wb), if_pos (by simp)]
      by_cases c : (winsL q ws).length = (winsL q' ws').length
      · rw [ev_pos (by omega)]
        exact spec_AreSameVotes.ev_l _ _ c (by omega) (winsL q ws).length 0 (Nat.zero_add _)
      · rw [ev_neg (by omega), ev_now, decide_eq_false (fun e => c (by rw [e]))]
theorem back_at {n : Nat} {o b : List Int} (ho : orderB (n : Int) o = true) (hbl : b.length = n) (hb : ∀ j, (h : j < o.length) → b.getD (o[j]).toNat 0 = (j : Int)) : ∀ m, (h : m < b.length) → ∃ j, ∃ hj : j < o.length, (o[j]).toNat = m ∧ b[m] = (j : Int) := by
  obtain ⟨hl, hin, hnd, hp⟩ := order_facts ho
  intro m h
  have hm : m ∈ o.map Int.toNat := hp.mem_iff.2 (List.mem_range.2 (by omega))
  obtain ⟨x, hx, e⟩ := List.mem_map.1 hm
  obtain ⟨j, hj, rfl⟩ := List.mem_iff_getElem.1 hx
  have := hb j hj
  rw [e, List.getD_eq_getElem?_getD, List.getElem?_eq_getElem h, Option.getD_some] at this
  exact ⟨j, hj, e, this⟩
theorem order_back {n : Nat} {o b : List Int} (ho : orderB (n : Int) o = true) (hbl : b.length = n) (hb : ∀ j, (h : j < o.length) → b.getD (o[j]).toNat 0 = (j : Int)) : orderB (n : Int) b = true := by
  have hat := back_at ho hbl hb
  obtain ⟨hl, hin, hnd, hp⟩ := order_facts ho
  simp only [orderB, Bool.and_eq_true, decide_eq_true_eq]
  refine ⟨by omega, List.all_eq_true.2 fun x hx => ?_, List.all_eq_true.2 fun m hm => ?_⟩
  · obtain ⟨m, h, rfl⟩ := List.mem_iff_getElem.1 hx
    obtain ⟨j, hj, e, e2⟩ := hat m h
    rw [e2]
    simp only [Bool.and_eq_true, decide_eq_true_eq]
    omega
  · rw [List.mem_range'_1] at hm
    have h : m < b.length := by omega
    unfold newAt
    rw [List.getD_eq_getElem?_getD, List.getElem?_eq_getElem h, Option.getD_some, Bool.not_eq_true', List.contains_eq_mem, decide_eq_false_iff_not]
    intro hc
    obtain ⟨m2, h2, e3⟩ := List.mem_take_iff_getElem.1 hc
    obtain ⟨j, hj, e, e2⟩ := hat m h
    obtain ⟨j2, hj2, e4, e5⟩ := hat m2 (by omega)
    rw [e5, e2] at e3
    have e6 : j2 = j := by omega
    subst e6
    omega
theorem ren_back {ws o b : List Int} (ho : orderB (ws.length : Int) o = true) (hbl : b.length = ws.length) (hb : ∀ j, (h : j < o.length) → b.getD (o[j]).toNat 0 = (j : Int)) : renC (renC ws o) b = ws := by
  have hat := back_at ho hbl hb
  refine List.ext_getElem (by rw [renC_len, hbl]) fun m h1 h2 => ?_
  obtain ⟨j, hj, e, e2⟩ := hat m (by omega)
  have hr : j < (renC ws o).length := by rw [renC_len]; exact hj
  rw [renC_get _ _ m (by omega), e2, Int.toNat_natCast, List.getD_eq_getElem?_getD, List.getElem?_eq_getElem hr, Option.getD_some, renC_get ws o j hj, e, List.getD_eq_getElem?_getD, List.getElem?_eq_getElem h2, Option.getD_some]
theorem sum_perm {a b : List Int} (h : a.Perm b) : a.sum = b.sum := by
  induction h with
  | nil => rfl
  | cons x _ ih => rw [List.sum_cons, List.sum_cons, ih]
  | swap x y l => simp only [List.sum_cons]; omega
  | trans _ _ h1 h2 => rw [h1, h2]
theorem good_perm {q : Int} {a b : List Int} (h : a.Perm b) (hc : GoodC q a) : GoodC q b := by
  have hl := h.length_eq
  have h1 := hc.l1
  have h9 := hc.l9
  have hs := sum_perm h
  have hqs := hc.qs
  exact ⟨by omega, by omega, fun x hx => hc.w x (h.mem_iff.2 hx), hc.q1, by omega⟩
theorem drop_sum {ws : List Int} {a : Nat} (h : a < ws.length) : (dropW ws (a : Int)).sum + ws[a] = ws.sum ∧ (dropW ws (a : Int)).length + 1 = ws.length := by
  have e : ws = ws.take a ++ ws[a] :: ws.drop (a + 1) := by rw [List.getElem_cons_drop, List.take_append_drop]
  have h1 : ws.sum = (ws.take a).sum + (ws[a] + (ws.drop (a + 1)).sum) := by
    conv => lhs; rw [e]
    rw [List.sum_append, List.sum_cons]
  unfold dropW
  rw [Int.toNat_natCast, List.sum_append, List.length_append, List.length_take, List.length_drop]
  omega
theorem set_back {o bk : List Int} {n i : Nat} (ho : orderB (n : Int) o = true) (hb : bk.length = n) (hi : i < o.length) (h : ∀ j, j < i → (hj : j < o.length) → bk.getD (o[j]).toNat 0 = (j : Int)) : ∀ j, j < i + 1 → (hj : j < o.length) → (bk.set (o[i]).toNat (i : Int)).getD (o[j]).toNat 0 = (j : Int) := by
  obtain ⟨hl, hin, hnd, hp⟩ := order_facts ho
  intro j hj1 hj
  have hx := hin o[i] (List.getElem_mem hi)
  rw [List.getD_eq_getElem?_getD]
  by_cases c : j = i
  · subst c
    rw [List.getElem?_set_self (by omega)]
    rfl
  · have hne : (o[i]).toNat ≠ (o[j]).toNat := by
      intro e
      rw [List.Nodup, List.pairwise_map, List.pairwise_iff_getElem] at hnd
      exact hnd j i hj hi (by omega) e.symm
    rw [List.getElem?_set_ne hne, ← List.getD_eq_getElem?_getD]
    exact h j (by omega) hj
theorem setN_inj {m m' : Nat} (h1 : m < 2 ^ 62) (h2 : m' < 2 ^ 62) (h : setN m = setN m') : m = m' := by
  apply Nat.eq_of_testBit_eq
  intro i
  by_cases hi : i < 62
  · rw [← setN_contains m i hi, ← setN_contains m' i hi, h]
  · rw [Nat.testBit_lt_two_pow (Nat.lt_of_lt_of_le h1 (Nat.pow_le_pow_right (by omega) (by omega))), Nat.testBit_lt_two_pow (Nat.lt_of_lt_of_le h2 (Nat.pow_le_pow_right (by omega) (by omega)))]
theorem sortL_contains {P : Nat → Bool} {N m : Nat} (hN : N ≤ 2 ^ 62) (hm : m < N) : (Go.Proofs.YtaambkdiokbdgacGreatDoorS.sortL (takeL P N)).contains (setN m) = P m := by
  rw [Bool.eq_iff_iff, List.contains_iff_mem, (Go.Proofs.YtaambkdiokbdgacGreatDoorS.sortL_perm _).mem_iff]
  constructor
  · intro h
    obtain ⟨m', h1, h2, h3⟩ := takeL_mem _ h
    rw [setN_inj (by omega) (by omega) h3]
    exact h2
  · intro h
    exact List.mem_map.2 ⟨m, List.mem_filter.2 ⟨List.mem_range.2 hm, h⟩, rfl⟩
theorem wins_of_least {q : Int} {ws : List Int} (h0 : ∀ x ∈ ws, 0 ≤ x) {m : Nat} (hm : m < 2 ^ ws.length) : (winsL q ws).getD m false = true ↔ ∃ m', m' < 2 ^ ws.length ∧ leastB (winsL q ws) ws.length m' = true ∧ ∀ i, m'.testBit i = true → m.testBit i = true := by
  constructor
  · intro h
    exact least_sub (winsL q ws) ws.length m hm h
  · rintro ⟨m', h1, h2, h3⟩
    exact wins_mono h0 h1 hm h3 (leastB_bits h2).1
theorem same_of_least {q q' : Int} {ws ws' : List Int} (hc : GoodC q ws) (hc' : GoodC q' ws') (hl : ws.length = ws'.length) (h : (lwV q ws).1 = (lwV q' ws').1) : winsL q ws = winsL q' ws' := by
  have h9 := hc.l9
  have hp := hc.pow
  have g1 : goodB q ws = true := (good_iff q ws).2 hc
  have g2 : goodB q' ws' = true := (good_iff q' ws').2 hc'
  unfold lwV at h
  rw [if_pos g1, if_pos g2] at h
  simp only [winsL_length] at h
  have hlb : ∀ m, m < 2 ^ ws.length → leastB (winsL q ws) ws.length m = leastB (winsL q' ws') ws'.length m := fun m hm => by
    have e1 := sortL_contains (P := leastB (winsL q ws) ws.length) (N := 2 ^ ws.length) (m := m) (by omega) hm
    have e2 := sortL_contains (P := leastB (winsL q' ws') ws'.length) (N := 2 ^ ws'.length) (m := m) (by rw [← hl]; omega) (by rw [← hl]; exact hm)
    rw [← e1, ← e2, h]
  refine List.ext_getElem (by rw [winsL_length, winsL_length, hl]) (fun m h1 h2 => ?_)
  rw [winsL_length] at h1 h2
  have e3 : ∀ (W : List Bool) (hm : m < W.length), W[m] = W.getD m false := fun W hm => by simp [List.getD_eq_getElem?_getD, hm]
  rw [e3 _ (by rw [winsL_length]; exact h1), e3 _ (by rw [winsL_length]; exact h2), Bool.eq_iff_iff, wins_of_least hc.w0 h1, wins_of_least hc'.w0 h2]
  constructor
  · rintro ⟨m', a, b, c⟩
    exact ⟨m', by rw [← hl]; exact a, by rw [← hlb m' a]; exact b, c⟩
  · rintro ⟨m', a, b, c⟩
    rw [← hl] at a
    exact ⟨m', a, by rw [hlb m' a]; exact b, c⟩
theorem ifGood_len (q : Int) (l : List Int) : (ifGood q l).2.1.length ≤ 9 := by
  unfold ifGood
  split
  · next h => exact ((good_iff q l).1 h).l9
  · simp
theorem good_fold {q : Int} {ws : List Int} (hc : GoodC q ws) : wfold ws 0 = ws.sum := by
  have hs := hc.sum
  have h9 := hc.l9
  rw [wfold_sum ws 0 (fun x hx => by have := hc.w x hx; omega) (by omega) (by omega), Int.zero_add]
theorem laws_FnCommitteesChangeOfAll.law_j4 (l : List UInt8) (q6 : Int) (w6 : List Int) (hl6 : w6.length ≤ 9223372036854775807) (qp : Int) (wp : List Int) (okp : Bool) (hp : okp = true → GoodC qp wp ∧ cmT qp wp = l) : Ev (fun k => laws_FnCommitteesChangeOfAll.j4 k (txb l) (ctV q6 w6).1 (ctV q6 w6).2 okp q6 w6 qp wp) true := by
  have hlast : okp = true → Ev (fun k => impl_CommitteeText.f k qp wp) (txb l, true) := fun h => by
    obtain ⟨hc, e⟩ := hp h
    have v := impl_CommitteeText.ev qp wp (by have := hc.l9; omega)
    rw [ctV, if_pos ((good_iff qp wp).2 hc), e] at v
    exact v
  refine ev_step ?_
  simp only [laws_FnCommitteesChangeOfAll.j4]
  by_cases c : goodB q6 w6 = true
  · have hc := (good_iff q6 w6).1 c
    have hm := laws_mCommittee.ev_same q6 w6 hl6
    rw [ctV, if_pos c]
    dsimp only
    rw [ev_pos rfl, ev_bind (impl_ParseCommittee.hit hc)]
    dsimp only
    rw [ev_pos rfl, ev_bind hm, ev_pos rfl]
    by_cases ho : okp = true
    · rw [ev_pos ho, ev_bind (hlast ho)]
      dsimp only
      rw [ev_pos rfl, beq_self_eq_true, ev_now]
    · rw [ev_neg ho, ev_now]
  · rw [ctV, if_neg c]
    dsimp only
    rw [ev_neg (by decide)]
    by_cases ho : okp = true
    · rw [ev_pos ho, ev_bind (hlast ho)]
      dsimp only
      rw [ev_pos rfl, beq_self_eq_true, ev_now]
    · rw [ev_neg ho, ev_now]
theorem laws_FnCommitteesChangeOfAll.law_j3 (l : List UInt8) (q4 : Int) (w4 : List Int) (hl4 : w4.length ≤ 9223372036854775807) (q5 : Int) (w5 : List Int) (hl5 : w5.length ≤ 9223372036854775807) (q6 : Int) (w6 : List Int) (hl6 : w6.length ≤ 9223372036854775807) (qp : Int) (wp : List Int) (okp : Bool) (hp : okp = true → GoodC qp wp ∧ cmT qp wp = l) : Ev (fun k => laws_FnCommitteesChangeOfAll.j3 k (txb l) (asmV q4 w4 q5 w5).1 (asmV q4 w4 q5 w5).2 (ctV q6 w6).1 (ctV q6 w6).2 okp false q4 w4 q5 w5 q6 w6 qp wp) true := by
  have hj4 := laws_FnCommitteesChangeOfAll.law_j4 l q6 w6 hl6 qp wp okp hp
  refine ev_step ?_
  simp only [laws_FnCommitteesChangeOfAll.j3]
  rw [ev_neg (by decide)]
  by_cases c : goodB q4 w4 = true ∧ goodB q5 w5 = true
  · have hc4 := (good_iff q4 w4).1 c.1
    have hc5 := (good_iff q5 w5).1 c.2
    have v4 := impl_LeastWinning.ev q4 w4 hl4
    have v5 := impl_LeastWinning.ev q5 w5 hl5
    have vb := impl_AreSameVotes.ev q5 w5 q4 w4 hl5 hl4
    have hf := lwV_few q4 w4
    have hm := laws_mSets.ev (lwV q4 w4).1 (lwV q5 w5).1 (by omega) (fun x hx => by have := hf.2 x hx; omega)
    have e4 : (lwV q4 w4).2 = true := by rw [lwV, if_pos c.1]
    have e5 : (lwV q5 w5).2 = true := by rw [lwV, if_pos c.2]
    rw [asmV, if_pos ⟨c.2, c.1⟩, show decide (winsL q5 w5 = winsL q4 w4) = decide (winsL q4 w4 = winsL q5 w5) from decide_eq_decide.2 eq_comm] at vb
    rw [asmV, if_pos c]
    dsimp only
    rw [ev_pos rfl, ev_bind v4, ev_bind v5, ev_bind vb, ev_pos e4, ev_pos e5]
    by_cases hlen : w4.length = w5.length
    · have hk : decide ((lwV q4 w4).1 = (lwV q5 w5).1) = decide (winsL q4 w4 = winsL q5 w5) := by
        refine decide_eq_decide.2 ⟨same_of_least hc4 hc5 hlen, fun h => ?_⟩
        rw [lwV, if_pos c.1, lwV, if_pos c.2, h, hlen]
      rw [hk] at hm
      rw [ev_pos (by omega), ev_bind hm, bne_self_eq_false, ev_neg (by decide), ev_pos rfl, ev_neg (by decide)]
      exact hj4
    · have hd : decide (winsL q4 w4 = winsL q5 w5) = false := by
        refine decide_eq_false fun h => hlen ?_
        have h2 := congrArg List.length h
        rw [winsL_length, winsL_length] at h2
        rcases Nat.lt_trichotomy w4.length w5.length with h3 | h3 | h3
        · have h4 := Nat.pow_lt_pow_right (show 1 < 2 by decide) h3; omega
        · exact h3
        · have h4 := Nat.pow_lt_pow_right (show 1 < 2 by decide) h3; omega
      rw [ev_neg (by omega), hd, bne_self_eq_false, ev_neg (by decide), ev_pos rfl, ev_neg (by decide)]
      exact hj4
  · rw [asmV, if_neg c]
    dsimp only
    rw [ev_neg (by decide)]
    exact hj4
theorem laws_FnCommitteesChangeOfAll.law_j2 (l : List UInt8) (hl : l.length ≤ 1048576) (a : Int) (q3 : Int) (w3 : List Int) (hl3 : w3.length ≤ 9223372036854775807) (q4 : Int) (w4 : List Int) (hl4 : w4.length ≤ 9223372036854775807) (q5 : Int) (w5 : List Int) (hl5 : w5.length ≤ 9223372036854775807) (q6 : Int) (w6 : List Int) (hl6 : w6.length ≤ 9223372036854775807) : Ev (fun k => laws_FnCommitteesChangeOfAll.j2 k a (txb l) q3 w3 q4 w4 q5 w5 q6 w6) true := by
  obtain ⟨qp, wp, okp, hp1, hp2, hp9, hp⟩ := parse_cases l hl
  have hj3 := laws_FnCommitteesChangeOfAll.law_j3 l q4 w4 hl4 q5 w5 hl5 q6 w6 hl6 qp wp okp hp
  have d1 := impl_DropMember.ev q3 w3 a hl3
  have d2 := spec_DropMember.ev q3 w3 a hl3
  have s1 := impl_AreSameVotes.ev q4 w4 q5 w5 hl4 hl5
  have s2 := spec_AreSameVotes.ev q4 w4 q5 w5 hl4 hl5
  have t1 := impl_CommitteeText.ev q6 w6 hl6
  have t2 := spec_CommitteeText.ev q6 w6 hl6
  have hmp := laws_mCommittee.ev_same qp wp (by omega)
  have hg := impl_IsCommittee.ev q6 w6 hl6
  have ect : (ctV q6 w6).2 = goodB q6 w6 := by
    unfold ctV
    split
    · rename_i h; exact h.symm
    · rename_i h; rw [Bool.not_eq_true] at h; exact h.symm
  have hdl : (dropV q3 w3 a).2.1.length ≤ 9 := by
    unfold dropV
    split
    · exact ifGood_len q3 _
    · simp
  have hmd := laws_mCommittee.ev_same (dropV q3 w3 a).1 (dropV q3 w3 a).2.1 (by omega)
  refine ev_step ?_
  simp only [laws_FnCommitteesChangeOfAll.j2]
  rw [ev_bind d1, ev_bind d2, ev_bind s1, ev_bind s2, ev_bind t1, ev_bind t2, ev_bind hp1, ev_bind hp2]
  dsimp only
  simp only [bne_self_eq_false, Bool.false_eq_true, if_false, if_true]
  rw [ev_bind hmd]
  simp only [if_true]
  rw [ev_bind hmp]
  simp only [if_true]
  rw [ev_bind hg, ect]
  simp only [bne_self_eq_false, Bool.false_eq_true, if_false, if_true]
  rw [ect] at hj3
  by_cases c : (dropV q3 w3 a).2.2 = true
  · have hm : memB q3 w3 a = true := by
      unfold dropV at c
      split at c
      · assumption
      · simp at c
    obtain ⟨hc3, ha0, ha1⟩ := memB_in hm
    have hgd : goodB q3 (dropW w3 a) = true := by
      rw [dropV, if_pos hm, ifGood] at c
      split at c
      · assumption
      · simp at c
    have ed : dropV q3 w3 a = (q3, dropW w3 a, true) := by rw [dropV, if_pos hm, ifGood, if_pos hgd]
    have hcd := (good_iff _ _).1 hgd
    have h9 := hc3.l9
    have h9d := hcd.l9
    obtain ⟨i, rfl⟩ := Int.eq_ofNat_of_zero_le ha0
    have hi : i < w3.length := by omega
    obtain ⟨hs, hlen⟩ := drop_sum hi
    have hb3 := sum_bounds w3 1000 hc3.w
    have m1 := laws_mSum.ev (dropW w3 (i : Int)) (by omega)
    have m2 := laws_mSum.ev w3 hl3
    rw [good_fold hcd] at m1
    rw [good_fold hc3] at m2
    rw [ed]
    dsimp only
    rw [ev_pos rfl, ev_bind m1, ev_pos (by omega), ev_pos (by omega), ev_bind m2, rd_lt w3 i hi, hs, w64 (by omega) (by omega), ev_pos rfl, w64 (by omega) (by omega), ev_pos (by omega), bne_self_eq_false]
    exact hj3
  · rw [ev_neg c]
    exact hj3
theorem laws_FnCommitteesChangeOfAll.law_l0 {q : Int} {ws o : List Int} (hc : GoodC q ws) (ho : orderB (ws.length : Int) o = true) (a : Int) (s : ByteArray) (q3 : Int) (w3 : List Int) (q4 : Int) (w4 : List Int) (q5 : Int) (w5 : List Int) (q6 : Int) (w6 : List Int) (hj : Ev (fun k => laws_FnCommitteesChangeOfAll.j2 k a s q3 w3 q4 w4 q5 w5 q6 w6) true) : ∀ (d i : Nat) (bk : List Int), i + d = o.length → bk.length = ws.length → (∀ j, j < i → (h : j < o.length) → bk.getD (o[j]).toNat 0 = (j : Int)) → Ev (fun k => laws_FnCommitteesChangeOfAll.l0 k a s bk o (o.length : Int) (i : Int) q ws q3 w3 q4 w4 q5 w5 q6 w6 q (renC ws o)) true := by
  obtain ⟨hol, hin, hnd, hpm⟩ := order_facts ho
  have h9 := hc.l9
  have hrl := renC_len ws o
  intro d
  induction d with
  | zero =>
    intro i bk h hbl hb
    have hb2 : ∀ j, (h : j < o.length) → bk.getD (o[j]).toNat 0 = (j : Int) := fun j hj2 => hb j (by omega) hj2
    have hob := order_back ho hbl hb2
    have hrb := ren_back ho hbl hb2
    have hpr : ws.Perm (renC ws o) := (order_perm ho).symm
    have hcr := good_perm hpr hc
    have v1 := impl_RenameCommittee.ev q (renC ws o) bk (by omega) (by omega)
    rw [renV, if_pos ⟨(good_iff _ _).2 hcr, by rw [hrl, hol]; exact hob⟩, hrb] at v1
    have v2 := impl_CountWinning.ev q ws (by omega)
    have v3 := impl_CountWinning.ev q (renC ws o) (by omega)
    rw [cwV, if_pos ((good_iff _ _).2 hc)] at v2
    rw [cwV, if_pos ((good_iff _ _).2 hcr), ← cntW_perm hpr] at v3
    have hm := laws_mCommittee.ev_same q ws (by omega)
    refine ev_step ?_
    simp only [laws_FnCommitteesChangeOfAll.l0]
    rw [ev_neg (by omega), ev_bind v1, ev_bind v2, ev_bind v3]
    dsimp only
    rw [ev_pos rfl, ev_bind hm, ev_pos rfl, ev_pos rfl, ev_pos rfl, ev_pos rfl]
    exact hj
  | succ d ih =>
    intro i bk h hbl hb
    refine ev_step ?_
    simp only [laws_FnCommitteesChangeOfAll.l0]
    have hi : i < o.length := by omega
    have hx := hin o[i] (List.getElem_mem hi)
    obtain ⟨c, hcx⟩ := Int.eq_ofNat_of_zero_le hx.1
    have hih := ih (i + 1) (bk.set (o[i]).toNat (i : Int)) (by omega) (by rw [List.length_set]; exact hbl) (set_back ho hbl hi hb)
    have e := renC_get ws o i hi
    rw [hcx, Int.toNat_natCast] at e
    rw [hcx, Int.toNat_natCast, show ((i + 1 : Nat) : Int) = (i : Int) + 1 by omega] at hih
    rw [ev_pos (by omega), ev_pos (by omega), ev_pos (by omega), rd_lt o i hi, hcx, ev_pos (by omega), ev_pos (by omega), ev_pos (by omega), ev_pos (by omega), rd_lt (renC ws o) i (by omega), e, rd_nat, ev_pos rfl, Int.toNat_natCast, w64 (by omega) (by omega)]
    exact hih
theorem laws_FnCommitteesChangeOfAll.law_j0 (l : List UInt8) (hl : l.length ≤ 1048576) (o : List Int) (ho : o.length ≤ 10000) (a : Int) (q : Int) (ws : List Int) (hlw : ws.length ≤ 9223372036854775807) (q3 : Int) (w3 : List Int) (hl3 : w3.length ≤ 9223372036854775807) (q4 : Int) (w4 : List Int) (hl4 : w4.length ≤ 9223372036854775807) (q5 : Int) (w5 : List Int) (hl5 : w5.length ≤ 9223372036854775807) (q6 : Int) (w6 : List Int) (hl6 : w6.length ≤ 9223372036854775807) : Ev (fun k => laws_FnCommitteesChangeOfAll.j0 k o a (txb l) false q ws q3 w3 q4 w4 q5 w5 q6 w6) true := by
  have hj2 := laws_FnCommitteesChangeOfAll.law_j2 l hl a q3 w3 hl3 q4 w4 hl4 q5 w5 hl5 q6 w6 hl6
  have r1 := impl_RenameCommittee.ev q ws o hlw (by omega)
  have r2 := spec_RenameCommittee.ev q ws o hlw (by omega)
  refine ev_step ?_
  simp only [laws_FnCommitteesChangeOfAll.j0]
  rw [ev_neg (by decide), ev_bind r1, ev_bind r2, bne_self_eq_false, ev_neg (by decide)]
  by_cases c : goodB q ws = true ∧ orderB (ws.length : Int) o = true
  · have hc := (good_iff q ws).1 c.1
    obtain ⟨hol, hin, _, _⟩ := order_facts c.2
    have hrl := renC_len ws o
    have hm := laws_mCommittee.ev_same q (renC ws o) (by omega)
    have hk := laws_FnCommitteesChangeOfAll.law_l0 hc c.2 a (txb l) q3 w3 q4 w4 q5 w5 q6 w6 hj2 o.length 0 (List.replicate o.length 0) (by omega) (by rw [List.length_replicate, hol]) (fun j h => absurd h (Nat.not_lt_zero j))
    rw [renV, if_pos c]
    dsimp only
    rw [ev_bind hm, ev_pos rfl, ev_pos rfl, ev_pos (by omega), ev_pos (by omega), Int.toNat_natCast]
    exact hk
  · have hm := laws_mCommittee.ev_same 0 [] (by simp)
    rw [renV, if_neg c]
    dsimp only
    rw [ev_bind hm, ev_pos rfl, ev_neg (by decide)]
    exact hj2
theorem laws_FnCommitteesChangeOfAll.law (q : Int) (ws o : List Int) (q3 : Int) (w3 : List Int) (a : Int) (q4 : Int) (w4 : List Int) (q5 : Int) (w5 : List Int) (q6 : Int) (w6 : List Int) (s : ByteArray) (okq : OkI q) (okws : OkL ws) (oko : OkL o) (okq3 : OkI q3) (ok3 : OkL w3) (oka : OkI a) (okq4 : OkI q4) (ok4 : OkL w4) (okq5 : OkI q5) (ok5 : OkL w5) (okq6 : OkI q6) (ok6 : OkL w6) (oks : s.size ≤ 140737488351232) : Ev (fun k => laws_FnCommitteesChangeOfAll.f k q ws o q3 w3 a q4 w4 q5 w5 q6 w6 s) true := by
  have h1 := okws.len
  have h3 := ok3.len
  have h4 := ok4.len
  have h5 := ok5.len
  have h6 := ok6.len
  obtain ⟨l, rfl⟩ : ∃ l, s = txb l := ⟨_, txb_of s⟩
  have hs := txb_size l
  have hskip : Ev (fun k => laws_FnCommitteesChangeOfAll.j0 k o a (txb l) true q ws q3 w3 q4 w4 q5 w5 q6 w6) true := by
    refine ev_step ?_
    simp only [laws_FnCommitteesChangeOfAll.j0]
    rw [ev_pos trivial, ev_now]
  simp only [laws_FnCommitteesChangeOfAll.f]
  by_cases c1 : (o.length : Int) > 10000
  · rw [ev_pos c1]
    exact hskip
  rw [ev_neg c1]
  by_cases c2 : ((txb l).size : Int) > 1048576
  · rw [decide_eq_true c2]
    exact hskip
  rw [decide_eq_false c2]
  exact laws_FnCommitteesChangeOfAll.law_j0 l (by omega) o (by omega) a q ws (by omega) q3 w3 (by omega) q4 w4 (by omega) q5 w5 (by omega) q6 w6 (by omega)
end Go.Proofs.YtaambkdiokbdgacGreatDoor.Q
