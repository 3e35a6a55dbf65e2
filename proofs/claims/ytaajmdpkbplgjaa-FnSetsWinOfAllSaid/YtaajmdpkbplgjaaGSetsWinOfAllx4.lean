/- Printed functions, their contracts and plain facts on them: PIsSet; PMaskOf; PVoBits; PVoSet; PSetOfC; PVetoMembers; PWsumCompl; PLFnSetsWinOfAll. Conditions: as each theorem states. -/
import Derived.Test.YtaajmdpkbplgjaaGSetsWinOfAllx0
import Derived.Test.YtaajmdpkbplgjaaGSetsWinOfAllx3
import Derived.Test.YtaajmdpkbplgjaaGSetsWinOfAllx1
import Derived.Test.YtaajmdpkbplgjaaGSetsWinOfAllx2
namespace Go.Proofs.Ytaajmdpkbplgjaa.Q
open Go.RowKit Go.Proofs.YtaajmdpkbplgjaaW.PrintWords Go.Proofs.YtaajmdpkbplgjaaW.PrintLast Go.Proofs.YtaajmdpkbplgjaaW.PrintMore Go.Proofs.YtaajmdpkbplgjaaM
set_option linter.unusedVariables false
set_option linter.unusedSimpArgs false
theorem impl_isIncreasing.ev_l (l : List Int) (hl : l.length ≤ 9223372036854775807) : ∀ (d i : Nat), i + d = l.length → Ev (fun k => impl_isIncreasing.l0 k l (l.length : Int) (i : Int)) (incB (l.drop (i - 1))) := by
  intro d
  induction d with
  | zero =>
    intro i h
    refine ev_step ?_
    simp only [impl_isIncreasing.l0]
    rw [ev_neg (by omega), ev_now, incB_short (by rw [List.length_drop]; omega)]
  | succ d ih =>
    intro i h
    refine ev_step ?_
    simp only [impl_isIncreasing.l0]
    have hi : i < l.length := by omega
    rw [ev_pos (by omega), w64i (n := l.length) (by omega) (by omega) hl]
    by_cases h0 : i = 0
    · subst h0
      rw [ev_neg (by omega)]
      exact ih 1 (by omega)
    · have e1 : (i : Int) - 1 = ((i - 1 : Nat) : Int) := by omega
      rw [ev_pos (by omega), ev_pos (by omega), ev_pos (by omega), w64 (by omega) (by omega), e1, ev_pos (by omega), ev_pos (by omega), rd_lt l i hi, rd_lt l (i - 1) (by omega), incB_at l i (by omega) hi]
      by_cases hc : l[i] ≤ l[i - 1]
      · rw [ev_pos hc, ev_now, decide_eq_false (by omega), Bool.false_and]
      · rw [ev_neg hc, decide_eq_true (by omega), Bool.true_and]
        have := ih (i + 1) (by omega)
        rw [Nat.add_sub_cancel] at this
        exact this
theorem impl_isIncreasing.ev (l : List Int) (hl : l.length ≤ 9223372036854775807) : Ev (fun k => impl_isIncreasing.f k l) (incB l) := impl_isIncreasing.ev_l l hl l.length 0 (by omega)
theorem impl_isSet.ev (l : List Int) (n : Int) (h0 : 0 ≤ n) (h9 : n ≤ 1000) (hl : l.length ≤ 9223372036854775807) : Ev (fun k => impl_isSet.f k l n) (setB n l) := by
  simp only [impl_isSet.f]
  rw [w64 (by omega) (by omega), ev_bind (ev_of (show impl_areIn.f l 0 (n - 1) = some _ from rfl))]
  unfold setB
  cases (l.all fun x => decide (0 ≤ x) && decide (x ≤ n - 1)) with
  | true => rw [ev_pos rfl, ev_bind (impl_isIncreasing.ev l hl), ev_now, Bool.true_and]
  | false => rw [ev_neg (by simp), ev_now, Bool.false_and]
theorem impl_maskOf.ev_l (l : List Int) (hl : l.length ≤ 9223372036854775807) (hx : ∀ x ∈ l, 0 ≤ x ∧ x ≤ 60) : ∀ (d i m : Nat), i + d = l.length → m < 2 ^ 61 → Ev (fun k => impl_maskOf.l0 k (m : Int) l (l.length : Int) (i : Int)) ((orBits m (l.drop i) : Nat) : Int) := by
  intro d
  induction d with
  | zero =>
    intro i m h hm
    refine ev_step ?_
    simp only [impl_maskOf.l0]
    rw [ev_neg (by omega), ev_now, List.drop_of_length_le (by omega)]
    rfl
  | succ d ih =>
    intro i m h hm
    refine ev_step ?_
    simp only [impl_maskOf.l0]
    have hi : i < l.length := by omega
    have hxi := hx l[i] (List.getElem_mem hi)
    obtain ⟨c, hc⟩ := Int.eq_ofNat_of_zero_le hxi.1
    have hp : 2 ^ c ≤ 2 ^ 60 := Nat.pow_le_pow_right (by omega) (by omega)
    have ho : m ||| 2 ^ c < 2 ^ 61 := Nat.or_lt_two_pow hm (by omega)
    rw [ev_pos (by omega), ev_pos (by omega), ev_pos (by omega), rd_lt l i hi, hc, ev_pos (by omega), w64i (n := l.length) (by omega) (by omega) hl, shl_one c (by omega), or_nat m (2 ^ c) (by omega) (by omega)]
    have := ih (i + 1) (m ||| 2 ^ c) (by omega) ho
    rw [List.drop_eq_getElem_cons hi]
    show Ev _ ((orBits (m ||| 2 ^ l[i].toNat) (l.drop (i + 1)) : Nat) : Int)
    rw [hc]
    exact this
theorem impl_maskOf.ev (l : List Int) (hl : l.length ≤ 9223372036854775807) (hx : ∀ x ∈ l, 0 ≤ x ∧ x ≤ 60) : Ev (fun k => impl_maskOf.f k l) ((maskN l : Nat) : Int) := impl_maskOf.ev_l l hl hx l.length 0 0 (by omega) (by omega)
theorem spec_voBits.ev_l (l : List Int) (hl : l.length ≤ 9223372036854775807) (hx : ∀ x ∈ l, 0 ≤ x ∧ x ≤ 60) : ∀ (d i m : Nat), i + d = l.length → m < 2 ^ 61 → Ev (fun k => spec_voBits.l0 k (m : Int) l (l.length : Int) (i : Int)) ((orBits m (l.drop i) : Nat) : Int) := by
  intro d
  induction d with
  | zero =>
    intro i m h hm
    refine ev_step ?_
    simp only [spec_voBits.l0]
    rw [ev_neg (by omega), ev_now, List.drop_of_length_le (by omega)]
    rfl
  | succ d ih =>
    intro i m h hm
    refine ev_step ?_
    simp only [spec_voBits.l0]
    have hi : i < l.length := by omega
    have hxi := hx l[i] (List.getElem_mem hi)
    obtain ⟨c, hc⟩ := Int.eq_ofNat_of_zero_le hxi.1
    have hp : 2 ^ c ≤ 2 ^ 60 := Nat.pow_le_pow_right (by omega) (by omega)
    have ho : m ||| 2 ^ c < 2 ^ 61 := Nat.or_lt_two_pow hm (by omega)
    rw [ev_pos (by omega), ev_pos (by omega), ev_pos (by omega), rd_lt l i hi, hc, ev_pos (by omega), w64i (n := l.length) (by omega) (by omega) hl, shl_one c (by omega), or_nat m (2 ^ c) (by omega) (by omega)]
    have := ih (i + 1) (m ||| 2 ^ c) (by omega) ho
    rw [List.drop_eq_getElem_cons hi]
    show Ev _ ((orBits (m ||| 2 ^ l[i].toNat) (l.drop (i + 1)) : Nat) : Int)
    rw [hc]
    exact this
theorem spec_voBits.ev (l : List Int) (hl : l.length ≤ 9223372036854775807) (hx : ∀ x ∈ l, 0 ≤ x ∧ x ≤ 60) : Ev (fun k => spec_voBits.f k l) ((maskN l : Nat) : Int) := spec_voBits.ev_l l hl hx l.length 0 0 (by omega) (by omega)
theorem spec_l1Rising.ev_l (l : List Int) (lo hi : Int) (hl : l.length ≤ 9223372036854775807) : ∀ (d i : Nat), i + d = l.length → Ev (fun k => spec_l1Rising.l0 k l lo hi l (l.length : Int) (i : Int)) (((l.drop i).all fun x => decide (lo ≤ x) && decide (x ≤ hi)) && incB (l.drop (i - 1))) := by
  intro d
  induction d with
  | zero =>
    intro i h
    refine ev_step ?_
    simp only [spec_l1Rising.l0]
    rw [ev_neg (by omega), ev_now, incB_short (by rw [List.length_drop]; omega), List.drop_of_length_le (by omega)]
    rfl
  | succ d ih =>
    intro i h
    refine ev_step ?_
    simp only [spec_l1Rising.l0]
    have hi' : i < l.length := by omega
    rw [ev_pos (by omega), ev_pos (by omega), ev_pos (by omega), w64i (n := l.length) (by omega) (by omega) hl, rd_lt l i hi', ev_bind (ev_of (spec_l1In.v _ _ _)), show (l.drop i).all (fun x => decide (lo ≤ x) && decide (x ≤ hi)) = ((decide (lo ≤ l[i]) && decide (l[i] ≤ hi)) && (l.drop (i + 1)).all fun x => decide (lo ≤ x) && decide (x ≤ hi)) by rw [List.drop_eq_getElem_cons hi', List.all_cons]]
    cases hb : (decide (lo ≤ l[i]) && decide (l[i] ≤ hi)) with
    | false =>
      rw [ev_neg (by decide), ev_now]
      simp
    | true =>
      rw [ev_pos rfl, Bool.true_and]
      by_cases h0 : i = 0
      · subst h0
        rw [ev_neg (by omega)]
        exact ih 1 (by omega)
      · have e1 : (i : Int) - 1 = ((i - 1 : Nat) : Int) := by omega
        rw [ev_pos (by omega), w64 (by omega) (by omega), e1, ev_pos (by omega), ev_pos (by omega), rd_lt l (i - 1) (by omega), incB_at l i (by omega) hi']
        by_cases hc : l[i - 1] ≥ l[i]
        · rw [ev_pos hc, ev_now, decide_eq_false (by omega)]
          simp
        · rw [ev_neg hc, decide_eq_true (by omega), Bool.true_and]
          have := ih (i + 1) (by omega)
          rw [Nat.add_sub_cancel] at this
          exact this
theorem spec_voSet.ev (n : Int) (l : List Int) (h0 : 0 ≤ n) (h9 : n ≤ 1000) (hl : l.length ≤ 9223372036854775807) : Ev (fun k => spec_voSet.f k n l) (setB n l) := by
  simp only [spec_voSet.f]
  have h := spec_l1Rising.ev_l l 0 (n - 1) hl l.length 0 (by omega)
  rw [List.drop_zero] at h
  rw [w64 (by omega) (by omega), ev_bind (show Ev (fun k => spec_l1Rising.f k l 0 (n - 1)) (setB n l) from h), ev_now]
def setOfB (q : Int) (ws s : List Int) : Bool := goodB q ws && setB (ws.length : Int) s
theorem impl_isSetOf.ev (q : Int) (ws s : List Int) (hl : ws.length ≤ 9223372036854775807) (hs : s.length ≤ 9223372036854775807) : Ev (fun k => impl_isSetOf.f k q ws s) (setOfB q ws s) := by
  simp only [impl_isSetOf.f]
  rw [ev_bind (impl_IsCommittee.ev q ws hl)]
  unfold setOfB
  cases hg : goodB q ws with
  | false => rw [ev_neg (by decide), ev_now]; rfl
  | true =>
    have h9 := ((good_iff q ws).1 hg).l9
    rw [ev_pos rfl, ev_bind (impl_isSet.ev s (ws.length : Int) (by omega) (by omega) hs), ev_now, Bool.true_and]
theorem spec_voAsked.ev (q : Int) (ws s : List Int) (hl : ws.length ≤ 9223372036854775807) (hs : s.length ≤ 9223372036854775807) : Ev (fun k => spec_voAsked.f k q ws s) (setOfB q ws s) := by
  simp only [spec_voAsked.f]
  rw [ev_bind (spec_voGood.ev q ws hl)]
  unfold setOfB
  cases hg : goodB q ws with
  | false => rw [ev_neg (by decide), ev_now]; rfl
  | true =>
    have h9 := ((good_iff q ws).1 hg).l9
    rw [ev_pos rfl, ev_bind (spec_voSet.ev (ws.length : Int) s (by omega) (by omega) hs), ev_now, Bool.true_and]
theorem setOfB_facts {q : Int} {ws s : List Int} (h : setOfB q ws s = true) : GoodC q ws ∧ setB (ws.length : Int) s = true ∧ (∀ x ∈ s, 0 ≤ x ∧ x ≤ 60) ∧ maskN s < 2 ^ ws.length ∧ maskN s < 2 ^ 62 := by
  unfold setOfB at h
  rw [Bool.and_eq_true] at h
  have hc := (good_iff q ws).1 h.1
  have h9 := hc.l9
  have hp := hc.pow
  have hm := setB_mask h.2
  exact ⟨hc, h.2, fun x hx => by have := setB_in h.2 x hx; omega, hm, by omega⟩
def winsV (q : Int) (ws s : List Int) : Bool × Bool := if setOfB q ws s = true then (decide (q ≤ wsum ws (maskN s)), true) else (false, false)
def blkV (q : Int) (ws s : List Int) : Bool × Bool := if setOfB q ws s = true then (decide (ws.sum - wsum ws (maskN s) < q), true) else (false, false)
def weiV (q : Int) (ws s : List Int) : Int × Bool := if setOfB q ws s = true then (wsum ws (maskN s), true) else (0, false)
def totV (q : Int) (ws : List Int) : Int × Bool := if goodB q ws = true then (ws.sum, true) else (0, false)
theorem impl_IsWinning.ev (q : Int) (ws s : List Int) (hl : ws.length ≤ 9223372036854775807) (hs : s.length ≤ 9223372036854775807) : Ev (fun k => impl_IsWinning.f k q ws s) (winsV q ws s) := by
  simp only [impl_IsWinning.f]
  rw [ev_bind (impl_isSetOf.ev q ws s hl hs)]
  unfold winsV
  cases hg : setOfB q ws s with
  | false => rw [ev_neg (by decide), ev_now]; rfl
  | true =>
    obtain ⟨hc, h1, h2, h3, h4⟩ := setOfB_facts hg
    have h9 := hc.l9
    rw [ev_pos rfl, ev_bind (impl_maskOf.ev s hs h2), ev_bind (impl_Committee_weight.ev q ws (maskN s) h4 (by omega) hc.wb), ev_now]
    rfl
theorem spec_IsWinning.ev (q : Int) (ws s : List Int) (hl : ws.length ≤ 9223372036854775807) (hs : s.length ≤ 9223372036854775807) : Ev (fun k => spec_IsWinning.f k q ws s) (winsV q ws s) := by
  simp only [spec_IsWinning.f]
  rw [ev_bind (spec_voAsked.ev q ws s hl hs)]
  unfold winsV
  cases hg : setOfB q ws s with
  | false => rw [ev_neg (by decide), ev_now]; rfl
  | true =>
    obtain ⟨hc, h1, h2, h3, h4⟩ := setOfB_facts hg
    have h9 := hc.l9
    rw [ev_pos rfl, ev_bind (spec_voBits.ev s hs h2), ev_bind (spec_voWeight.ev q ws (maskN s) h4 (by omega) hc.wb), ev_now]
    rfl
theorem impl_IsBlocking.ev (q : Int) (ws s : List Int) (hl : ws.length ≤ 9223372036854775807) (hs : s.length ≤ 9223372036854775807) : Ev (fun k => impl_IsBlocking.f k q ws s) (blkV q ws s) := by
  simp only [impl_IsBlocking.f]
  rw [ev_bind (impl_isSetOf.ev q ws s hl hs)]
  unfold blkV
  cases hg : setOfB q ws s with
  | false => rw [ev_neg (by decide), ev_now]; rfl
  | true =>
    obtain ⟨hc, h1, h2, h3, h4⟩ := setOfB_facts hg
    have h9 := hc.l9
    have hsum := hc.sum
    have hb := wsum_bounds ws hc.w0 (maskN s)
    have hS := impl_sumOf.ev ws hl
    rw [wfold_sum ws 0 (fun x hx => by have := hc.w x hx; omega) (by omega) (by omega), Int.zero_add] at hS
    rw [ev_pos rfl, ev_bind hS, ev_bind (impl_maskOf.ev s hs h2), ev_bind (impl_Committee_weight.ev q ws (maskN s) h4 (by omega) hc.wb), ev_now, w64 (by omega) (by omega)]
    rfl
theorem spec_IsBlocking.ev (q : Int) (ws s : List Int) (hl : ws.length ≤ 9223372036854775807) (hs : s.length ≤ 9223372036854775807) : Ev (fun k => spec_IsBlocking.f k q ws s) (blkV q ws s) := by
  simp only [spec_IsBlocking.f]
  rw [ev_bind (spec_voAsked.ev q ws s hl hs)]
  unfold blkV
  cases hg : setOfB q ws s with
  | false => rw [ev_neg (by decide), ev_now]; rfl
  | true =>
    obtain ⟨hc, h1, h2, h3, h4⟩ := setOfB_facts hg
    have h9 := hc.l9
    have hsum := hc.sum
    have hb := wsum_bounds ws hc.w0 (maskN s)
    have hS := spec_voSum.ev ws hl
    rw [wfold_sum ws 0 (fun x hx => by have := hc.w x hx; omega) (by omega) (by omega), Int.zero_add] at hS
    rw [ev_pos rfl, ev_bind hS, ev_bind (spec_voBits.ev s hs h2), ev_bind (spec_voWeight.ev q ws (maskN s) h4 (by omega) hc.wb), ev_now, w64 (by omega) (by omega)]
    rfl
theorem impl_WeightOfSet.ev (q : Int) (ws s : List Int) (hl : ws.length ≤ 9223372036854775807) (hs : s.length ≤ 9223372036854775807) : Ev (fun k => impl_WeightOfSet.f k q ws s) (weiV q ws s) := by
  simp only [impl_WeightOfSet.f]
  rw [ev_bind (impl_isSetOf.ev q ws s hl hs)]
  unfold weiV
  cases hg : setOfB q ws s with
  | false => rw [ev_neg (by decide), ev_now]; rfl
  | true =>
    obtain ⟨hc, h1, h2, h3, h4⟩ := setOfB_facts hg
    have h9 := hc.l9
    rw [ev_pos rfl, ev_bind (impl_maskOf.ev s hs h2), ev_bind (impl_Committee_weight.ev q ws (maskN s) h4 (by omega) hc.wb), ev_now]
    rfl
theorem spec_WeightOfSet.ev (q : Int) (ws s : List Int) (hl : ws.length ≤ 9223372036854775807) (hs : s.length ≤ 9223372036854775807) : Ev (fun k => spec_WeightOfSet.f k q ws s) (weiV q ws s) := by
  simp only [spec_WeightOfSet.f]
  rw [ev_bind (spec_voAsked.ev q ws s hl hs)]
  unfold weiV
  cases hg : setOfB q ws s with
  | false => rw [ev_neg (by decide), ev_now]; rfl
  | true =>
    obtain ⟨hc, h1, h2, h3, h4⟩ := setOfB_facts hg
    have h9 := hc.l9
    rw [ev_pos rfl, ev_bind (spec_voBits.ev s hs h2), ev_bind (spec_voWeight.ev q ws (maskN s) h4 (by omega) hc.wb), ev_now]
    rfl
theorem impl_TotalWeight.ev (q : Int) (ws : List Int) (hl : ws.length ≤ 9223372036854775807) : Ev (fun k => impl_TotalWeight.f k q ws) (totV q ws) := by
  simp only [impl_TotalWeight.f]
  rw [ev_bind (impl_IsCommittee.ev q ws hl)]
  unfold totV
  cases hg : goodB q ws with
  | false => rw [ev_neg (by decide), ev_now]; rfl
  | true =>
    have hc := (good_iff q ws).1 hg
    have h9 := hc.l9
    have hS := impl_sumOf.ev ws hl
    rw [wfold_sum ws 0 (fun x hx => by have := hc.w x hx; omega) (by omega) (by omega), Int.zero_add] at hS
    rw [ev_pos rfl, ev_bind hS, ev_now]
    rfl
theorem spec_TotalWeight.ev (q : Int) (ws : List Int) (hl : ws.length ≤ 9223372036854775807) : Ev (fun k => spec_TotalWeight.f k q ws) (totV q ws) := by
  simp only [spec_TotalWeight.f]
  rw [ev_bind (spec_voGood.ev q ws hl)]
  unfold totV
  cases hg : goodB q ws with
  | false => rw [ev_neg (by decide), ev_now]; rfl
  | true =>
    have hc := (good_iff q ws).1 hg
    have h9 := hc.l9
    have hS := spec_voSum.ev ws hl
    rw [wfold_sum ws 0 (fun x hx => by have := hc.w x hx; omega) (by omega) (by omega), Int.zero_add] at hS
    rw [ev_pos rfl, ev_bind hS, ev_now]
    rfl
theorem spec_IsCommittee.ev (q : Int) (ws : List Int) (hl : ws.length ≤ 9223372036854775807) : Ev (fun k => spec_IsCommittee.f k q ws) (goodB q ws) := by
  simp only [spec_IsCommittee.f]
  rw [ev_bind (spec_voGood.ev q ws hl), ev_now]
theorem impl_members.evP_l (n : Nat) (hn : n ≤ 1000000) (P : Int → Option Bool) (p : Nat → Bool) (hP : ∀ i : Nat, i < n → P (i : Int) = some (p i)) : ∀ (d i : Nat), i + d = n → Ev (fun k => impl_members.l0 k P (n : Int) (takeI p i) (i : Int)) (takeI p n) := by
  intro d
  induction d with
  | zero =>
    intro i h
    refine ev_step ?_
    simp only [impl_members.l0]
    rw [ev_neg (by omega), ev_now, show i = n by omega]
  | succ d ih =>
    intro i h
    refine ev_step ?_
    simp only [impl_members.l0]
    have hl := takeI_len p i
    have hih := ih (i + 1) (by omega)
    rw [takeI_succ] at hih
    rw [ev_pos (by omega), ev_bind (ev_of (hP i (by omega))), w64 (by omega) (by omega)]
    by_cases hp : p i = true
    · rw [if_pos hp] at hih
      rw [ev_pos hp, ev_pos (by omega)]
      exact hih
    · rw [if_neg hp] at hih
      rw [ev_neg hp]
      exact hih
def vetV (q : Int) (ws : List Int) : List Int × Bool := if goodB q ws = true then (takeI (vetoB q ws) ws.length, true) else ([], false)
theorem impl_VetoMembers.ev (q : Int) (ws : List Int) (hl : ws.length ≤ 9223372036854775807) : Ev (fun k => impl_VetoMembers.f k q ws) (vetV q ws) := by
  simp only [impl_VetoMembers.f]
  rw [ev_bind (impl_IsCommittee.ev q ws hl)]
  unfold vetV
  cases hg : goodB q ws with
  | false => rw [ev_neg (by decide), ev_now, if_neg (by decide)]
  | true =>
    have hc := (good_iff q ws).1 hg
    have h9 := hc.l9
    have hp := hc.pow
    have hwl := winsL_length q ws
    have hall : impl_votes_all.f (ws.length : Int) (winsL q ws) = some ((2 ^ ws.length - 1 : Nat) : Int) := by
      simp only [impl_votes_all.f]
      rw [if_pos (by omega), shl_one ws.length (by omega), w64 (by omega) (by omega)]
      congr 1
      omega
    have hm : Ev (fun k => impl_members.g k (ws.length : Int) (impl_VetoMembers_1.f (ws.length : Int) (winsL q ws))) (takeI (vetoB q ws) ws.length) := by
      refine impl_members.evP_l ws.length (by omega) _ (vetoB q ws) (fun i hi => ?_) ws.length 0 (by omega)
      have h2 := wins_out (q := q) i hi
      have hpi : 2 ^ i < 2 ^ ws.length := Nat.pow_lt_pow_right (by omega) hi
      simp only [impl_VetoMembers_1.f]
      rw [hall, Option.bind_some, shl_one i (by omega), andNot_pow _ i (by omega) (by omega) (full_bit _ _ hi), if_pos (Int.natCast_nonneg _), if_pos (Int.ofNat_lt.2 (by rw [hwl]; exact Nat.lt_of_le_of_lt (Nat.sub_le _ _) (by omega))), rdOf_nat, h2, Bool.not_not]
    rw [ev_pos rfl, if_pos rfl, ev_bind (impl_Committee_votes.ev q ws h9 hc.wb), ev_pos (by omega), ev_bind hm, ev_now]
theorem spec_VetoMembers.ev_l {q : Int} {ws : List Int} (hc : GoodC q ws) : ∀ (d i : Nat), i + d = ws.length → Ev (fun k => spec_VetoMembers.l0 k (takeI (vetoB q ws) i) ws (ws.length : Int) (i : Int) q ws) (takeI (vetoB q ws) ws.length, true) := by
  have h9 := hc.l9
  have hsum := hc.sum
  have hS := spec_voSum.ev ws (by omega)
  rw [wfold_sum ws 0 (fun x hx => by have := hc.w x hx; omega) (by omega) (by omega), Int.zero_add] at hS
  intro d
  induction d with
  | zero =>
    intro i h
    refine ev_step ?_
    simp only [spec_VetoMembers.l0]
    rw [ev_neg (by omega), ev_now, show i = ws.length by omega]
  | succ d ih =>
    intro i h
    refine ev_step ?_
    simp only [spec_VetoMembers.l0]
    have hi : i < ws.length := by omega
    have hw := hc.w ws[i] (List.getElem_mem hi)
    have hl := takeI_len (vetoB q ws) i
    have hih := ih (i + 1) (by omega)
    rw [takeI_succ, vetoB, getD_lt ws i hi, show ((i + 1 : Nat) : Int) = (i : Int) + 1 by omega] at hih
    rw [ev_pos (by omega), ev_pos (by omega), ev_pos (by omega), rd_lt ws i hi, w64i (n := ws.length) (by omega) (by omega) (by omega), ev_bind hS, w64 (x := ws.sum - ws[i]) (by omega) (by omega)]
    by_cases c2 : ws.sum - ws[i] < q
    · rw [if_pos (decide_eq_true c2)] at hih
      rw [ev_pos c2, ev_pos (by omega)]
      exact hih
    · rw [if_neg (by simpa using c2)] at hih
      rw [ev_neg c2]
      exact hih
theorem spec_VetoMembers.ev (q : Int) (ws : List Int) (hl : ws.length ≤ 9223372036854775807) : Ev (fun k => spec_VetoMembers.f k q ws) (vetV q ws) := by
  simp only [spec_VetoMembers.f]
  rw [ev_bind (spec_voGood.ev q ws hl)]
  unfold vetV
  cases hg : goodB q ws with
  | false => rw [ev_neg (by decide), ev_now, if_neg (by decide)]
  | true =>
    have hc := (good_iff q ws).1 hg
    rw [ev_pos rfl, if_pos rfl]
    exact spec_VetoMembers.ev_l hc ws.length 0 (by omega)
theorem wsum_compl (ws : List Int) : ∀ m, m < 2 ^ ws.length → wsum ws (2 ^ ws.length - 1 - m) = ws.sum - wsum ws m := by
  induction ws with
  | nil => intro m h; simp [wsum]
  | cons a l ih =>
    intro m h
    have hp : 2 ^ (l.length + 1) = 2 * 2 ^ l.length := by rw [Nat.pow_succ, Nat.mul_comm]
    have h0 : 0 < 2 ^ l.length := Nat.two_pow_pos _
    simp only [List.length_cons] at h
    have e1 : (2 ^ (l.length + 1) - 1 - m) / 2 = 2 ^ l.length - 1 - m / 2 := by rw [hp] at h ⊢; omega
    have e2 : (2 ^ (l.length + 1) - 1 - m) % 2 = 1 - m % 2 := by rw [hp] at h ⊢; omega
    have hi := ih (m / 2) (by rw [hp] at h; omega)
    show (if (2 ^ (l.length + 1) - 1 - m) % 2 = 1 then a else 0) + wsum l ((2 ^ (l.length + 1) - 1 - m) / 2) = (a :: l).sum - ((if m % 2 = 1 then a else 0) + wsum l (m / 2))
    rw [e1, e2, hi, List.sum_cons]
    by_cases hm : m % 2 = 1
    · rw [if_neg (by omega), if_pos hm]
      omega
    · rw [if_pos (by omega), if_neg hm]
      omega
theorem laws_FnSetsWinOfAll.law_l0 {q : Int} {ws : List Int} (hc : GoodC q ws) : ∀ (d i : Nat), i + d = ws.length → Ev (fun k => laws_FnSetsWinOfAll.l0 k (dicV q ws).1 (dicV q ws).2 (takeI (vetoB q ws) ws.length) (takeI (dumB q ws) ws.length) (ws.length : Int) (i : Int) q ws) true := by
  have h9 := hc.l9
  have hg := (good_iff q ws).2 hc
  intro d
  induction d with
  | zero =>
    intro i h
    refine ev_step ?_
    simp only [laws_FnSetsWinOfAll.l0]
    rw [ev_neg (by omega), ev_now]
  | succ d ih =>
    intro i h
    refine ev_step ?_
    simp only [laws_FnSetsWinOfAll.l0]
    have hi : i < ws.length := by omega
    have hp : 2 ^ i < 2 ^ ws.length := Nat.pow_lt_pow_right (by omega) hi
    have hb := impl_IsBlocking.ev q ws [(i : Int)] (by omega) (by simp)
    have hw := impl_IsWinning.ev q ws [(i : Int)] (by omega) (by simp)
    have hs : setOfB q ws [(i : Int)] = true := by rw [setOfB, hg, one_set hi]; rfl
    have hv := laws_mHas.ev (takeI (vetoB q ws) ws.length) (i : Int) (by have := takeI_len (vetoB q ws) ws.length; omega)
    have hd := laws_mHas.ev (takeI (dumB q ws) ws.length) (i : Int) (by have := takeI_len (dumB q ws) ws.length; omega)
    rw [takeI_has _ _ _ hi] at hv hd
    have e1 : blkV q ws [(i : Int)] = (vetoB q ws i, true) := by rw [blkV, if_pos hs, maskN_one, wsum_one ws i hi, vetoB, getD_lt ws i hi]
    have e2 : winsV q ws [(i : Int)] = (aloneB q ws i, true) := by rw [winsV, if_pos hs, maskN_one, wsum_one ws i hi, aloneB, getD_lt ws i hi]
    rw [e1] at hb
    rw [e2] at hw
    have hdic := dic_at hg hi
    have hih := ih (i + 1) (by omega)
    rw [show ((i + 1 : Nat) : Int) = (i : Int) + 1 by omega] at hih
    have hda : dumB q ws i = true → vetoB q ws i = false ∧ aloneB q ws i = false := fun h => ⟨dum_veto hc hi h, dum_alone hc hi h⟩
    have hdi : ((dicV q ws).1 == (i : Int)) = decide ((dicV q ws).1 = (i : Int)) := rfl
    have hj5 : Ev (fun k => laws_FnSetsWinOfAll.j5 k (dicV q ws).1 (dicV q ws).2 (takeI (vetoB q ws) ws.length) (takeI (dumB q ws) ws.length) (ws.length : Int) (i : Int) false q ws) true := by
      refine ev_step ?_
      simp only [laws_FnSetsWinOfAll.j5]
      rw [ev_neg (by decide), w64i (n := ws.length) (by omega) (by omega) (by omega)]
      exact hih
    rw [ev_pos (by omega), ev_bind hb, ev_bind hw, ev_pos rfl, ev_bind hv, ev_neg (by simp), ev_pos rfl, hdi]
    cases h1 : (dicV q ws).2 <;> cases h2 : vetoB q ws i <;> cases h3 : aloneB q ws i <;> cases h4 : dumB q ws i <;> rw [h1, h2, h3] at hdic <;> rw [h2, h3, h4] at hda <;> rw [h4] at hd <;> rw [h1] at hj5 <;> simp only [Bool.true_and, Bool.false_and, Bool.and_true, Bool.and_false] at hdic <;> first
      | (simp at hda; done)
      | (cases hdic; done)
      | (simp only [ev_bind hd, hdic, if_true, if_false, reduceCtorEq, bne_self_eq_false, Bool.false_eq_true, Bool.bne_true, Bool.bne_false, Bool.not_true, Bool.not_false, Bool.true_bne, Bool.false_bne]; exact hj5)
theorem laws_FnSetsWinOfAll.law_j1 (q : Int) (ws : List Int) (hl : ws.length ≤ 9223372036854775807) : Ev (fun k => laws_FnSetsWinOfAll.j1 k q ws) true := by
  refine ev_step ?_
  simp only [laws_FnSetsWinOfAll.j1]
  have hvl : (vetV q ws).1.length ≤ 9223372036854775806 := by
    unfold vetV
    split
    · next h => have := ((good_iff q ws).1 h).l9; have := takeI_len (vetoB q ws) ws.length; show (takeI _ _).length ≤ _; omega
    · simp
  have hdl := dumV_len q ws
  have hsv := laws_mSame.ev (vetV q ws).1 (vetV q ws).1 (by omega)
  have hsd := laws_mSame.ev (dumV q ws).1 (dumV q ws).1 (by omega)
  rw [decide_eq_true rfl] at hsv hsd
  rw [ev_bind (impl_DictatorOf.ev q ws hl), ev_bind (spec_DictatorOf.ev q ws hl), ev_bind (impl_VetoMembers.ev q ws hl), ev_bind (spec_VetoMembers.ev q ws hl), ev_bind (impl_DummiesOf.ev q ws hl), ev_bind (spec_DummiesOf.ev q ws hl), ev_neg (by simp), ev_pos rfl, ev_neg (by simp), ev_bind hsv, ev_pos rfl, ev_neg (by simp), ev_bind hsd, ev_pos rfl]
  have hj2 : Ev (fun k => laws_FnSetsWinOfAll.j2 k (dicV q ws).1 (dicV q ws).2 (vetV q ws).1 (vetV q ws).2 (dumV q ws).1 ((dumV q ws).2 != (vetV q ws).2) q ws) true := by
    refine ev_step ?_
    simp only [laws_FnSetsWinOfAll.j2]
    have e : (dumV q ws).2 = (vetV q ws).2 := by unfold dumV vetV; split <;> rfl
    rw [ev_neg (by rw [e]; simp)]
    by_cases hg : goodB q ws = true
    · have hc := (good_iff q ws).1 hg
      have h9 := hc.l9
      have ev : vetV q ws = (takeI (vetoB q ws) ws.length, true) := by rw [vetV, if_pos hg]
      have ed : dumV q ws = (takeI (dumB q ws) ws.length, true) := by rw [dumV, if_pos hg]; rfl
      rw [ev, ed] at *
      have hr1 := laws_mRises.ev (takeI (vetoB q ws) ws.length) (by have := takeI_len (vetoB q ws) ws.length; omega)
      have hr2 := laws_mRises.ev (takeI (dumB q ws) ws.length) (by have := takeI_len (dumB q ws) ws.length; omega)
      rw [takeI_inc] at hr1 hr2
      have hloop : Ev (fun k => laws_FnSetsWinOfAll.j3 k (dicV q ws).1 (dicV q ws).2 (takeI (vetoB q ws) ws.length) (takeI (dumB q ws) ws.length) (ws.length : Int) (((takeI (dumB q ws) ws.length).length : Int) == (ws.length : Int)) q ws) true := by
        refine ev_step ?_
        simp only [laws_FnSetsWinOfAll.j3]
        obtain ⟨i, hi, hr⟩ := some_real hc
        have := takeI_few hr ws.length hi
        rw [ev_neg (by simp; omega)]
        exact laws_FnSetsWinOfAll.law_l0 hc ws.length 0 (by omega)
      rw [ev_pos rfl, ev_bind hr1, ev_pos rfl, ev_bind hr2, ev_pos rfl]
      cases hd : (dicV q ws).2 with
      | false =>
        rw [hd] at hloop
        rw [ev_neg (by decide)]
        exact hloop
      | true =>
        obtain ⟨_, i, hi, h1, h2⟩ := dicV_some hd
        have hvi : takeI (vetoB q ws) ws.length = [(i : Int)] := by rw [takeI_congr (fun j hj => dic_veto hc hi hj h1), takeI_one i _ hi]
        have hdn : (takeI (dumB q ws) ws.length).length = ws.length - 1 := by rw [takeI_congr (fun j hj => dic_dum hc hi hj h1), takeI_but, if_pos hi]
        have hs1 := laws_mSame.ev (takeI (vetoB q ws) ws.length) [(dicV q ws).1] (by have := takeI_len (vetoB q ws) ws.length; omega)
        rw [decide_eq_true (by rw [hvi, h2])] at hs1
        rw [hd] at hloop
        rw [ev_pos rfl, ev_bind hs1, ev_pos rfl, ev_pos (by rw [hdn, w64 (by omega) (by omega)]; omega)]
        exact hloop
    · have e2 : (vetV q ws).2 = false := by rw [vetV, if_neg hg]
      rw [e2, ev_neg (by decide), ev_now]
  cases hd : (dicV q ws).2 with
  | false =>
    rw [hd] at hj2
    rw [ev_neg (by decide)]
    exact hj2
  | true =>
    have hv : (vetV q ws).2 = true := by
      have := (good_iff q ws).2 (dicV_some hd).1
      rw [vetV, if_pos this]
    rw [hd] at hj2
    rw [ev_pos rfl, ev_pos hv]
    exact hj2
theorem laws_FnSetsWinOfAll.law_j0 (q : Int) (ws s : List Int) (q2 : Int) (ws2 : List Int) (hl : ws.length ≤ 9223372036854775807) (hs : s.length ≤ 9223372036854775807) (hl2 : ws2.length ≤ 9223372036854775807) : Ev (fun k => laws_FnSetsWinOfAll.j0 k s (winsV q ws s).1 (winsV q ws s).2 (blkV q ws s).1 (weiV q ws s).1 (totV q ws).1 (goodB q ws != goodB q ws) q ws q2 ws2) true := by
  refine ev_step ?_
  simp only [laws_FnSetsWinOfAll.j0]
  rw [ev_neg (by simp)]
  have hj1 := laws_FnSetsWinOfAll.law_j1 q2 ws2 hl2
  cases hg : setOfB q ws s with
  | false =>
    have e : (winsV q ws s).2 = false := by rw [winsV, hg]; rfl
    rw [e, ev_neg (by decide)]
    exact hj1
  | true =>
    obtain ⟨hc, h1, h2, h3, h4⟩ := setOfB_facts hg
    have h9 := hc.l9
    have hgb := (good_iff q ws).2 hc
    have hsum := hc.sum
    have hq1 := hc.q1
    have hqs := hc.qs
    have e1 : winsV q ws s = (decide (q ≤ wsum ws (maskN s)), true) := by rw [winsV, if_pos hg]
    have e2 : blkV q ws s = (decide (ws.sum - wsum ws (maskN s) < q), true) := by rw [blkV, if_pos hg]
    have e3 : weiV q ws s = (wsum ws (maskN s), true) := by rw [weiV, if_pos hg]
    have e4 : totV q ws = (ws.sum, true) := by rw [totV, if_pos hgb]
    have hO : setOfB q ws (othI s ws.length) = true := by rw [setOfB, hgb, othI, takeI_set]; rfl
    have hom : maskN (othI s ws.length) = 2 ^ ws.length - 1 - maskN s := maskN_oth s ws.length h1
    have hol : (othI s ws.length).length ≤ 9223372036854775807 := by have := takeI_len (fun i => !(s.contains (i : Int))) ws.length; unfold othI; omega
    have hwc := wsum_compl ws (maskN s) h3
    have hd := dual_good hc
    have hbd := wsum_bounds ws hc.w0 (maskN s)
    have hS := laws_mSum.ev ws hl
    rw [wfold_sum ws 0 (fun x hx => by have := hc.w x hx; omega) (by omega) (by omega), Int.zero_add] at hS
    have hdu := impl_DualCommittee.ev q ws hl
    have hdw := impl_IsWinning.ev (ws.sum - q + 1) ws s hl hs
    have hds : setOfB (ws.sum - q + 1) ws s = true := by rw [setOfB, hd, h1]; rfl
    have ho1 := impl_WeightOfSet.ev q ws (othI s ws.length) hl hol
    have ho2 := impl_IsWinning.ev q ws (othI s ws.length) hl hol
    rw [dualC, if_pos hgb] at hdu
    rw [winsV, if_pos hds] at hdw
    rw [weiV, if_pos hO, hom, hwc] at ho1
    rw [winsV, if_pos hO, hom, hwc] at ho2
    rw [e1, e2, e3, e4, ev_pos rfl, ev_bind (laws_mOthers.ev s ws.length hs (by omega)), ev_bind ho1, ev_bind ho2, ev_bind hdu, ev_bind hdw, ev_neg (by simp), ev_pos rfl, ev_pos (by show wrap64 (_ + _) = _; rw [w64 (by omega) (by omega)]; omega), ev_pos rfl, ev_neg (by simp; omega), ev_pos rfl, ev_pos rfl, ev_neg (by simp; omega), ev_bind hS, ev_pos rfl]
    exact hj1
theorem laws_FnSetsWinOfAll.law (q : Int) (ws s : List Int) (q2 : Int) (ws2 : List Int) (okq : OkI q) (okws : OkL ws) (oks : OkL s) (okq2 : OkI q2) (okws2 : OkL ws2) : Ev (fun k => laws_FnSetsWinOfAll.f k q ws s q2 ws2) true := by
  have hl := okws.len
  have hs := oks.len
  have hl2 := okws2.len
  simp only [laws_FnSetsWinOfAll.f]
  by_cases c : (s.length : Int) > 10000
  · rw [ev_pos c, ev_now]
  have hj0 := laws_FnSetsWinOfAll.law_j0 q ws s q2 ws2 hl hs hl2
  have hC := impl_IsCommittee.ev q ws hl
  have hC2 := spec_IsCommittee.ev q ws hl
  have hbw : (blkV q ws s).2 = (winsV q ws s).2 := by unfold blkV winsV; split <;> rfl
  have hew : (weiV q ws s).2 = (winsV q ws s).2 := by unfold weiV winsV; split <;> rfl
  have htg : (totV q ws).2 = goodB q ws := by unfold totV; split <;> simp_all
  rw [ev_neg c, ev_bind (impl_IsWinning.ev q ws s hl hs), ev_bind (spec_IsWinning.ev q ws s hl hs), ev_bind (impl_IsBlocking.ev q ws s hl hs), ev_bind (spec_IsBlocking.ev q ws s hl hs), ev_bind (impl_WeightOfSet.ev q ws s hl hs), ev_bind (spec_WeightOfSet.ev q ws s hl hs), ev_bind (impl_TotalWeight.ev q ws hl), ev_bind (spec_TotalWeight.ev q ws hl), ev_neg (by simp), ev_neg (by simp), ev_neg (by simp), ev_neg (by simp), ev_neg (by simp), ev_pos rfl, ev_neg (by simp), ev_pos rfl, ev_neg (by rw [hbw]; simp), ev_neg (by rw [hew]; simp)]
  cases hg : setOfB q ws s with
  | false =>
    have e : (winsV q ws s).2 = false := by rw [winsV, hg]; rfl
    rw [e] at hj0 ⊢
    rw [ev_neg (by decide), ev_bind hC, ev_neg (by rw [htg]; simp), ev_bind hC, ev_bind hC2]
    exact hj0
  | true =>
    have hgb := (good_iff q ws).2 (setOfB_facts hg).1
    have e : (winsV q ws s).2 = true := by rw [winsV, if_pos hg]
    rw [e] at hj0 ⊢
    rw [ev_pos rfl, ev_pos (by rw [htg, hgb]), ev_bind hC, ev_neg (by rw [htg]; simp), ev_bind hC, ev_bind hC2]
    exact hj0
end Go.Proofs.Ytaajmdpkbplgjaa.Q
