/- Printed functions, their contracts and plain facts on them: PSumOf; PWithin; PIsCommittee; PIfCommittee; PL1In; PVoSum; PVoGood; PAddDummy; PTimesCommittee; PAddVeto; PVotesOf; PHas; PWeight; PCommitteeVotes; PSetN; PPop. Conditions: as each theorem states. -/
import Derived.Test.YtaambkdiokbdgabGreatGWeightsMadeOfAllx1
import Derived.Test.YtaambkdiokbdgabGreatGWeightsMadeOfAllx3
import Derived.Test.YtaambkdiokbdgabGreatGWeightsMadeOfAllx2
import Derived.Test.YtaambkdiokbdgabGreatGWeightsMadeOfAllx4
set_option maxHeartbeats 40000000
set_option maxRecDepth 100000
namespace Go.Proofs.YtaambkdiokbdgabGreat.Q
open Go.RowKit Go.Proofs.YtaambkdiokbdgabGreatW.PrintWords Go.Proofs.YtaambkdiokbdgabGreatW.PrintLast Go.Proofs.YtaambkdiokbdgabGreatW.PrintMore Go.Proofs.YtaambkdiokbdgabGreatM
set_option linter.unusedVariables false
set_option linter.unusedSimpArgs false
theorem impl_sumOf.ev_l (l : List Int) (hl : l.length ≤ 9223372036854775807) : ∀ (d i : Nat) (s : Int), i + d = l.length → Ev (fun k => impl_sumOf.l0 k s l (l.length : Int) (i : Int)) (wfold (l.drop i) s) := by
  intro d
  induction d with
  | zero =>
    intro i s h
    refine ev_step ?_
    simp only [impl_sumOf.l0]
    rw [ev_neg (by omega), ev_now, List.drop_of_length_le (by omega)]
    rfl
  | succ d ih =>
    intro i s h
    refine ev_step ?_
    simp only [impl_sumOf.l0]
    have hi : i < l.length := by omega
    rw [ev_pos (by omega), ev_pos (by omega), ev_pos (by omega), w64i (n := l.length) (by omega) (by omega) hl, rd_lt l i hi, wfold_take l i hi]
    exact ih (i + 1) _ (by omega)
theorem impl_sumOf.ev (l : List Int) (hl : l.length ≤ 9223372036854775807) : Ev (fun k => impl_sumOf.f k l) (wfold l 0) := impl_sumOf.ev_l l hl l.length 0 0 (by omega)
theorem impl_within.v (a b c : Int) : impl_within.f a b c = some (decide (b ≤ a) && decide (a ≤ c)) := by
  unfold impl_within.f
  by_cases h : b ≤ a
  · rw [if_pos h]; simp [h]
  · rw [if_neg h]; simp [h]
theorem impl_IsCommittee.ev (q : Int) (l : List Int) (hl : l.length ≤ 9223372036854775807) : Ev (fun k => impl_IsCommittee.f k q l) (goodB q l) := by
  simp only [impl_IsCommittee.f]
  unfold goodB
  by_cases h1 : 1 ≤ l.length
  · rw [ev_pos (by omega)]
    by_cases h2 : l.length ≤ 9
    · rw [ev_pos (by omega), ev_bind (ev_of (show impl_areIn.f l 0 1000 = some _ from rfl))]
      cases hb : (l.all fun x => decide (0 ≤ x) && decide (x ≤ 1000)) with
      | true =>
        rw [ev_pos rfl, ev_bind (impl_sumOf.ev l hl), ev_bind (ev_of (impl_within.v _ _ _)), ev_now, wfold_w l h2 hb]
        simp [h1, h2]
      | false =>
        rw [ev_neg (by simp), ev_now]
        simp
    · rw [ev_neg (by omega), ev_now]
      simp [h2]
  · rw [ev_neg (by omega), ev_now]
    simp [h1]
def ifGood (q : Int) (l : List Int) : Int × List Int × Bool := if goodB q l = true then (q, l, true) else (0, [], false)
theorem impl_ifCommittee.ev (q : Int) (l : List Int) (hl : l.length ≤ 9223372036854775807) : Ev (fun k => impl_ifCommittee.f k q l) (ifGood q l) := by
  simp only [impl_ifCommittee.f]
  rw [ev_bind (impl_IsCommittee.ev q l hl)]
  unfold ifGood
  cases goodB q l with
  | true => rw [ev_pos rfl, ev_now, if_pos rfl]
  | false => rw [ev_neg (by simp), ev_now, if_neg (by simp)]
theorem spec_l1In.v (a b c : Int) : spec_l1In.f a b c = some (decide (b ≤ a) && decide (a ≤ c)) := by
  unfold spec_l1In.f
  by_cases h : b ≤ a
  · rw [if_pos h]; simp [h]
  · rw [if_neg h]; simp [h]
theorem spec_voSum.ev_l (l : List Int) (hl : l.length ≤ 9223372036854775807) : ∀ (d i : Nat) (s : Int), i + d = l.length → Ev (fun k => spec_voSum.l0 k s l (l.length : Int) (i : Int)) (wfold (l.drop i) s) := by
  intro d
  induction d with
  | zero =>
    intro i s h
    refine ev_step ?_
    simp only [spec_voSum.l0]
    rw [ev_neg (by omega), ev_now, List.drop_of_length_le (by omega)]
    rfl
  | succ d ih =>
    intro i s h
    refine ev_step ?_
    simp only [spec_voSum.l0]
    have hi : i < l.length := by omega
    rw [ev_pos (by omega), ev_pos (by omega), ev_pos (by omega), w64i (n := l.length) (by omega) (by omega) hl, rd_lt l i hi, wfold_take l i hi]
    exact ih (i + 1) _ (by omega)
theorem spec_voSum.ev (l : List Int) (hl : l.length ≤ 9223372036854775807) : Ev (fun k => spec_voSum.f k l) (wfold l 0) := spec_voSum.ev_l l hl l.length 0 0 (by omega)
theorem spec_l1All.ev_l (l : List Int) (lo hi : Int) (hl : l.length ≤ 9223372036854775807) : ∀ (d i : Nat), i + d = l.length → Ev (fun k => spec_l1All.l0 k lo hi l (l.length : Int) (i : Int)) ((l.drop i).all fun x => decide (lo ≤ x) && decide (x ≤ hi)) := by
  intro d
  induction d with
  | zero =>
    intro i h
    refine ev_step ?_
    simp only [spec_l1All.l0]
    rw [ev_neg (by omega), ev_now, List.drop_of_length_le (by omega)]
    rfl
  | succ d ih =>
    intro i h
    refine ev_step ?_
    simp only [spec_l1All.l0]
    have hi' : i < l.length := by omega
    rw [ev_pos (by omega), ev_pos (by omega), ev_pos (by omega), w64i (n := l.length) (by omega) (by omega) hl, rd_lt l i hi', List.drop_eq_getElem_cons hi', List.all_cons, ev_bind (ev_of (spec_l1In.v _ _ _))]
    cases hb : (decide (lo ≤ l[i]) && decide (l[i] ≤ hi)) with
    | true =>
      rw [ev_pos rfl, Bool.true_and]
      exact ih (i + 1) (by omega)
    | false =>
      rw [ev_neg (by decide), ev_now]
      rfl
theorem spec_l1All.ev (l : List Int) (lo hi : Int) (hl : l.length ≤ 9223372036854775807) : Ev (fun k => spec_l1All.f k l lo hi) (l.all fun x => decide (lo ≤ x) && decide (x ≤ hi)) := spec_l1All.ev_l l lo hi hl l.length 0 (by omega)
theorem spec_voGood.ev (q : Int) (l : List Int) (hl : l.length ≤ 9223372036854775807) : Ev (fun k => spec_voGood.f k q l) (goodB q l) := by
  simp only [spec_voGood.f]
  rw [ev_bind (ev_of (spec_l1In.v _ _ _))]
  unfold goodB
  by_cases h1 : 1 ≤ (l.length : Int) ∧ (l.length : Int) ≤ 9
  · rw [ev_pos (by simp [h1]), ev_bind (spec_l1All.ev l 0 1000 hl)]
    refine ev_step ?_
    simp only [spec_voGood.j0]
    cases hb : (l.all fun x => decide (0 ≤ x) && decide (x ≤ 1000)) with
    | true =>
      rw [ev_neg (by simp), ev_bind (spec_voSum.ev l hl), ev_bind (ev_of (spec_l1In.v _ _ _)), ev_now, wfold_w l (by omega) hb]
      have e1 : 1 ≤ l.length := by omega
      have e2 : l.length ≤ 9 := by omega
      simp [e1, e2]
    | false =>
      rw [ev_pos (by simp), ev_now]
      simp
  · rw [ev_neg (by simpa using h1)]
    refine ev_step ?_
    simp only [spec_voGood.j0]
    rw [ev_pos (by simp), ev_now]
    have : ¬ (1 ≤ l.length ∧ l.length ≤ 9) := by omega
    by_cases e1 : 1 ≤ l.length
    · have e2 : ¬ l.length ≤ 9 := by omega
      simp [e2]
    · simp [e1]
theorem impl_Clone.v (l : List Int) (h : l.length < 17592186044416) : slices_Clone_int_int.f l = some l := by
  simp [slices_Clone_int_int.f, h]
theorem impl_withMember.ev (q : Int) (ws : List Int) (a b : Int) (hl : ws.length ≤ 9223372036854775807) : Ev (fun k => impl_withMember.f k q ws a b) (if goodB q ws = true then ifGood (wrap64 (q + b)) (ws ++ [a]) else (0, [], false)) := by
  simp only [impl_withMember.f]
  rw [ev_bind (impl_IsCommittee.ev q ws hl)]
  cases hg : goodB q ws with
  | false => rw [ev_neg (by simp), ev_now, if_neg (by simp)]
  | true =>
    have hG := (good_iff q ws).1 hg
    have h9 := hG.l9
    rw [ev_pos rfl, ev_bind (ev_of (impl_Clone.v ws (by omega))), if_pos rfl]
    simp only [Option.bind_some, List.length_singleton]
    rw [ev_pos (by omega), ev_bind (impl_ifCommittee.ev _ _ (by simp; omega)), ev_now]
def dummyV (q : Int) (ws : List Int) : Int × List Int × Bool := if goodB q ws = true ∧ ws.length ≠ 9 then (q, ws ++ [0], true) else (0, [], false)
theorem dummy_good {q : Int} {ws : List Int} (h : GoodC q ws) : ifGood q (ws ++ [0]) = if ws.length ≠ 9 then (q, ws ++ [0], true) else (0, [], false) := by
  unfold ifGood
  by_cases h9 : ws.length ≠ 9
  · rw [if_pos h9, if_pos]
    refine (good_iff _ _).2 ⟨by simp, by have := h.l9; simp; omega, fun x hx => ?_, h.q1, by have := h.qs; simpa using this⟩
    rcases List.mem_append.1 hx with hx | hx
    · exact h.w x hx
    · rw [List.mem_singleton.1 hx]; omega
  · rw [if_neg h9, if_neg]
    intro hg
    have := ((good_iff _ _).1 hg).l9
    simp at this
    omega
theorem impl_AddDummy.ev (q : Int) (ws : List Int) (hl : ws.length ≤ 9223372036854775807) (hq : OkI q) : Ev (fun k => impl_AddDummy.f k q ws) (dummyV q ws) := by
  simp only [impl_AddDummy.f]
  rw [ev_bind (impl_withMember.ev q ws 0 0 hl), ev_now]
  have hr := hq.range
  unfold dummyV
  cases hg : goodB q ws with
  | false => simp
  | true =>
    rw [if_pos rfl, w64 (by omega) (by omega), Int.add_zero, dummy_good ((good_iff q ws).1 hg)]
    by_cases h9 : ws.length ≠ 9 <;> simp [h9]
theorem spec_Own.v (l : List Int) (h : l.length < 17592186044416) : spec_l1Own.f l = some l := by
  simp [spec_l1Own.f, h]
theorem spec_AddDummy.ev (q : Int) (ws : List Int) (hl : ws.length ≤ 9223372036854775807) : Ev (fun k => spec_AddDummy.f k q ws) (dummyV q ws) := by
  simp only [spec_AddDummy.f]
  rw [ev_bind (spec_voGood.ev q ws hl)]
  unfold dummyV
  cases hg : goodB q ws with
  | false => rw [ev_neg (by simp), ev_now, if_neg (by simp)]
  | true =>
    have hG := (good_iff q ws).1 hg
    have h9 := hG.l9
    rw [ev_pos rfl]
    by_cases h : ws.length = 9
    · rw [ev_pos (by omega), ev_now, if_neg (by simp [h])]
    · rw [ev_neg (by omega), ev_bind (ev_of (spec_Own.v ws (by omega))), if_pos ⟨rfl, h⟩]
      simp only [Option.bind_some, List.length_singleton]
      rw [ev_pos (by omega), ev_now]
theorem dummyV_len (q : Int) (ws : List Int) : (dummyV q ws).2.1.length ≤ 10 := by
  unfold dummyV
  split
  · next h => have := ((good_iff q ws).1 h.1).l9; simp; omega
  · simp
def timesV (q : Int) (ws : List Int) (k : Int) : Int × List Int × Bool := if goodB q ws = true ∧ 1 ≤ k ∧ k ≤ 1000 then ifGood ((q - 1) * k + 1) (ws.map (· * k)) else (0, [], false)
theorem times_in {q : Int} {ws : List Int} {k : Int} (h : GoodC q ws) (h1 : 1 ≤ k) (h2 : k ≤ 1000) : 0 ≤ (q - 1) * k ∧ (q - 1) * k ≤ 9000000 := by
  have hs := h.sum
  have h3 := h.q1
  have h4 := h.qs
  have h5 : (q - 1) * k ≤ 9000 * k := Int.mul_le_mul_of_nonneg_right (by omega) (by omega)
  have h6 : 0 ≤ (q - 1) * k := Int.mul_nonneg (by omega) (by omega)
  omega
theorem spec_TimesCommittee.ev_l (q : Int) (ws : List Int) (c : Int) (hl : ws.length ≤ 9) (hw : ∀ x ∈ ws, 0 ≤ x ∧ x ≤ 1000) (h1 : 1 ≤ c) (h2 : c ≤ 1000) : ∀ (d i : Nat), i + d = ws.length → Ev (fun k => spec_TimesCommittee.l0 k c ws (ws.length : Int) (i : Int) q ((ws.map (· * c)).take i)) (ifGood q (ws.map (· * c))) := by
  intro d
  induction d with
  | zero =>
    intro i h
    refine ev_step ?_
    simp only [spec_TimesCommittee.l0]
    rw [ev_neg (by omega), List.take_of_length_le (by simp; omega), ev_bind (spec_voGood.ev q (ws.map (· * c)) (by simp; omega))]
    unfold ifGood
    cases goodB q (ws.map (· * c)) with
    | true => rw [ev_pos rfl, ev_now, if_pos rfl]
    | false => rw [ev_neg (by simp), ev_now, if_neg (by simp)]
  | succ d ih =>
    intro i h
    refine ev_step ?_
    simp only [spec_TimesCommittee.l0]
    have hi : i < ws.length := by omega
    have hx := hw ws[i] (List.getElem_mem hi)
    have hm : 0 ≤ ws[i] * c ∧ ws[i] * c ≤ 1000000 := by
      have h5 : ws[i] * c ≤ 1000 * c := Int.mul_le_mul_of_nonneg_right (by omega) (by omega)
      have h6 : 0 ≤ ws[i] * c := Int.mul_nonneg (by omega) (by omega)
      omega
    rw [ev_pos (by omega), ev_pos (by omega), ev_pos (by omega), ev_pos (by simp; omega), rd_lt ws i hi, w64i (i := (i : Int)) (n := ws.length) (by omega) (by omega) (by omega), w64 (x := ws[i] * c) (by omega) (by omega)]
    have := ih (i + 1) (by omega)
    rw [List.take_succ_eq_append_getElem (by simp; omega), List.getElem_map] at this
    exact this
theorem impl_TimesCommittee.ev_l (q : Int) (ws : List Int) (c : Int) (hl : ws.length ≤ 9) (hw : ∀ x ∈ ws, 0 ≤ x ∧ x ≤ 1000) (h1 : 1 ≤ c) (h2 : c ≤ 1000) : ∀ (d i : Nat), i + d = ws.length → Ev (fun k => impl_TimesCommittee.l0 k c ws (ws.length : Int) (i : Int) q ((ws.map (· * c)).take i)) (ifGood q (ws.map (· * c))) := by
  intro d
  induction d with
  | zero =>
    intro i h
    refine ev_step ?_
    simp only [impl_TimesCommittee.l0]
    rw [ev_neg (by omega), List.take_of_length_le (by simp; omega), ev_bind (impl_ifCommittee.ev q (ws.map (· * c)) (by simp; omega)), ev_now]
  | succ d ih =>
    intro i h
    refine ev_step ?_
    simp only [impl_TimesCommittee.l0]
    have hi : i < ws.length := by omega
    have hx := hw ws[i] (List.getElem_mem hi)
    have hm : 0 ≤ ws[i] * c ∧ ws[i] * c ≤ 1000000 := by
      have h5 : ws[i] * c ≤ 1000 * c := Int.mul_le_mul_of_nonneg_right (by omega) (by omega)
      have h6 : 0 ≤ ws[i] * c := Int.mul_nonneg (by omega) (by omega)
      omega
    rw [ev_pos (by omega), ev_pos (by omega), ev_pos (by omega), ev_pos (by simp; omega), rd_lt ws i hi, w64i (i := (i : Int)) (n := ws.length) (by omega) (by omega) (by omega), w64 (x := ws[i] * c) (by omega) (by omega)]
    have := ih (i + 1) (by omega)
    rw [List.take_succ_eq_append_getElem (by simp; omega), List.getElem_map] at this
    exact this
theorem spec_TimesCommittee.ev (q : Int) (ws : List Int) (c : Int) (hl : ws.length ≤ 9223372036854775807) : Ev (fun k => spec_TimesCommittee.f k q ws c) (timesV q ws c) := by
  simp only [spec_TimesCommittee.f]
  rw [ev_bind (spec_voGood.ev q ws hl)]
  unfold timesV
  cases hg : goodB q ws with
  | false =>
    rw [ev_neg (by simp), if_neg (by simp)]
    refine ev_step ?_
    simp only [spec_TimesCommittee.j0, if_true]
    rw [ev_now]
  | true =>
    have hG := (good_iff q ws).1 hg
    rw [ev_pos rfl, ev_bind (ev_of (spec_l1In.v _ _ _))]
    refine ev_step ?_
    simp only [spec_TimesCommittee.j0]
    by_cases hc : 1 ≤ c ∧ c ≤ 1000
    · have ht := times_in hG hc.1 hc.2
      have hs := hG.sum
      have h3 := hG.q1
      have h4 := hG.qs
      rw [ev_neg (by simp; omega), if_pos (by simp [hc]), w64 (x := q - 1) (by omega) (by omega), w64 (x := (q - 1) * c) (by omega) (by omega), w64 (x := (q - 1) * c + 1) (by omega) (by omega)]
      exact spec_TimesCommittee.ev_l _ ws c hG.l9 hG.w hc.1 hc.2 ws.length 0 (by omega)
    · rw [ev_pos (by simp; omega), if_neg (fun h => hc h.2), ev_now]
theorem impl_TimesCommittee.ev (q : Int) (ws : List Int) (c : Int) (hl : ws.length ≤ 9223372036854775807) : Ev (fun k => impl_TimesCommittee.f k q ws c) (timesV q ws c) := by
  simp only [impl_TimesCommittee.f]
  rw [ev_bind (impl_IsCommittee.ev q ws hl)]
  unfold timesV
  cases hg : goodB q ws with
  | false =>
    rw [ev_neg (by simp), if_neg (by simp)]
    refine ev_step ?_
    simp only [impl_TimesCommittee.j0, if_true]
    rw [ev_now]
  | true =>
    have hG := (good_iff q ws).1 hg
    rw [ev_pos rfl, ev_bind (ev_of (impl_within.v _ _ _))]
    refine ev_step ?_
    simp only [impl_TimesCommittee.j0]
    by_cases hc : 1 ≤ c ∧ c ≤ 1000
    · have ht := times_in hG hc.1 hc.2
      have hs := hG.sum
      have h3 := hG.q1
      have h4 := hG.qs
      have he : q * c = (q - 1) * c + c := by rw [Int.sub_mul]; omega
      rw [ev_neg (by simp; omega), if_pos (by simp [hc]), he, w64 (x := (q - 1) * c + c) (by omega) (by omega), w64 (x := c - 1) (by omega) (by omega), w64 (x := (q - 1) * c + c - (c - 1)) (by omega) (by omega), show (q - 1) * c + c - (c - 1) = (q - 1) * c + 1 by omega]
      exact impl_TimesCommittee.ev_l _ ws c hG.l9 hG.w hc.1 hc.2 ws.length 0 (by omega)
    · rw [ev_pos (by simp; omega), if_neg (fun h => hc h.2), ev_now]
theorem ifGood_len (q : Int) (l : List Int) : (ifGood q l).2.1.length ≤ 9 := by
  unfold ifGood
  split
  · next h => exact ((good_iff q l).1 h).l9
  · simp
theorem timesV_len (q : Int) (ws : List Int) (k : Int) : (timesV q ws k).2.1.length ≤ 9 := by
  unfold timesV
  split
  · exact ifGood_len _ _
  · simp
def vetoV (q : Int) (ws : List Int) : Int × List Int × Bool := if goodB q ws = true then ifGood (q + ws.sum) (ws ++ [ws.sum]) else (0, [], false)
theorem impl_AddVeto.ev (q : Int) (ws : List Int) (hl : ws.length ≤ 9223372036854775807) : Ev (fun k => impl_AddVeto.f k q ws) (vetoV q ws) := by
  simp only [impl_AddVeto.f]
  rw [ev_bind (impl_sumOf.ev ws hl), ev_bind (impl_sumOf.ev ws hl), ev_bind (impl_withMember.ev q ws _ _ hl), ev_now]
  unfold vetoV
  cases hg : goodB q ws with
  | false => simp
  | true =>
    have hG := (good_iff q ws).1 hg
    have hs := hG.sum
    have h3 := hG.q1
    have h4 := hG.qs
    rw [if_pos rfl, if_pos rfl, wfold_sum ws 0 (fun x hx => by have := hG.w x hx; omega) (by omega) (by have := hG.l9; omega), Int.zero_add, w64 (by omega) (by omega)]
theorem spec_AddVeto.ev (q : Int) (ws : List Int) (hl : ws.length ≤ 9223372036854775807) : Ev (fun k => spec_AddVeto.f k q ws) (vetoV q ws) := by
  simp only [spec_AddVeto.f]
  rw [ev_bind (spec_voGood.ev q ws hl)]
  unfold vetoV
  cases hg : goodB q ws with
  | false => rw [ev_neg (by simp), ev_now, if_neg (by simp)]
  | true =>
    have hG := (good_iff q ws).1 hg
    have h9 := hG.l9
    have hs := hG.sum
    have h3 := hG.q1
    have h4 := hG.qs
    rw [ev_pos rfl, ev_bind (spec_voSum.ev ws hl), wfold_sum ws 0 (fun x hx => by have := hG.w x hx; omega) (by omega) (by omega), Int.zero_add, ev_bind (ev_of (spec_Own.v ws (by omega))), if_pos rfl]
    simp only [Option.bind_some, List.length_singleton]
    rw [ev_pos (by omega), ev_bind (spec_voGood.ev _ _ (by simp; omega)), w64 (by omega) (by omega)]
    unfold ifGood
    cases goodB (q + ws.sum) (ws ++ [ws.sum]) with
    | true => rw [ev_pos rfl, ev_now, if_pos rfl]
    | false => rw [ev_neg (by simp), ev_now, if_neg (by simp)]
theorem vetoV_len (q : Int) (ws : List Int) : (vetoV q ws).2.1.length ≤ 9 := by
  unfold vetoV
  split
  · exact ifGood_len _ _
  · simp
theorem impl_votesOf.at_l (n N : Nat) (hN : N ≤ 1000000) (P : Int → Option Bool) (p : Nat → Bool) (hP : ∀ m, m < N → P (m : Int) = some (p m)) : ∀ (d m k : Nat) (acc : List Bool), m + d = N → d < k → acc.length = N → acc.take m = ((List.range N).map p).take m → impl_votesOf.l0 k P (N : Int) (m : Int) (n : Int) acc = some ((n : Int), (List.range N).map p) := by
  intro d
  induction d with
  | zero =>
    intro m k acc h hk hlen ht
    obtain ⟨k, rfl⟩ : ∃ j, k = j + 1 := ⟨k - 1, by omega⟩
    simp only [impl_votesOf.l0]
    rw [List.take_of_length_le (by omega), List.take_of_length_le (by simp; omega)] at ht
    rw [if_neg (by omega), ht]
  | succ d ih =>
    intro m k acc h hk hlen ht
    obtain ⟨k, rfl⟩ : ∃ j, k = j + 1 := ⟨k - 1, by omega⟩
    have hm : m < N := by omega
    simp only [impl_votesOf.l0]
    rw [if_pos (by omega), hP m hm, Option.bind_some, if_pos (by omega), if_pos (by omega), w64i (n := N) (by omega) (by omega) (by omega), Int.toNat_natCast]
    refine ih (m + 1) k (acc.set m (p m)) (by omega) (by omega) (by simpa using hlen) ?_
    rw [List.take_succ_eq_append_getElem (by simp; omega), List.take_succ_eq_append_getElem (by simp; omega), List.take_set_of_le (by omega), ht]
    simp
theorem impl_votesOf.ev (n : Nat) (hn : n ≤ 19) (g : Nat → Int → Option Bool) (p : Nat → Bool) (hg : ∀ m : Nat, m < 2 ^ n → Ev (fun k => g k (m : Int)) (p m)) : Ev (fun k => impl_votesOf.f k (n : Int) (g k)) ((n : Int), (List.range (2 ^ n)).map p) := by
  have hp : 2 ^ n ≤ 2 ^ 19 := Nat.pow_le_pow_right (by omega) hn
  have h0 : 0 < 2 ^ n := Nat.two_pow_pos n
  generalize hN : 2 ^ n = N at *
  obtain ⟨K, hK⟩ := ev_all N (fun k m => g k (m : Int)) p hg
  refine ⟨max K (N + 1), fun k hk => ?_⟩
  simp only [impl_votesOf.f]
  rw [if_pos (by omega), shl_one n (by omega), hN, if_pos (by omega), Int.toNat_natCast, if_pos (by omega), Option.bind_some, List.length_replicate]
  exact impl_votesOf.at_l n N (by omega) (g k) p (fun m hm => hK k (by omega) m hm) N 0 k _ (by omega) (by omega) (by simp) (by simp)
theorem impl_has.v (m i : Nat) (hm : m < 2 ^ 62) (hi : i ≤ 62) : impl_has.f (m : Int) (i : Int) = some (decide (m / 2 ^ i % 2 = 1)) := by
  unfold impl_has.f
  have hlt : m / 2 ^ i < 2 ^ 62 := Nat.lt_of_le_of_lt (Nat.div_le_self _ _) hm
  rw [if_pos (by omega), shr_nat m i (by omega), and_one _ hlt]
  congr 1
  by_cases h : m / 2 ^ i % 2 = 1
  · simp [h]
  · have : m / 2 ^ i % 2 = 0 := by omega
    simp [this]
theorem impl_Committee_weight.ev_l (q : Int) (ws : List Int) (m : Nat) (hm : m < 2 ^ 62) (hl : ws.length ≤ 60) (hw : ∀ x ∈ ws, 0 ≤ x ∧ x ≤ 1000000000) : ∀ (d i : Nat) (s : Int), i + d = ws.length → 0 ≤ s → s + wsum (ws.drop i) (m / 2 ^ i) ≤ 1000000000000 → Ev (fun k => impl_Committee_weight.l0 k (m : Int) s ws (ws.length : Int) (i : Int)) (s + wsum (ws.drop i) (m / 2 ^ i)) := by
  intro d
  induction d with
  | zero =>
    intro i s h _ _
    refine ev_step ?_
    simp only [impl_Committee_weight.l0]
    rw [ev_neg (by omega), ev_now, List.drop_of_length_le (by omega)]
    simp [wsum]
  | succ d ih =>
    intro i s h h0 h1
    refine ev_step ?_
    simp only [impl_Committee_weight.l0]
    have hi : i < ws.length := by omega
    have hx := hw ws[i] (List.getElem_mem hi)
    have hd : wsum (ws.drop i) (m / 2 ^ i) = (if m / 2 ^ i % 2 = 1 then ws[i] else 0) + wsum (ws.drop (i + 1)) (m / 2 ^ (i + 1)) := by
      rw [wsum_drop ws i _ hi, Nat.div_div_eq_div_mul, ← Nat.pow_succ]
    have hb := wsum_bounds (ws.drop (i + 1)) (fun x hx => (hw x (List.mem_of_mem_drop hx)).1) (m / 2 ^ (i + 1))
    rw [ev_pos (by omega), ev_pos (by omega), ev_pos (by omega), ev_bind (ev_of (impl_has.v m i hm (by omega))), w64i (n := ws.length) (by omega) (by omega) (by omega), rd_lt ws i hi, hd]
    rw [hd] at h1
    by_cases hbit : m / 2 ^ i % 2 = 1
    · rw [if_pos hbit] at h1 ⊢
      rw [ev_pos (by simpa using hbit), w64 (by omega) (by omega), ← Int.add_assoc]
      exact ih (i + 1) (s + ws[i]) (by omega) (by omega) (by omega)
    · rw [if_neg hbit] at h1 ⊢
      rw [ev_neg (by simpa using hbit), Int.zero_add]
      exact ih (i + 1) s (by omega) h0 (by omega)
theorem impl_Committee_weight.ev (q : Int) (ws : List Int) (m : Nat) (hm : m < 2 ^ 62) (hl : ws.length ≤ 60) (hw : ∀ x ∈ ws, 0 ≤ x ∧ x ≤ 1000000000) : Ev (fun k => impl_Committee_weight.f k q ws (m : Int)) (wsum ws m) := by
  have hb := wsum_bounds ws (fun x hx => (hw x hx).1) m
  have hs := sum_bounds ws 1000000000 hw
  have := impl_Committee_weight.ev_l q ws m hm hl hw ws.length 0 0 (by omega) (by omega) (by simp; omega)
  simpa [impl_Committee_weight.f] using this
theorem impl_Committee_votes.ev (q : Int) (ws : List Int) (hl : ws.length ≤ 9) (hw : ∀ x ∈ ws, 0 ≤ x ∧ x ≤ 1000000000) : Ev (fun k => impl_Committee_votes.f k q ws) ((ws.length : Int), winsL q ws) := by
  have hp : 2 ^ ws.length ≤ 2 ^ 9 := Nat.pow_le_pow_right (by omega) hl
  refine impl_votesOf.ev ws.length (by omega) (fun k => impl_Committee_votes_1.f k q ws) (fun m => decide (q ≤ wsum ws m)) (fun m hm => ?_)
  simp only [impl_Committee_votes_1.f]
  rw [ev_bind (impl_Committee_weight.ev q ws m (by omega) (by omega) hw), ev_now]
def bitB (m i : Nat) : Bool := decide (m / 2 ^ i % 2 = 1)
def setN (m : Nat) : List Int := ((List.range 62).filter (bitB m)).map fun (i : Nat) => (i : Int)
def setTo (m i : Nat) : List Int := ((List.range i).filter (bitB m)).map fun (i : Nat) => (i : Int)
theorem bitB_high {m i j : Nat} (h : m / 2 ^ i = 0) (hij : i ≤ j) : bitB m j = false := by
  unfold bitB
  have : m < 2 ^ i := by
    rcases Nat.lt_or_ge m (2 ^ i) with h1 | h1
    · exact h1
    · have := Nat.div_pos h1 (Nat.two_pow_pos i)
      omega
  have h2 : 2 ^ i ≤ 2 ^ j := Nat.pow_le_pow_right (by omega) hij
  rw [Nat.div_eq_of_lt (by omega)]
  rfl
theorem setTo_done {m i : Nat} (h : m / 2 ^ i = 0) (hi : i ≤ 62) : setTo m i = setN m := by
  unfold setTo setN
  rw [show List.range 62 = List.range i ++ (List.range (62 - i)).map (i + ·) by rw [← List.range_add]; congr 1; omega, List.filter_append]
  have : ((List.range (62 - i)).map (i + ·)).filter (bitB m) = [] := by
    rw [List.filter_eq_nil_iff]
    intro j hj
    obtain ⟨a, _, rfl⟩ := List.mem_map.1 hj
    rw [bitB_high h (by omega)]
    decide
  rw [this, List.append_nil]
theorem setTo_succ (m i : Nat) : setTo m (i + 1) = if bitB m i = true then setTo m i ++ [(i : Int)] else setTo m i := by
  unfold setTo
  rw [List.range_succ, List.filter_append, List.map_append]
  by_cases h : bitB m i = true
  · rw [if_pos h]
    simp [h]
  · rw [if_neg h]
    simp [h]
theorem setTo_len (m i : Nat) : (setTo m i).length ≤ i := by
  unfold setTo
  rw [List.length_map]
  have := List.length_filter_le (bitB m) (List.range i)
  rw [List.length_range] at this
  exact this
def leastB (W : List Bool) (n m : Nat) : Bool := W.getD m false && (List.range n).all fun i => !(bitB m i) || !(W.getD (m - 2 ^ i) false)
def takeL (P : Nat → Bool) (i : Nat) : List (List Int) := ((List.range i).filter P).map setN
theorem takeL_succ (P : Nat → Bool) (i : Nat) : takeL P (i + 1) = if P i = true then takeL P i ++ [setN i] else takeL P i := by
  unfold takeL
  rw [List.range_succ, List.filter_append, List.map_append]
  by_cases h : P i = true
  · rw [if_pos h]
    simp [h]
  · rw [if_neg h]
    simp [h]
theorem takeL_len (P : Nat → Bool) (i : Nat) : (takeL P i).length ≤ i := by
  unfold takeL
  rw [List.length_map]
  have := List.length_filter_le P (List.range i)
  rw [List.length_range] at this
  exact this
theorem takeL_mem {P : Nat → Bool} {i : Nat} : ∀ x ∈ takeL P i, ∃ m, m < i ∧ P m = true ∧ x = setN m := by
  intro x hx
  obtain ⟨m, hm, rfl⟩ := List.mem_map.1 hx
  rw [List.mem_filter, List.mem_range] at hm
  exact ⟨m, hm.1, hm.2, rfl⟩
def popN (m : Nat) : Nat := ((List.range 9).filter (bitB m)).length
theorem impl_count_all : ((List.range 512).all fun m => decide (impl_count.f (m : Int) = some ((popN m : Nat) : Int))) = true := by decide +kernel
theorem impl_count.v {m : Nat} (hm : m < 512) : impl_count.f (m : Int) = some ((popN m : Nat) : Int) := of_decide_eq_true (List.all_eq_true.1 impl_count_all m (List.mem_range.2 hm))
def ofB (W : List Bool) (a : Int) (m : Nat) : Bool := W.getD m false && decide (((popN m : Nat) : Int) = a)
def cntO (W : List Bool) (a : Int) : Int := (((List.range W.length).filter (ofB W a)).length : Nat)
theorem impl_CountWinningOf.ev_l (W : List Bool) (hW : W.length ≤ 512) (a : Int) : ∀ (d i : Nat), i + d = W.length → Ev (fun k => impl_CountWinningOf.l0 k a (((List.range i).filter (ofB W a)).length : Int) W (W.length : Int) (i : Int)) (cntO W a, true) := by
  intro d
  induction d with
  | zero =>
    intro i h
    refine ev_step ?_
    simp only [impl_CountWinningOf.l0]
    rw [ev_neg (by omega), ev_now, cntO, show i = W.length by omega]
  | succ d ih =>
    intro i h
    refine ev_step ?_
    simp only [impl_CountWinningOf.l0]
    have hi : i < W.length := by omega
    have hih := ih (i + 1) (by omega)
    have hle : ((List.range i).filter (ofB W a)).length ≤ i := by have := List.length_filter_le (ofB W a) (List.range i); rw [List.length_range] at this; exact this
    rw [List.range_succ, List.filter_append, List.length_append] at hih
    rw [show ((i + 1 : Nat) : Int) = (i : Int) + 1 by omega] at hih
    rw [ev_pos (by omega), ev_pos (by omega), ev_pos (by omega), rdOf_nat, w64i (i := (i : Int)) (n := W.length) (by omega) (by omega) (by omega)]
    cases hb : W.getD i false with
    | false =>
      have e : ofB W a i = false := by rw [ofB, hb, Bool.false_and]
      rw [List.filter_cons, e] at hih
      rw [ev_neg (by decide)]
      simpa using hih
    | true =>
      rw [ev_pos rfl, ev_bind (ev_of (impl_count.v (by omega)))]
      by_cases c : ((popN i : Nat) : Int) = a
      · have e : ofB W a i = true := by rw [ofB, hb, Bool.true_and, decide_eq_true c]
        rw [List.filter_cons, e] at hih
        rw [ev_pos c, w64 (by omega) (by omega)]
        simpa using hih
      · have e : ofB W a i = false := by rw [ofB, hb, Bool.true_and, decide_eq_false c]
        rw [List.filter_cons, e] at hih
        rw [ev_neg c]
        simpa using hih
def cwoV (q : Int) (ws : List Int) (a : Int) : Int × Bool := if (goodB q ws && (decide (0 ≤ a) && decide (a ≤ (ws.length : Int)))) = true then (cntO (winsL q ws) a, true) else (0, false)
theorem impl_CountWinningOf.ev (q : Int) (ws : List Int) (a : Int) (hl : ws.length ≤ 9223372036854775807) : Ev (fun k => impl_CountWinningOf.f k q ws a) (cwoV q ws a) := by
  simp only [impl_CountWinningOf.f]
  rw [ev_bind (impl_IsCommittee.ev q ws hl)]
  unfold cwoV
  cases hg : goodB q ws with
  | false =>
    rw [ev_neg (by decide)]
    refine ev_step ?_
    simp only [impl_CountWinningOf.j0]
    rw [ev_pos (by decide), ev_now, Bool.false_and, if_neg (by decide)]
  | true =>
    have hc := (good_iff q ws).1 hg
    have hp := hc.pow
    have hwl := winsL_length q ws
    rw [ev_pos rfl, ev_bind (ev_of (impl_within.v a 0 (ws.length : Int))), Bool.true_and]
    refine ev_step ?_
    simp only [impl_CountWinningOf.j0]
    cases hin : (decide (0 ≤ a) && decide (a ≤ (ws.length : Int))) with
    | false => rw [ev_pos (by decide), ev_now, if_neg (by decide)]
    | true =>
      rw [ev_neg (by decide), if_pos rfl, ev_bind (impl_Committee_votes.ev q ws hc.l9 hc.wb)]
      exact impl_CountWinningOf.ev_l (winsL q ws) (by omega) a (winsL q ws).length 0 (by omega)
def cntW (W : List Bool) : Int := (W.count true : Nat)
theorem count_drop (W : List Bool) (i : Nat) (h : i < W.length) : (W.drop i).count true = (W.drop (i + 1)).count true + if W.getD i false = true then 1 else 0 := by
  rw [List.drop_eq_getElem_cons h, List.count_cons, List.getD_eq_getElem?_getD, List.getElem?_eq_getElem h, Option.getD_some]
  cases W[i] <;> rfl
theorem impl_votes_countWins.ev_l (W : List Bool) (hW : W.length ≤ 1000000) : ∀ (d i : Nat) (s : Int), i + d = W.length → 0 ≤ s → s + d ≤ 2000000 → Ev (fun k => impl_votes_countWins.l0 k s W (W.length : Int) (i : Int)) (s + ((W.drop i).count true : Nat)) := by
  intro d
  induction d with
  | zero =>
    intro i s h h0 h1
    refine ev_step ?_
    simp only [impl_votes_countWins.l0]
    rw [ev_neg (by omega), ev_now, List.drop_of_length_le (by omega)]
    simp
  | succ d ih =>
    intro i s h h0 h1
    refine ev_step ?_
    simp only [impl_votes_countWins.l0]
    have hi : i < W.length := by omega
    rw [ev_pos (by omega), ev_pos (by omega), ev_pos (by omega), rdOf_nat, w64i (i := (i : Int)) (n := W.length) (by omega) (by omega) (by omega), count_drop W i hi]
    cases hb : W.getD i false with
    | false =>
      rw [ev_neg (by decide), if_neg (by decide)]
      exact ih (i + 1) s (by omega) h0 (by omega)
    | true =>
      have := ih (i + 1) (s + 1) (by omega) (by omega) (by omega)
      rw [ev_pos rfl, if_pos rfl, w64 (by omega) (by omega)]
      rw [show s + (((W.drop (i + 1)).count true + 1 : Nat) : Int) = s + 1 + ((W.drop (i + 1)).count true : Nat) by omega]
      exact this
theorem impl_votes_countWins.ev (n : Int) (W : List Bool) (hW : W.length ≤ 1000000) : Ev (fun k => impl_votes_countWins.f k n W) (cntW W) := by
  have := impl_votes_countWins.ev_l W hW W.length 0 0 (by omega) (by omega) (by omega)
  rw [List.drop_zero, Int.zero_add] at this
  exact this
theorem cntW_bounds (W : List Bool) : 0 ≤ cntW W ∧ cntW W ≤ (W.length : Int) := by
  have := List.count_le_length (a := true) (l := W)
  unfold cntW
  omega
def cwV (q : Int) (ws : List Int) : Int × Bool := if goodB q ws = true then (cntW (winsL q ws), true) else (0, false)
theorem impl_CountWinning.ev (q : Int) (ws : List Int) (hl : ws.length ≤ 9223372036854775807) : Ev (fun k => impl_CountWinning.f k q ws) (cwV q ws) := by
  simp only [impl_CountWinning.f]
  rw [ev_bind (impl_IsCommittee.ev q ws hl)]
  unfold cwV
  cases hg : goodB q ws with
  | false => rw [ev_neg (by decide), ev_now, if_neg (by decide)]
  | true =>
    have hc := (good_iff q ws).1 hg
    have hp := hc.pow
    have hwl := winsL_length q ws
    rw [ev_pos rfl, if_pos rfl, ev_bind (impl_Committee_votes.ev q ws hc.l9 hc.wb), ev_bind (impl_votes_countWins.ev _ (winsL q ws) (by omega)), ev_now]
theorem cnt_range (W : List Bool) : ∀ N, N ≤ W.length → ((W.take N).count true) = ((List.range N).filter fun m => W.getD m false).length := by
  intro N
  induction N with
  | zero => intro _; simp
  | succ N ih =>
    intro h
    have hN : N < W.length := by omega
    rw [List.range_succ, List.filter_append, List.length_append, ← ih (by omega), List.take_succ_eq_append_getElem hN, List.count_append, List.filter_cons, List.getD_eq_getElem?_getD, List.getElem?_eq_getElem hN, Option.getD_some]
    cases W[N] <;> rfl
theorem cntW_range (W : List Bool) : cntW W = (((List.range W.length).filter fun m => W.getD m false).length : Nat) := by
  unfold cntW
  rw [← cnt_range W W.length (Nat.le_refl _), List.take_length]
def incB : List Int → Bool
  | a :: b :: l => decide (a < b) && incB (b :: l)
  | _ => true
def setB (n : Int) (l : List Int) : Bool := (l.all fun x => decide (0 ≤ x) && decide (x ≤ n - 1)) && incB l
def orBits (m : Nat) (l : List Int) : Nat := l.foldl (fun m x => m ||| 2 ^ x.toNat) m
def maskN (l : List Int) : Nat := orBits 0 l
def mAt (l : List (List Int)) (i : Nat) : Nat := maskN (l.getD i [])
def gOrd (l : List (List Int)) (i : Nat) : Bool := decide (i = 0) || decide (cmpL (l.getD (i - 1) []) (l.getD i []) < 0)
def gInS (l : List (List Int)) (i j : Nat) : Bool := !(decide (mAt l i &&& mAt l j = mAt l i)) && !(decide (mAt l i &&& mAt l j = mAt l j))
def gS (l : List (List Int)) (i : Nat) : Bool := gOrd l i && (List.range' 0 i).all (gInS l i)
structure GoodG (n : Int) (l : List (List Int)) : Prop where
  n1 : 1 ≤ n
  n9 : n ≤ 9
  ne : l.length ≠ 0
  sets : ∀ x ∈ l, x.length ≠ 0 ∧ setB n x = true
  gs : ∀ i, i < l.length → gS l i = true
theorem bitB_test (m i : Nat) : bitB m i = m.testBit i := by rw [bitB, Nat.testBit_eq_decide_div_mod_eq]
theorem sub_pow_test (m i j : Nat) (h : m.testBit i = true) : (m - 2 ^ i).testBit j = (m.testBit j && !(decide (j = i))) := by
  have hb : m / 2 ^ i % 2 = 1 := by rw [Nat.testBit_eq_decide_div_mod_eq] at h; simpa using h
  have hge : 2 ^ i ≤ m := by
    rcases Nat.lt_or_ge m (2 ^ i) with h1 | h1
    · rw [Nat.div_eq_of_lt h1] at hb; omega
    · exact h1
  have h0 : (m - 2 ^ i) / 2 ^ i % 2 = 0 := by
    have e : m = (m - 2 ^ i) + 2 ^ i := by omega
    have e2 : m / 2 ^ i = (m - 2 ^ i) / 2 ^ i + 1 := by
      conv => lhs; rw [e]
      exact Nat.add_div_right _ (Nat.two_pow_pos i)
    omega
  have hor := or_pow i (m - 2 ^ i) h0
  rw [Nat.sub_add_cancel hge] at hor
  have hmj : m.testBit j = ((m - 2 ^ i).testBit j || (2 ^ i).testBit j) := by rw [← Nat.testBit_or, hor]
  by_cases e : j = i
  · subst e
    rw [decide_eq_true rfl, Bool.not_true, Bool.and_false, Nat.testBit_eq_decide_div_mod_eq, h0]
    rfl
  · rw [hmj, Nat.testBit_two_pow_of_ne (fun h => e h.symm), decide_eq_false e]
    simp
theorem setN_contains (m i : Nat) (hi : i < 62) : (setN m).contains (i : Int) = m.testBit i := by
  rw [← bitB_test, Bool.eq_iff_iff, List.contains_iff_mem, setN, List.mem_map]
  constructor
  · rintro ⟨j, hj, e⟩
    rw [List.mem_filter] at hj
    rw [← show j = i by omega]
    exact hj.2
  · intro h
    exact ⟨i, List.mem_filter.2 ⟨List.mem_range.2 hi, h⟩, rfl⟩
theorem full_bit (n i : Nat) (h : i < n) : bitB (2 ^ n - 1) i = true := by
  rw [bitB_test, Nat.testBit_two_pow_sub_one, decide_eq_true h]
theorem wsum_out (ws : List Int) (m i : Nat) (h : i < ws.length) (hb : bitB m i = true) : wsum ws (m - 2 ^ i) = wsum ws m - ws[i] := by
  rw [bitB_test] at hb
  have h0 := sub_pow_test m i i hb
  have h1 : (m - 2 ^ i) / 2 ^ i % 2 = 0 := by
    rw [Nat.testBit_eq_decide_div_mod_eq] at h0
    simp at h0
    omega
  have hge : 2 ^ i ≤ m := by
    rcases Nat.lt_or_ge m (2 ^ i) with h2 | h2
    · rw [Nat.testBit_lt_two_pow h2] at hb; cases hb
    · exact h2
  have := wsum_add ws i (m - 2 ^ i) h h1
  rw [Nat.sub_add_cancel hge] at this
  omega
theorem getD_lt (ws : List Int) (i : Nat) (h : i < ws.length) : ws.getD i 0 = ws[i] := by rw [List.getD_eq_getElem?_getD, List.getElem?_eq_getElem h, Option.getD_some]
def vetoB (q : Int) (ws : List Int) (i : Nat) : Bool := decide (ws.sum - ws.getD i 0 < q)
theorem wins_out {q : Int} {ws : List Int} (i : Nat) (h : i < ws.length) : (winsL q ws).getD (2 ^ ws.length - 1 - 2 ^ i) false = !(vetoB q ws i) := by
  have hp := Nat.two_pow_pos ws.length
  rw [winsL_getD q ws (2 ^ ws.length - 1 - 2 ^ i) (Nat.lt_of_le_of_lt (Nat.sub_le _ _) (by omega)), wsum_out ws _ i h (full_bit _ _ h), wsum_full, vetoB, getD_lt ws i h, Bool.eq_iff_iff]
  simp
theorem andNot_pow (m i : Nat) (hm : m < 2 ^ 62) (hi : i ≤ 61) (h : bitB m i = true) : Go.bits .andNot .i64 (m : Int) ((2 ^ i : Nat) : Int) = ((m - 2 ^ i : Nat) : Int) := by
  have hp : 2 ^ i ≤ 2 ^ 61 := Nat.pow_le_pow_right (by omega) hi
  have hb : m / 2 ^ i % 2 = 1 := by simpa [bitB] using h
  have hmi : m - 2 ^ i < 2 ^ 62 := Nat.lt_of_le_of_lt (Nat.sub_le _ _) hm
  have key : m &&& (2 ^ 64 - 1 - 2 ^ i) = m - 2 ^ i := by
    have hge : 2 ^ i ≤ m := by
      rcases Nat.lt_or_ge m (2 ^ i) with h1 | h1
      · rw [Nat.div_eq_of_lt h1] at hb; omega
      · exact h1
    have h0 : (m - 2 ^ i) / 2 ^ i % 2 = 0 := by
      have e : m = (m - 2 ^ i) + 2 ^ i := by omega
      have e2 : m / 2 ^ i = (m - 2 ^ i) / 2 ^ i + 1 := by
        conv => lhs; rw [e]
        exact Nat.add_div_right _ (Nat.two_pow_pos i)
      omega
    have hor := or_pow i (m - 2 ^ i) h0
    rw [Nat.sub_add_cancel hge] at hor
    apply Nat.eq_of_testBit_eq
    intro j
    rw [Nat.testBit_and, show 2 ^ 64 - 1 - 2 ^ i = 2 ^ 64 - (2 ^ i + 1) by omega, Nat.testBit_two_pow_sub_succ (by omega : 2 ^ i < 2 ^ 64)]
    have hmj : m.testBit j = ((m - 2 ^ i).testBit j || (2 ^ i).testBit j) := by rw [← Nat.testBit_or, hor]
    by_cases e : j = i
    · subst e
      have : (m - 2 ^ j).testBit j = false := by
        rw [Nat.testBit_eq_decide_div_mod_eq, h0]
        rfl
      rw [this, Nat.testBit_two_pow_self]
      simp
    · have h2 : (2 ^ i).testBit j = false := Nat.testBit_two_pow_of_ne (fun h => e h.symm)
      rw [hmj, h2]
      by_cases hj : j < 64
      · simp [hj]
      · have : (m - 2 ^ i).testBit j = false := Nat.testBit_lt_two_pow (Nat.lt_of_lt_of_le hmi (Nat.pow_le_pow_right (by omega) (by omega)))
        rw [this]
        simp
  have hbv : ((BitVec.ofInt 64 (m : Int)) &&& ~~~(BitVec.ofInt 64 ((2 ^ i : Nat) : Int))).toNat = m - 2 ^ i := by
    rw [BitVec.toNat_and, BitVec.toNat_not, BitVec.ofInt_natCast, BitVec.ofInt_natCast, BitVec.toNat_ofNat, BitVec.toNat_ofNat, Nat.mod_eq_of_lt (by omega : m < 2 ^ 64), Nat.mod_eq_of_lt (by omega : 2 ^ i < 2 ^ 64)]
    exact key
  show IntKind.i64.wrap (((BitVec.ofInt 64 (m : Int)) &&& ~~~(BitVec.ofInt 64 ((2 ^ i : Nat) : Int))).toNat : Int) = _
  rw [hbv]
  exact (fun (x : Nat) (hx : x < 2 ^ 62) => i64_wrap (x := (x : Int)) (by omega) (by omega)) (m - 2 ^ i) hmi
theorem impl_setOf.ev_l (m : Nat) (hm : m < 2 ^ 62) : ∀ (d i : Nat), i + d = 62 → Ev (fun k => impl_setOf.l0 k (m : Int) (setTo m i) (i : Int)) (setN m) := by
  intro d
  induction d with
  | zero =>
    intro i h
    refine ev_step ?_
    simp only [impl_setOf.l0]
    have e : m / 2 ^ i = 0 := by rw [show i = 62 by omega]; exact Nat.div_eq_of_lt hm
    rw [ev_pos (by omega), shr_nat m i (by omega), e, ev_neg (by omega), ev_now, setTo_done e (by omega)]
  | succ d ih =>
    intro i h
    refine ev_step ?_
    simp only [impl_setOf.l0]
    have hlt : m / 2 ^ i < 2 ^ 62 := Nat.lt_of_le_of_lt (Nat.div_le_self _ _) hm
    have hl := setTo_len m i
    rw [ev_pos (by omega), shr_nat m i (by omega), w64 (by omega) (by omega)]
    by_cases e : m / 2 ^ i = 0
    · rw [ev_neg (by omega), ev_now, setTo_done e (by omega)]
    · rw [ev_pos (Int.natCast_pos.2 (Nat.pos_of_ne_zero e)), and_one _ hlt]
      have := ih (i + 1) (by omega)
      rw [setTo_succ] at this
      by_cases hb : m / 2 ^ i % 2 = 1
      · rw [if_pos (by simp [bitB, hb])] at this
        rw [ev_pos (by rw [hb]; rfl), ev_pos (by omega)]
        exact this
      · rw [if_neg (by simp [bitB]; omega)] at this
        rw [ev_neg (c := ((m / 2 ^ i % 2 : Nat) : Int) = 1) (fun h_ => hb (Int.ofNat_inj.1 h_))]
        exact this
theorem impl_setOf.ev (m : Nat) (hm : m < 2 ^ 62) : Ev (fun k => impl_setOf.f k (m : Int)) (setN m) := impl_setOf.ev_l m hm 62 0 (by omega)
theorem impl_votes_isLeast.ev_l (W : List Bool) (n m : Nat) (hW : W.length = 2 ^ n) (hn : n ≤ 18) (hm : m < 2 ^ n) : ∀ (d i : Nat), i + d = n → Ev (fun k => impl_votes_isLeast.l0 k (m : Int) (n : Int) (i : Int) (n : Int) W) ((List.range' i d).all fun i => !(bitB m i) || !(W.getD (m - 2 ^ i) false)) := by
  have hp : 2 ^ n ≤ 2 ^ 18 := Nat.pow_le_pow_right (by omega) hn
  intro d
  induction d with
  | zero =>
    intro i h
    refine ev_step ?_
    simp only [impl_votes_isLeast.l0]
    rw [ev_neg (by omega), ev_now]
    rfl
  | succ d ih =>
    intro i h
    refine ev_step ?_
    simp only [impl_votes_isLeast.l0]
    have hih := ih (i + 1) (by omega)
    rw [ev_pos (by omega), ev_bind (ev_of (show impl_has.f (m : Int) (i : Int) = some (bitB m i) from impl_has.v m i (by omega) (by omega))), w64 (by omega) (by omega), List.range'_succ, List.all_cons]
    by_cases hb : bitB m i = true
    · have hpi : 2 ^ i ≤ 2 ^ n := Nat.pow_le_pow_right (by omega) (by omega)
      have hsub : m - 2 ^ i < W.length := by rw [hW]; exact Nat.lt_of_le_of_lt (Nat.sub_le _ _) hm
      rw [ev_pos hb, ev_pos (by omega), shl_one i (by omega), andNot_pow m i (by omega) (by omega) hb, ev_pos (Int.natCast_nonneg _), ev_pos (Int.ofNat_lt.2 hsub), rdOf_nat, hb]
      cases hw : W.getD (m - 2 ^ i) false with
      | true =>
        rw [ev_pos rfl, ev_now]
        rfl
      | false =>
        rw [ev_neg (by decide)]
        exact hih
    · rw [ev_neg hb, Bool.eq_false_iff.2 hb]
      exact hih
theorem impl_votes_isLeast.ev (W : List Bool) (n m : Nat) (hW : W.length = 2 ^ n) (hn : n ≤ 18) (hm : m < 2 ^ n) : Ev (fun k => impl_votes_isLeast.f k (n : Int) W (m : Int)) (leastB W n m) := by
  simp only [impl_votes_isLeast.f]
  rw [ev_pos (by omega), ev_pos (by omega), rdOf_nat, leastB]
  cases hw : W.getD m false with
  | true =>
    rw [ev_pos rfl, Bool.true_and, List.range_eq_range']
    exact impl_votes_isLeast.ev_l W n m hW hn hm n 0 (by omega)
  | false =>
    rw [ev_neg (by decide), ev_now]
    rfl
theorem impl_votes_sets.at_l (W : List Bool) (hW : W.length ≤ 1000000) (P : Int → Option Bool) (p : Nat → Bool) (K : Nat) (hP : ∀ m, m < W.length → P (m : Int) = some (p m)) (hS : ∀ k, K ≤ k → ∀ m, m < W.length → impl_setOf.f k (m : Int) = some (setN m)) : ∀ (d i k : Nat), i + d = W.length → K + d < k → impl_votes_sets.l0 k P W (takeL p i) (i : Int) = some (takeL p W.length) := by
  intro d
  induction d with
  | zero =>
    intro i k h hk
    obtain ⟨k, rfl⟩ : ∃ j, k = j + 1 := ⟨k - 1, by omega⟩
    simp only [impl_votes_sets.l0]
    rw [if_neg (by omega), show i = W.length by omega]
  | succ d ih =>
    intro i k h hk
    obtain ⟨k, rfl⟩ : ∃ j, k = j + 1 := ⟨k - 1, by omega⟩
    have hi : i < W.length := by omega
    have hl := takeL_len p i
    have hih := ih (i + 1) k (by omega) (by omega)
    rw [takeL_succ] at hih
    simp only [impl_votes_sets.l0]
    rw [if_pos (by omega), hP i hi, Option.bind_some, w64 (by omega) (by omega), hS k (by omega) i hi, Option.bind_some]
    cases hp : p i with
    | true =>
      rw [hp, if_pos rfl] at hih
      rw [if_pos rfl, if_pos (by omega)]
      exact hih
    | false =>
      rw [hp, if_neg (by decide)] at hih
      rw [if_neg (by decide)]
      exact hih
theorem impl_votes_sets.ev (W : List Bool) (hW : W.length ≤ 1000000) (P : Nat → Int → Option Bool) (p : Nat → Bool) (hP : ∀ m, m < W.length → Ev (fun k => P k (m : Int)) (p m)) : Ev (fun k => impl_votes_sets.g k W (P k)) (Go.Proofs.YtaambkdiokbdgabGreatS.sortL (takeL p W.length)) := by
  obtain ⟨K1, h1⟩ := ev_all W.length (fun k m => P k (m : Int)) p hP
  obtain ⟨K2, h2⟩ := ev_all W.length (fun k m => impl_setOf.f k (m : Int)) setN (fun m hm => impl_setOf.ev m (by omega))
  refine ⟨max K1 (K2 + W.length + 1), fun k hk => ?_⟩
  have hl := takeL_len p W.length
  simp only [impl_votes_sets.g]
  rw [show impl_votes_sets.l0 k (P k) W [] 0 = some (takeL p W.length) from impl_votes_sets.at_l W hW (P k) p K2 (fun m hm => h1 k (by omega) m hm) h2 W.length 0 k (by omega) (by omega), Option.bind_some, if_pos (by omega)]
theorem impl_votes_least.ev (W : List Bool) (n : Nat) (hW : W.length = 2 ^ n) (hn : n ≤ 18) : Ev (fun k => impl_votes_least.f k (n : Int) W) (Go.Proofs.YtaambkdiokbdgabGreatS.sortL (takeL (leastB W n) W.length)) := by
  have hp : 2 ^ n ≤ 2 ^ 18 := Nat.pow_le_pow_right (by omega) hn
  exact impl_votes_sets.ev W (by omega) (fun k x => impl_votes_isLeast.f k (n : Int) W x) (leastB W n) (fun m hm => impl_votes_isLeast.ev W n m hW hn (by omega))
def takeI (P : Nat → Bool) (i : Nat) : List Int := ((List.range i).filter P).map fun (i : Nat) => (i : Int)
theorem takeI_succ (P : Nat → Bool) (i : Nat) : takeI P (i + 1) = if P i = true then takeI P i ++ [(i : Int)] else takeI P i := by
  unfold takeI
  rw [List.range_succ, List.filter_append, List.map_append]
  by_cases h : P i = true
  · rw [if_pos h]
    simp [h]
  · rw [if_neg h]
    simp [h]
theorem takeI_len (P : Nat → Bool) (i : Nat) : (takeI P i).length ≤ i := by
  unfold takeI
  rw [List.length_map]
  have := List.length_filter_le P (List.range i)
  rw [List.length_range] at this
  exact this
theorem impl_members.ev_l (n : Nat) (hn : n ≤ 1000000) (p : Int → Bool) : ∀ (d i : Nat), i + d = n → Ev (fun k => impl_members.l0 k (fun x => some (p x)) (n : Int) (takeI (fun i => p (i : Int)) i) (i : Int)) (takeI (fun i => p (i : Int)) n) := by
  intro d
  induction d with
  | zero =>
    intro i h
    refine ev_step ?_
    simp only [impl_members.l0]
    rw [ev_neg (by omega), ev_now, show i = n by omega]
  | succ d ih =>
    intro i h
    refine ev_step ?_
    simp only [impl_members.l0, Option.bind_some]
    have hl := takeI_len (fun i => p (i : Int)) i
    have hih := ih (i + 1) (by omega)
    rw [takeI_succ] at hih
    rw [ev_pos (by omega), w64 (by omega) (by omega)]
    by_cases hp : p (i : Int) = true
    · rw [if_pos hp] at hih
      rw [ev_pos hp, ev_pos (by omega)]
      exact hih
    · rw [if_neg hp] at hih
      rw [ev_neg hp]
      exact hih
theorem impl_members.ev (n : Nat) (hn : n ≤ 1000000) (p : Int → Bool) : Ev (fun k => impl_members.g k (n : Int) (fun x => some (p x))) (takeI (fun i => p (i : Int)) n) := impl_members.ev_l n hn p n 0 (by omega)
def idleP (L : List (List Int)) (i : Nat) : Bool := !(L.any fun s => s.contains (i : Int))
theorem impl_votes_idle.ev (W : List Bool) (n : Nat) (hW : W.length = 2 ^ n) (hn : n ≤ 18) : Ev (fun k => impl_votes_idle.f k (n : Int) W) (takeI (idleP (Go.Proofs.YtaambkdiokbdgabGreatS.sortL (takeL (leastB W n) W.length))) n) := by
  simp only [impl_votes_idle.f]
  rw [ev_pos (by omega), ev_bind (impl_votes_least.ev W n hW hn)]
  exact impl_members.ev n (by omega) _
theorem leastB_bits {W : List Bool} {n m : Nat} (h : leastB W n m = true) : W.getD m false = true ∧ ∀ i, i < n → m.testBit i = true → W.getD (m - 2 ^ i) false = false := by
  simp only [leastB, Bool.and_eq_true, List.all_eq_true, List.mem_range] at h
  refine ⟨h.1, fun i hi hb => ?_⟩
  have := h.2 i hi
  rw [bitB_test, hb] at this
  simpa using this
theorem pow_le_of_bit {m i : Nat} (h : m.testBit i = true) : 2 ^ i ≤ m := by
  rcases Nat.lt_or_ge m (2 ^ i) with h2 | h2
  · rw [Nat.testBit_lt_two_pow h2] at h; cases h
  · exact h2
theorem takeI_mem {P : Nat → Bool} {n : Nat} {x : Int} : x ∈ takeI P n ↔ ∃ i : Nat, i < n ∧ P i = true ∧ x = (i : Int) := by
  simp only [takeI, List.mem_map, List.mem_filter, List.mem_range]
  constructor
  · rintro ⟨i, ⟨h1, h2⟩, rfl⟩; exact ⟨i, h1, h2, rfl⟩
  · rintro ⟨i, h1, h2, rfl⟩; exact ⟨i, ⟨h1, h2⟩, rfl⟩
theorem takeI_has (P : Nat → Bool) (n i : Nat) (hi : i < n) : (takeI P n).contains (i : Int) = P i := by
  rw [Bool.eq_iff_iff, List.contains_iff_mem, takeI_mem]
  constructor
  · rintro ⟨j, _, h2, h3⟩
    have : i = j := by omega
    rw [this]; exact h2
  · intro h; exact ⟨i, hi, h, rfl⟩
def dumB (q : Int) (ws : List Int) (i : Nat) : Bool := idleP (Go.Proofs.YtaambkdiokbdgabGreatS.sortL (takeL (leastB (winsL q ws) ws.length) (winsL q ws).length)) i
theorem dumB_iff {q : Int} {ws : List Int} (hc : GoodC q ws) (i : Nat) (hi : i < ws.length) : dumB q ws i = true ↔ ∀ m, m < 2 ^ ws.length → leastB (winsL q ws) ws.length m = true → m.testBit i = false := by
  have h9 := hc.l9
  unfold dumB idleP
  rw [Bool.not_eq_true', List.any_eq_false]
  constructor
  · intro h m hm hl
    have := h (setN m) ((Go.Proofs.YtaambkdiokbdgabGreatS.sortL_perm _).mem_iff.2 (List.mem_map.2 ⟨m, List.mem_filter.2 ⟨List.mem_range.2 (by rw [winsL_length]; exact hm), hl⟩, rfl⟩))
    rw [setN_contains m i (by omega)] at this
    simpa using this
  · intro h x hx
    obtain ⟨m, h1, h2, rfl⟩ := takeL_mem x ((Go.Proofs.YtaambkdiokbdgabGreatS.sortL_perm _).mem_iff.1 hx)
    rw [winsL_length] at h1
    rw [setN_contains m i (by omega), h m h1 h2]
    decide
theorem wins_none {q : Int} {ws : List Int} (hc : GoodC q ws) : (winsL q ws).getD 0 false = false := by
  rw [winsL_getD q ws 0 (Nat.two_pow_pos _), wsum_zero, decide_eq_false_iff_not]
  have := hc.q1
  omega
theorem wins_full {q : Int} {ws : List Int} (hc : GoodC q ws) : (winsL q ws).getD (2 ^ ws.length - 1) false = true := by
  have := hc.pow
  rw [winsL_getD q ws _ (by omega), wsum_full, decide_eq_true_eq]
  exact hc.qs
def dumV (q : Int) (ws : List Int) : List Int × Bool := if goodB q ws = true then (takeI (idleP (Go.Proofs.YtaambkdiokbdgabGreatS.sortL (takeL (leastB (winsL q ws) ws.length) (winsL q ws).length))) ws.length, true) else ([], false)
theorem impl_DummiesOf.ev (q : Int) (ws : List Int) (hl : ws.length ≤ 9223372036854775807) : Ev (fun k => impl_DummiesOf.f k q ws) (dumV q ws) := by
  simp only [impl_DummiesOf.f]
  rw [ev_bind (impl_IsCommittee.ev q ws hl)]
  unfold dumV
  cases hg : goodB q ws with
  | false => rw [ev_neg (by decide), ev_now, if_neg (by decide)]
  | true =>
    have hc := (good_iff q ws).1 hg
    have h9 := hc.l9
    have hwl := winsL_length q ws
    have hi := impl_votes_idle.ev (winsL q ws) ws.length hwl (by omega)
    rw [ev_pos rfl, if_pos rfl, ev_bind (impl_Committee_votes.ev q ws h9 hc.wb), ev_bind hi, ev_now]
def evenV (m n : Int) : Int × List Int × Bool := if 1 ≤ m ∧ m ≤ 9 ∧ 1 ≤ n ∧ n ≤ m then (n, List.replicate m.toNat 1, true) else (0, [], false)
theorem spec_EvenCommittee.ev_l (q : Int) (n : Nat) (hn : n ≤ 9) : ∀ (d : Nat) (acc : List Int), acc.length + d ≤ 9 → acc = List.replicate acc.length 1 → acc.length + d = n → Ev (fun k => spec_EvenCommittee.l0 k (d : Int) q acc) (q, List.replicate n 1, true) := by
  intro d
  induction d with
  | zero =>
    intro acc h9 ha h
    refine ev_step ?_
    simp only [spec_EvenCommittee.l0]
    rw [ev_neg (by omega), ev_now, ha, show acc.length = n by omega]
  | succ d ih =>
    intro acc h9 ha h
    refine ev_step ?_
    simp only [spec_EvenCommittee.l0]
    rw [ev_pos (by omega), ev_pos (by omega), w64 (x := ((d + 1 : Nat) : Int) - 1) (by omega) (by omega), show ((d + 1 : Nat) : Int) - 1 = (d : Int) by omega]
    refine ih (acc ++ [1]) (by simp; omega) ?_ (by simp; omega)
    rw [List.length_append, List.length_singleton, List.replicate_succ', ← ha]
theorem spec_EvenCommittee.ev (m n : Int) : Ev (fun k => spec_EvenCommittee.f k m n) (evenV m n) := by
  simp only [spec_EvenCommittee.f]
  unfold evenV
  rw [ev_bind (ev_of (spec_l1In.v _ _ _))]
  by_cases h1 : 1 ≤ m ∧ m ≤ 9
  · rw [ev_pos (by simpa using h1), ev_bind (ev_of (spec_l1In.v _ _ _))]
    refine ev_step ?_
    simp only [spec_EvenCommittee.j0]
    by_cases h2 : 1 ≤ n ∧ n ≤ m
    · rw [ev_neg (by simp [h2]), if_pos ⟨h1.1, h1.2, h2.1, h2.2⟩]
      obtain ⟨M, rfl⟩ := Int.eq_ofNat_of_zero_le (show 0 ≤ m by omega)
      exact spec_EvenCommittee.ev_l n M (by omega) M [] (by simp; omega) rfl (by simp)
    · rw [ev_pos (by simp; omega), ev_now, if_neg (fun h => h2 ⟨h.2.2.1, h.2.2.2⟩)]
  · rw [ev_neg (by simpa using h1)]
    refine ev_step ?_
    simp only [spec_EvenCommittee.j0]
    rw [ev_pos (by simp), ev_now, if_neg (fun h => h1 ⟨h.1, h.2.1⟩)]
theorem impl_EvenCommittee.v (m n : Int) : impl_EvenCommittee.f m n = some (evenV m n) := by
  unfold impl_EvenCommittee.f evenV
  rw [impl_within.v, Option.bind_some]
  by_cases h1 : 1 ≤ m ∧ m ≤ 9
  · rw [if_pos (by simpa using h1), impl_within.v, Option.bind_some]
    by_cases h2 : 1 ≤ n ∧ n ≤ m
    · rw [if_pos (by simpa using h2), if_pos ⟨h1.1, h1.2, h2.1, h2.2⟩]
      unfold slices_Repeat_int_int.f
      rw [if_pos ⟨rfl, h1.1, h1.2⟩]
      rfl
    · rw [if_neg (by simpa using h2), if_neg (fun h => h2 ⟨h.2.2.1, h.2.2.2⟩)]
  · rw [if_neg (by simpa using h1), if_neg (fun h => h1 ⟨h.1, h.2.1⟩)]
theorem evenV_len (m n : Int) : (evenV m n).2.1.length ≤ 9 := by
  unfold evenV
  split
  · simp; omega
  · simp
theorem spec_bit (m i : Nat) (hm : m < 2 ^ 62) (hi : i ≤ 62) : Int.tmod (shr .i64 (m : Int) (i : Int)) 2 = ((m / 2 ^ i % 2 : Nat) : Int) := by
  rw [shr_nat m i (by omega)]
  generalize m / 2 ^ i = x
  rw [Int.tmod_eq_emod_of_nonneg (by omega)]
  omega
theorem spec_voWeight.ev_l (q : Int) (ws : List Int) (m : Nat) (hm : m < 2 ^ 62) (hl : ws.length ≤ 60) (hw : ∀ x ∈ ws, 0 ≤ x ∧ x ≤ 1000000000) : ∀ (d i : Nat) (s : Int), i + d = ws.length → 0 ≤ s → s + wsum (ws.drop i) (m / 2 ^ i) ≤ 1000000000000 → Ev (fun k => spec_voWeight.l0 k (m : Int) s ws (ws.length : Int) (i : Int)) (s + wsum (ws.drop i) (m / 2 ^ i)) := by
  intro d
  induction d with
  | zero =>
    intro i s h _ _
    refine ev_step ?_
    simp only [spec_voWeight.l0]
    rw [ev_neg (by omega), ev_now, List.drop_of_length_le (by omega)]
    simp [wsum]
  | succ d ih =>
    intro i s h h0 h1
    refine ev_step ?_
    simp only [spec_voWeight.l0]
    have hi : i < ws.length := by omega
    have hx := hw ws[i] (List.getElem_mem hi)
    have hd : wsum (ws.drop i) (m / 2 ^ i) = (if m / 2 ^ i % 2 = 1 then ws[i] else 0) + wsum (ws.drop (i + 1)) (m / 2 ^ (i + 1)) := by
      rw [wsum_drop ws i _ hi, Nat.div_div_eq_div_mul, ← Nat.pow_succ]
    have hb := wsum_bounds (ws.drop (i + 1)) (fun x hx => (hw x (List.mem_of_mem_drop hx)).1) (m / 2 ^ (i + 1))
    rw [ev_pos (by omega), ev_pos (by omega), ev_pos (by omega), spec_bit m i hm (by omega), w64i (n := ws.length) (by omega) (by omega) (by omega), rd_lt ws i hi, hd]
    rw [hd] at h1
    by_cases hbit : m / 2 ^ i % 2 = 1
    · rw [if_pos hbit] at h1 ⊢
      rw [ev_pos (by rw [hbit]; rfl), w64 (by omega) (by omega), ← Int.add_assoc]
      exact ih (i + 1) (s + ws[i]) (by omega) (by omega) (by omega)
    · rw [if_neg hbit] at h1 ⊢
      rw [ev_neg (by omega), Int.zero_add]
      exact ih (i + 1) s (by omega) h0 (by omega)
theorem spec_voWeight.ev (q : Int) (ws : List Int) (m : Nat) (hm : m < 2 ^ 62) (hl : ws.length ≤ 60) (hw : ∀ x ∈ ws, 0 ≤ x ∧ x ≤ 1000000000) : Ev (fun k => spec_voWeight.f k q ws (m : Int)) (wsum ws m) := by
  have hb := wsum_bounds ws (fun x hx => (hw x hx).1) m
  have hs := sum_bounds ws 1000000000 hw
  have := spec_voWeight.ev_l q ws m hm hl hw ws.length 0 0 (by omega) (by omega) (by simp; omega)
  simpa [spec_voWeight.f] using this
theorem spec_voAll.v (n : Nat) (hn : n ≤ 60) : spec_voAll.f (n : Int) = some ((2 ^ n - 1 : Nat) : Int) := by
  unfold spec_voAll.f
  have h0 : 0 < 2 ^ n := Nat.two_pow_pos n
  have h : 2 ^ n ≤ 2 ^ 60 := Nat.pow_le_pow_right (by omega) hn
  rw [if_pos (by omega), shl_one n (by omega), w64 (by omega) (by omega)]
  congr 1
  omega
theorem winsL_take (q : Int) (ws : List Int) (m : Nat) (h : m < 2 ^ ws.length) : (winsL q ws).take (m + 1) = (winsL q ws).take m ++ [decide (q ≤ wsum ws m)] := by
  rw [List.take_succ_eq_append_getElem (by rw [winsL_length]; exact h), winsL_get]
theorem spec_voWins.ev_l (q : Int) (ws : List Int) (hl : ws.length ≤ 9) (hw : ∀ x ∈ ws, 0 ≤ x ∧ x ≤ 1000000000) : ∀ (d m : Nat), m + d = 2 ^ ws.length → Ev (fun k => spec_voWins.l0 k ((winsL q ws).take m) (m : Int) q ws) (winsL q ws) := by
  have hp : 2 ^ ws.length ≤ 2 ^ 9 := Nat.pow_le_pow_right (by omega) hl
  have h0 : 0 < 2 ^ ws.length := Nat.two_pow_pos _
  intro d
  induction d with
  | zero =>
    intro m h
    refine ev_step ?_
    simp only [spec_voWins.l0]
    rw [ev_bind (ev_of (spec_voAll.v ws.length (by omega))), ev_neg (by omega), ev_now, List.take_of_length_le (by rw [winsL_length]; omega)]
  | succ d ih =>
    intro m h
    refine ev_step ?_
    simp only [spec_voWins.l0]
    rw [ev_bind (ev_of (spec_voAll.v ws.length (by omega))), ev_pos (by omega), ev_bind (spec_voWeight.ev q ws m (by omega) (by omega) hw), ev_pos (by simp; omega), w64i (n := 512) (by omega) (by omega) (by omega)]
    have := ih (m + 1) (by omega)
    rw [winsL_take q ws m (by omega)] at this
    exact this
theorem spec_voWins.ev (q : Int) (ws : List Int) (hl : ws.length ≤ 9) (hw : ∀ x ∈ ws, 0 ≤ x ∧ x ≤ 1000000000) : Ev (fun k => spec_voWins.f k q ws) (winsL q ws) := by
  have := spec_voWins.ev_l q ws hl hw (2 ^ ws.length) 0 (by omega)
  simpa [spec_voWins.f] using this
def spWin (W : List Bool) (ws : List Int) : Nat → Int
  | 0 => -1
  | m + 1 => if W.getD m false = true then (if spWin W ws m < 0 ∨ wsum ws m < spWin W ws m then wsum ws m else spWin W ws m) else spWin W ws m
def spLose (W : List Bool) (ws : List Int) : Nat → Int
  | 0 => -1
  | m + 1 => if W.getD m false = true then spLose W ws m else max (spLose W ws m) (wsum ws m)
theorem impl_votes_spare.ev_l (W : List Bool) (ws : List Int) (hW : W.length ≤ 1000000) (hl : ws.length ≤ 60) (hw : ∀ x ∈ ws, 0 ≤ x ∧ x ≤ 1000000000) : ∀ (d m : Nat), m + d = W.length → Ev (fun k => impl_votes_spare.l0 k (spWin W ws m) (spLose W ws m) W (W.length : Int) (m : Int) 0 ws) (spWin W ws W.length, spLose W ws W.length) := by
  intro d
  induction d with
  | zero =>
    intro m h
    refine ev_step ?_
    simp only [impl_votes_spare.l0]
    rw [ev_neg (by omega), ev_now, show m = W.length by omega]
  | succ d ih =>
    intro m h
    refine ev_step ?_
    simp only [impl_votes_spare.l0]
    have hm : m < W.length := by omega
    have hn := ih (m + 1) (by omega)
    have hr : rdOf false W (m : Int) = W.getD m false := rdOf_nat false W m
    rw [ev_pos (by omega), ev_pos (by omega), ev_pos (by omega), ev_bind (impl_Committee_weight.ev 0 ws m (by omega) hl hw), hr]
    have hwr : wrap64 ((m : Int) + 1) = ((m + 1 : Nat) : Int) := by rw [w64i (n := W.length) (by omega) (by omega) (by omega)]; omega
    simp only [spWin, spLose] at hn
    cases hb : W.getD m false with
    | false =>
      rw [hb] at hn
      simp only [Bool.false_eq_true, if_false] at hn
      rw [ev_neg (by simp)]
      refine ev_step ?_
      simp only [impl_votes_spare.j1, Bool.false_eq_true, if_false, hwr, mx_eq]
      exact hn
    | true =>
      rw [hb] at hn
      simp only [if_true] at hn
      rw [ev_pos rfl]
      by_cases h0 : spWin W ws m < 0
      · rw [ev_pos h0]
        rw [if_pos (.inl h0)] at hn
        refine ev_step ?_
        simp only [impl_votes_spare.j1, if_true, hwr]
        exact hn
      · rw [ev_neg h0]
        refine ev_step ?_
        simp only [impl_votes_spare.j1, if_true, hwr, decide_eq_true_eq]
        by_cases h1 : wsum ws m < spWin W ws m
        · rw [if_pos (.inr h1)] at hn
          rw [ev_pos h1]
          exact hn
        · rw [if_neg (by omega)] at hn
          rw [ev_neg h1]
          exact hn
theorem impl_votes_spare.ev (n : Int) (W : List Bool) (ws : List Int) (hW : W.length ≤ 1000000) (hl : ws.length ≤ 60) (hw : ∀ x ∈ ws, 0 ≤ x ∧ x ≤ 1000000000) : Ev (fun k => impl_votes_spare.f k n W ws) (spWin W ws W.length, spLose W ws W.length) := by
  have := impl_votes_spare.ev_l W ws hW hl hw W.length 0 (by omega)
  simpa [impl_votes_spare.f, spWin, spLose] using this
theorem spWin_spec (W : List Bool) (ws : List Int) (hw : ∀ x ∈ ws, 0 ≤ x) : ∀ m, (spWin W ws m = -1 ∧ ∀ j, j < m → W.getD j false = false) ∨ (0 ≤ spWin W ws m ∧ (∃ j, j < m ∧ W.getD j false = true ∧ wsum ws j = spWin W ws m) ∧ ∀ j, j < m → W.getD j false = true → spWin W ws m ≤ wsum ws j) := by
  intro m
  induction m with
  | zero => exact .inl ⟨rfl, fun j hj => absurd hj (Nat.not_lt_zero j)⟩
  | succ m ih =>
    have hb := wsum_bounds ws hw m
    simp only [spWin]
    cases hW : W.getD m false with
    | false =>
      rw [if_neg (by simp)]
      rcases ih with ⟨h1, h2⟩ | ⟨h1, ⟨j, hj, hj2, hj3⟩, h3⟩
      · exact .inl ⟨h1, fun j hj => by
        by_cases e : j = m
        · subst e; exact hW
        · exact h2 j (by omega)⟩
      · refine .inr ⟨h1, ⟨j, by omega, hj2, hj3⟩, fun i hi hwi => ?_⟩
        by_cases e : i = m
        · subst e; rw [hW] at hwi; exact absurd hwi (by simp)
        · exact h3 i (by omega) hwi
    | true =>
      rw [if_pos rfl]
      right
      rcases ih with ⟨h1, h2⟩ | ⟨h1, ⟨j, hj, hj2, hj3⟩, h3⟩
      · rw [if_pos (.inl (by omega))]
        refine ⟨hb.1, ⟨m, by omega, hW, rfl⟩, fun i hi hwi => ?_⟩
        by_cases e : i = m
        · subst e; omega
        · rw [h2 i (by omega)] at hwi; exact absurd hwi (by simp)
      · by_cases hc : wsum ws m < spWin W ws m
        · rw [if_pos (.inr hc)]
          refine ⟨hb.1, ⟨m, by omega, hW, rfl⟩, fun i hi hwi => ?_⟩
          by_cases e : i = m
          · subst e; omega
          · have := h3 i (by omega) hwi; omega
        · rw [if_neg (by omega)]
          refine ⟨h1, ⟨j, by omega, hj2, hj3⟩, fun i hi hwi => ?_⟩
          by_cases e : i = m
          · subst e; omega
          · exact h3 i (by omega) hwi
theorem spLose_spec (W : List Bool) (ws : List Int) (hw : ∀ x ∈ ws, 0 ≤ x) : ∀ m, (spLose W ws m = -1 ∧ ∀ j, j < m → W.getD j false = true) ∨ (0 ≤ spLose W ws m ∧ (∃ j, j < m ∧ W.getD j false = false ∧ wsum ws j = spLose W ws m) ∧ ∀ j, j < m → W.getD j false = false → wsum ws j ≤ spLose W ws m) := by
  intro m
  induction m with
  | zero => exact .inl ⟨rfl, fun j hj => absurd hj (Nat.not_lt_zero j)⟩
  | succ m ih =>
    have hb := wsum_bounds ws hw m
    simp only [spLose]
    cases hW : W.getD m false with
    | true =>
      rw [if_pos rfl]
      rcases ih with ⟨h1, h2⟩ | ⟨h1, ⟨j, hj, hj2, hj3⟩, h3⟩
      · exact .inl ⟨h1, fun j hj => by
        by_cases e : j = m
        · subst e; exact hW
        · exact h2 j (by omega)⟩
      · refine .inr ⟨h1, ⟨j, by omega, hj2, hj3⟩, fun i hi hwi => ?_⟩
        by_cases e : i = m
        · subst e; rw [hW] at hwi; exact absurd hwi (by simp)
        · exact h3 i (by omega) hwi
    | false =>
      rw [if_neg (by simp)]
      right
      rcases ih with ⟨h1, h2⟩ | ⟨h1, ⟨j, hj, hj2, hj3⟩, h3⟩
      · rw [Int.max_eq_right (by omega)]
        refine ⟨hb.1, ⟨m, by omega, hW, rfl⟩, fun i hi hwi => ?_⟩
        by_cases e : i = m
        · subst e; omega
        · rw [h2 i (by omega)] at hwi; exact absurd hwi (by simp)
      · by_cases hc : spLose W ws m ≤ wsum ws m
        · rw [Int.max_eq_right hc]
          refine ⟨hb.1, ⟨m, by omega, hW, rfl⟩, fun i hi hwi => ?_⟩
          by_cases e : i = m
          · subst e; omega
          · have := h3 i (by omega) hwi; omega
        · rw [Int.max_eq_left (by omega)]
          refine ⟨h1, ⟨j, by omega, hj2, hj3⟩, fun i hi hwi => ?_⟩
          by_cases e : i = m
          · subst e; omega
          · exact h3 i (by omega) hwi
def spareV (q : Int) (ws : List Int) : Int × Int × Bool := if goodB q ws = true then (spWin (winsL q ws) ws (2 ^ ws.length) - q, q - spLose (winsL q ws) ws (2 ^ ws.length), true) else (0, 0, false)
theorem spare_bounds {q : Int} {ws : List Int} (h : GoodC q ws) : (q ≤ spWin (winsL q ws) ws (2 ^ ws.length) ∧ spWin (winsL q ws) ws (2 ^ ws.length) ≤ ws.sum) ∧ (0 ≤ spLose (winsL q ws) ws (2 ^ ws.length) ∧ spLose (winsL q ws) ws (2 ^ ws.length) < q) := by
  have hp := h.pow
  constructor
  · rcases spWin_spec (winsL q ws) ws h.w0 (2 ^ ws.length) with ⟨_, h2⟩ | ⟨h1, ⟨j, hj, hj2, hj3⟩, h3⟩
    · have := h2 (2 ^ ws.length - 1) (by omega)
      rw [winsL_getD q ws _ (by omega), wsum_full] at this
      have := h.qs
      simp at *
      omega
    · rw [winsL_getD q ws j hj] at hj2
      have := wsum_bounds ws h.w0 j
      rw [← hj3]
      exact ⟨by simpa using hj2, this.2⟩
  · rcases spLose_spec (winsL q ws) ws h.w0 (2 ^ ws.length) with ⟨_, h2⟩ | ⟨h1, ⟨j, hj, hj2, hj3⟩, h3⟩
    · have := h2 0 (by omega)
      rw [winsL_getD q ws _ (by omega), wsum_zero] at this
      have := h.q1
      simp at *
      omega
    · rw [winsL_getD q ws j hj] at hj2
      refine ⟨h1, ?_⟩
      rw [← hj3]
      simpa using hj2
theorem impl_SpareOf.ev (q : Int) (ws : List Int) (hl : ws.length ≤ 9223372036854775807) : Ev (fun k => impl_SpareOf.f k q ws) (spareV q ws) := by
  simp only [impl_SpareOf.f]
  rw [ev_bind (impl_IsCommittee.ev q ws hl)]
  unfold spareV
  cases hg : goodB q ws with
  | false => rw [ev_neg (by simp), ev_now, if_neg (by simp)]
  | true =>
    have hG := (good_iff q ws).1 hg
    have hp := hG.pow
    have hs := hG.sum
    have h4 := hG.qs
    have hb := spare_bounds hG
    rw [ev_pos rfl, ev_bind (impl_Committee_votes.ev q ws hG.l9 hG.wb), ev_bind (impl_votes_spare.ev _ (winsL q ws) ws (by rw [winsL_length]; omega) (by have := hG.l9; omega) hG.wb), ev_now, if_pos rfl, winsL_length]
    rw [w64 (by omega) (by omega), w64 (by omega) (by omega)]
def moreV (q : Int) (ws : List Int) : Nat → Int
  | 0 => ws.sum - q
  | m + 1 => if q ≤ wsum ws m then min (moreV q ws m) (wsum ws m - q) else moreV q ws m
def lessV (q : Int) (ws : List Int) : Nat → Int
  | 0 => q
  | m + 1 => if q ≤ wsum ws m then lessV q ws m else min (lessV q ws m) (q - wsum ws m)
theorem more_spare {q : Int} {ws : List Int} (h : GoodC q ws) : ∀ m, m ≤ 2 ^ ws.length → (spWin (winsL q ws) ws m = -1 ∧ moreV q ws m = ws.sum - q) ∨ (q ≤ spWin (winsL q ws) ws m ∧ spWin (winsL q ws) ws m ≤ ws.sum ∧ moreV q ws m = spWin (winsL q ws) ws m - q) := by
  intro m
  induction m with
  | zero => exact fun _ => .inl ⟨rfl, rfl⟩
  | succ m ih =>
    intro hm
    have hb := wsum_bounds ws h.w0 m
    have h1 := h.q1
    have h2 := h.qs
    simp only [spWin, moreV]
    rw [winsL_getD q ws m (by omega)]
    by_cases hq : q ≤ wsum ws m
    · rw [if_pos (by simpa using hq), if_pos hq]
      right
      rcases ih (by omega) with ⟨e1, e2⟩ | ⟨e0, e3, e4⟩
      · rw [if_pos (.inl (by omega)), e2]
        omega
      · rw [e4]
        split <;> omega
    · rw [if_neg (by simpa using hq), if_neg hq]
      exact ih (by omega)
theorem less_spare {q : Int} {ws : List Int} (h : GoodC q ws) : ∀ m, m ≤ 2 ^ ws.length → (spLose (winsL q ws) ws m = -1 ∧ lessV q ws m = q) ∨ (0 ≤ spLose (winsL q ws) ws m ∧ spLose (winsL q ws) ws m < q ∧ lessV q ws m = q - spLose (winsL q ws) ws m) := by
  intro m
  induction m with
  | zero => exact fun _ => .inl ⟨rfl, rfl⟩
  | succ m ih =>
    intro hm
    have hb := wsum_bounds ws h.w0 m
    have h1 := h.q1
    simp only [spLose, lessV]
    rw [winsL_getD q ws m (by omega)]
    by_cases hq : q ≤ wsum ws m
    · rw [if_pos (by simpa using hq), if_pos hq]
      exact ih (by omega)
    · rw [if_neg (by simpa using hq), if_neg hq]
      right
      rcases ih (by omega) with ⟨e1, e2⟩ | ⟨e0, e3, e4⟩
      · rw [e1, e2]; omega
      · rw [e4]; omega
theorem spec_l1Least.v (a b : Int) : spec_l1Least.f a b = some (min a b) := by
  unfold spec_l1Least.f
  split
  · rw [Int.min_eq_left (by omega)]
  · rw [Int.min_eq_right (by omega)]
theorem spec_SpareOf.ev_l (q : Int) (ws : List Int) (h : GoodC q ws) : ∀ (d m : Nat), m + d = 2 ^ ws.length → Ev (fun k => spec_SpareOf.l0 k (moreV q ws m) (lessV q ws m) (winsL q ws) ((winsL q ws).length : Int) (m : Int) q ws) (moreV q ws (2 ^ ws.length), lessV q ws (2 ^ ws.length), true) := by
  have hp := h.pow
  have hs := h.sum
  have h1 := h.q1
  have h2 := h.qs
  intro d
  induction d with
  | zero =>
    intro m hm
    refine ev_step ?_
    simp only [spec_SpareOf.l0]
    rw [winsL_length, ev_neg (by omega), ev_now, show m = 2 ^ ws.length by omega]
  | succ d ih =>
    intro m hm
    refine ev_step ?_
    simp only [spec_SpareOf.l0]
    have hlt : m < 2 ^ ws.length := by omega
    have hb := wsum_bounds ws h.w0 m
    have hn := ih (m + 1) (by omega)
    have hr : rdOf false (winsL q ws) (m : Int) = decide (q ≤ wsum ws m) := by rw [rdOf_nat, winsL_getD q ws m hlt]
    rw [winsL_length] at hn ⊢
    have hwr : wrap64 ((m : Int) + 1) = ((m + 1 : Nat) : Int) := by rw [w64i (n := 512) (by omega) (by omega) (by omega)]; omega
    rw [ev_pos (by omega), ev_pos (by omega), ev_pos (by omega), ev_bind (spec_voWeight.ev q ws m (by omega) (by have := h.l9; omega) h.wb), hr]
    simp only [moreV, lessV] at hn
    by_cases hq : q ≤ wsum ws m
    · rw [if_pos hq, if_pos hq] at hn
      rw [ev_pos (by simpa using hq), w64 (by omega) (by omega), ev_bind (ev_of (spec_l1Least.v _ _)), hwr]
      exact hn
    · rw [if_neg hq, if_neg hq] at hn
      rw [ev_neg (by simpa using hq), w64 (by omega) (by omega), ev_bind (ev_of (spec_l1Least.v _ _)), hwr]
      exact hn
theorem spec_SpareOf.ev (q : Int) (ws : List Int) (hl : ws.length ≤ 9223372036854775807) : Ev (fun k => spec_SpareOf.f k q ws) (spareV q ws) := by
  simp only [spec_SpareOf.f]
  rw [ev_bind (spec_voGood.ev q ws hl)]
  unfold spareV
  cases hg : goodB q ws with
  | false => rw [ev_neg (by simp), ev_now, if_neg (by simp)]
  | true =>
    have hG := (good_iff q ws).1 hg
    have hp := hG.pow
    have hs := hG.sum
    have h1 := hG.q1
    have h2 := hG.qs
    have hb := spare_bounds hG
    rw [ev_pos rfl, ev_bind (spec_voSum.ev ws hl), ev_bind (spec_voWins.ev q ws hG.l9 hG.wb), if_pos rfl]
    rw [wfold_sum ws 0 (fun x hx => by have := hG.w x hx; omega) (by omega) (by have := hG.l9; omega), Int.zero_add, w64 (by omega) (by omega)]
    have hm := more_spare hG (2 ^ ws.length) (Nat.le_refl _)
    have hle := less_spare hG (2 ^ ws.length) (Nat.le_refl _)
    have e1 : moreV q ws (2 ^ ws.length) = spWin (winsL q ws) ws (2 ^ ws.length) - q := by
      rcases hm with ⟨a, _⟩ | ⟨_, _, c⟩
      · omega
      · exact c
    have e2 : lessV q ws (2 ^ ws.length) = q - spLose (winsL q ws) ws (2 ^ ws.length) := by
      rcases hle with ⟨a, _⟩ | ⟨_, _, c⟩
      · omega
      · exact c
    rw [← e1, ← e2]
    exact spec_SpareOf.ev_l q ws hG (2 ^ ws.length) 0 (by omega)
def swingM (W : List Bool) (m i : Nat) : Bool := decide (m / 2 ^ i % 2 = 0) && !(W.getD m false) && W.getD (m + 2 ^ i) false
theorem bit_add_lt (n m i : Nat) (hi : i < n) (hm : m < 2 ^ n) (hb : m / 2 ^ i % 2 = 0) : m + 2 ^ i < 2 ^ n := by
  have e : 2 ^ n = 2 ^ i * 2 ^ (n - i) := by rw [← Nat.pow_add]; congr 1; omega
  have e2 : 2 ^ (n - i) = 2 * 2 ^ (n - i - 1) := by rw [← Nat.pow_succ']; congr 1; omega
  have h1 : m / 2 ^ i < 2 ^ (n - i) := by rw [Nat.div_lt_iff_lt_mul (Nat.two_pow_pos i), Nat.mul_comm, ← e]; exact hm
  have h2 : m / 2 ^ i + 1 < 2 ^ (n - i) := by omega
  have h3 : m < 2 ^ i * (m / 2 ^ i + 1) := by
    have := Nat.lt_mul_div_succ m (Nat.two_pow_pos i)
    exact this
  have h4 : 2 ^ i * (m / 2 ^ i + 1 + 1) ≤ 2 ^ i * 2 ^ (n - i) := Nat.mul_le_mul_left _ (by omega)
  rw [Nat.mul_add, Nat.mul_one] at h4
  omega
theorem impl_votes_isSwing.vM (n : Int) (W : List Bool) (N m i : Nat) (hN : N ≤ 19) (hW : W.length = 2 ^ N) (hm : m < 2 ^ N) (hi : i < N) : impl_votes_isSwing.f n W (m : Int) (i : Int) = some (swingM W m i) := by
  have hp : 2 ^ N ≤ 2 ^ 19 := Nat.pow_le_pow_right (by omega) hN
  have hpi : 2 ^ i ≤ 2 ^ 19 := Nat.pow_le_pow_right (by omega) (by omega)
  have h0i : 0 < 2 ^ i := Nat.two_pow_pos i
  unfold impl_votes_isSwing.f swingM
  rw [impl_has.v m i (by omega) (by omega), Option.bind_some]
  by_cases hb : m / 2 ^ i % 2 = 1
  · rw [if_pos (by simpa using hb)]
    simp [hb]
  · have hb0 : m / 2 ^ i % 2 = 0 := by omega
    have hlt := bit_add_lt N m i hi hm hb0
    rw [if_neg (by simpa using hb), if_pos (by omega), if_pos (by omega), rdOf_nat]
    cases hw : W.getD m false with
    | true => simp
    | false =>
      rw [if_neg (by simp), if_pos (by omega), shl_one i (by omega), or_nat m (2 ^ i) (by omega) (by omega), or_pow i m hb0, if_pos (by omega), if_pos (by omega), rdOf_nat]
      simp [hb0]
def lackV (W : List Bool) (q : Int) (out : List Int) (i : Nat) : Nat → Int
  | 0 => 0
  | m + 1 => if swingM W m i = true then max (lackV W q out i m) (q - wsum out m) else lackV W q out i m
def spareI (W : List Bool) (q : Int) (out : List Int) (i : Nat) : Nat → Int
  | 0 => out.getD i 0
  | m + 1 => if W.getD m false = true ∧ m / 2 ^ i % 2 = 1 then min (spareI W q out i m) (wsum out m - q) else spareI W q out i m
theorem lackV_spec (W : List Bool) (q : Int) (out : List Int) (i : Nat) : ∀ m, 0 ≤ lackV W q out i m ∧ (∀ j, j < m → swingM W j i = true → q - wsum out j ≤ lackV W q out i m) ∧ (lackV W q out i m = 0 ∨ ∃ j, j < m ∧ swingM W j i = true ∧ lackV W q out i m = q - wsum out j) := by
  intro m
  induction m with
  | zero => exact ⟨Int.le_refl 0, fun j hj => absurd hj (Nat.not_lt_zero j), .inl rfl⟩
  | succ m ih =>
    obtain ⟨h1, h2, h3⟩ := ih
    simp only [lackV]
    cases hs : swingM W m i with
    | false =>
      rw [if_neg (by simp)]
      refine ⟨h1, fun j hj hsj => ?_, ?_⟩
      · by_cases e : j = m
        · subst e; rw [hs] at hsj; exact absurd hsj (by simp)
        · exact h2 j (by omega) hsj
      · rcases h3 with h3 | ⟨j, hj, h4, h5⟩
        · exact .inl h3
        · exact .inr ⟨j, by omega, h4, h5⟩
    | true =>
      rw [if_pos rfl]
      refine ⟨by omega, fun j hj hsj => ?_, ?_⟩
      · by_cases e : j = m
        · subst e; omega
        · have := h2 j (by omega) hsj; omega
      · rcases Int.le_total (lackV W q out i m) (q - wsum out m) with hc | hc
        · rw [Int.max_eq_right hc]; exact .inr ⟨m, by omega, hs, rfl⟩
        · rw [Int.max_eq_left hc]
          rcases h3 with h3 | ⟨j, hj, h4, h5⟩
          · exact .inl h3
          · exact .inr ⟨j, by omega, h4, h5⟩
theorem spareI_spec (W : List Bool) (q : Int) (out : List Int) (i : Nat) : ∀ m, spareI W q out i m ≤ out.getD i 0 ∧ (∀ j, j < m → W.getD j false = true → j / 2 ^ i % 2 = 1 → spareI W q out i m ≤ wsum out j - q) ∧ (spareI W q out i m = out.getD i 0 ∨ ∃ j, j < m ∧ W.getD j false = true ∧ j / 2 ^ i % 2 = 1 ∧ spareI W q out i m = wsum out j - q) := by
  intro m
  induction m with
  | zero => exact ⟨Int.le_refl _, fun j hj => absurd hj (Nat.not_lt_zero j), .inl rfl⟩
  | succ m ih =>
    obtain ⟨h1, h2, h3⟩ := ih
    simp only [spareI]
    by_cases hs : W.getD m false = true ∧ m / 2 ^ i % 2 = 1
    · rw [if_pos hs]
      refine ⟨by omega, fun j hj hw hb => ?_, ?_⟩
      · by_cases e : j = m
        · subst e; omega
        · have := h2 j (by omega) hw hb; omega
      · rcases Int.le_total (spareI W q out i m) (wsum out m - q) with hc | hc
        · rw [Int.min_eq_left hc]
          rcases h3 with h3 | ⟨j, hj, h4, h5, h6⟩
          · exact .inl h3
          · exact .inr ⟨j, by omega, h4, h5, h6⟩
        · rw [Int.min_eq_right hc]; exact .inr ⟨m, by omega, hs.1, hs.2, rfl⟩
    · rw [if_neg hs]
      refine ⟨h1, fun j hj hw hb => ?_, ?_⟩
      · by_cases e : j = m
        · subst e; exact absurd ⟨hw, hb⟩ hs
        · exact h2 j (by omega) hw hb
      · rcases h3 with h3 | ⟨j, hj, h4, h5, h6⟩
        · exact .inl h3
        · exact .inr ⟨j, by omega, h4, h5, h6⟩
/-- What holds of the weights while they are lowered. -/
structure LowInv (W : List Bool) (q : Int) (n : Nat) (out : List Int) : Prop where
  len : out.length = n
  w : ∀ x ∈ out, 0 ≤ x ∧ x ≤ 1000
  win : ∀ m, m < 2 ^ n → W.getD m false = true → q ≤ wsum out m
theorem bit_sub (m i : Nat) (hb : m / 2 ^ i % 2 = 1) : ∃ m', m = m' + 2 ^ i ∧ m' / 2 ^ i % 2 = 0 := by
  have h0 : 0 < 2 ^ i := Nat.two_pow_pos i
  have h1 : 2 ^ i ≤ m := by
    by_cases h : 2 ^ i ≤ m
    · exact h
    · rw [Nat.div_eq_of_lt (by omega)] at hb; simp at hb
  refine ⟨m - 2 ^ i, by omega, ?_⟩
  have e : m / 2 ^ i = (m - 2 ^ i) / 2 ^ i + 1 := by
    have := Nat.add_div_right (m - 2 ^ i) h0
    rw [Nat.sub_add_cancel h1] at this
    exact this
  omega
theorem lack_spare {W : List Bool} {q : Int} {n : Nat} {out : List Int} (h : LowInv W q n out) (i : Nat) (hi : i < n) : lackV W q out i (2 ^ n) = out.getD i 0 - spareI W q out i (2 ^ n) ∧ 0 ≤ spareI W q out i (2 ^ n) := by
  have hio : i < out.length := by rw [h.len]; exact hi
  have hgd : out.getD i 0 = out[i] := by simp [hio]
  have hoi := h.w out[i] (List.getElem_mem hio)
  obtain ⟨a1, a2, a3⟩ := lackV_spec W q out i (2 ^ n)
  obtain ⟨b1, b2, b3⟩ := spareI_spec W q out i (2 ^ n)
  rw [hgd] at b1 b3 ⊢
  have hsp : 0 ≤ spareI W q out i (2 ^ n) := by
    rcases b3 with e | ⟨j, hj, hw, _, e⟩
    · omega
    · have := h.win j hj hw; omega
  have hge : lackV W q out i (2 ^ n) ≤ out[i] - spareI W q out i (2 ^ n) := by
    rcases a3 with e | ⟨j, hj, hs, e⟩
    · omega
    · simp only [swingM, Bool.and_eq_true, decide_eq_true_eq, Bool.not_eq_true'] at hs
      obtain ⟨⟨hb, _⟩, hw⟩ := hs
      have hlt := bit_add_lt n j i hi hj hb
      have hb1 : (j + 2 ^ i) / 2 ^ i % 2 = 1 := by rw [Nat.add_div_right _ (Nat.two_pow_pos i)]; omega
      have := b2 (j + 2 ^ i) hlt hw hb1
      rw [wsum_add out i j hio hb] at this
      omega
  have hle : out[i] - spareI W q out i (2 ^ n) ≤ lackV W q out i (2 ^ n) := by
    rcases b3 with e | ⟨j, hj, hw, hb, e⟩
    · omega
    · obtain ⟨j', rfl, hb'⟩ := bit_sub j i hb
      have h0i : 0 < 2 ^ i := Nat.two_pow_pos i
      rw [wsum_add out i j' hio hb'] at e
      cases hwj : W.getD j' false with
      | true =>
        have := h.win j' (by omega) hwj
        omega
      | false =>
        have hs : swingM W j' i = true := by simp only [swingM, hb', hwj, hw]; rfl
        have := a2 j' (by omega) hs
        omega
  exact ⟨by omega, hsp⟩
theorem LowInv.step {W : List Bool} {q : Int} {n : Nat} {out : List Int} (h : LowInv W q n out) (i : Nat) (hi : i < n) : LowInv W q n (out.set i (lackV W q out i (2 ^ n))) := by
  have hio : i < out.length := by rw [h.len]; exact hi
  have hgd : out.getD i 0 = out[i] := by simp [hio]
  have hoi := h.w out[i] (List.getElem_mem hio)
  obtain ⟨e, hs⟩ := lack_spare h i hi
  obtain ⟨b1, b2, _⟩ := spareI_spec W q out i (2 ^ n)
  have hl0 := (lackV_spec W q out i (2 ^ n)).1
  rw [hgd] at e b1
  refine ⟨by simpa using h.len, fun x hx => ?_, fun m hm hw => ?_⟩
  · rcases List.mem_or_eq_of_mem_set hx with hx | rfl
    · exact h.w x hx
    · omega
  · rw [wsum_set out _ i m hio]
    have h1 := h.win m hm hw
    by_cases hb : m / 2 ^ i % 2 = 1
    · rw [if_pos hb]
      have := b2 m hm hw hb
      omega
    · rw [if_neg hb]; omega
def lowN (W : List Bool) (q : Int) (ws : List Int) : Nat → List Int
  | 0 => ws
  | i + 1 => (lowN W q ws i).set i (lackV W q (lowN W q ws i) i (2 ^ ws.length))
theorem lowN_inv {q : Int} {ws : List Int} (h : GoodC q ws) : ∀ i, i ≤ ws.length → LowInv (winsL q ws) q ws.length (lowN (winsL q ws) q ws i) := by
  intro i
  induction i with
  | zero =>
    intro _
    refine ⟨rfl, h.w, fun m hm hw => ?_⟩
    rw [winsL_getD q ws m hm] at hw
    show q ≤ wsum ws m
    simpa using hw
  | succ i ih => exact fun hi => (ih (by omega)).step i (by omega)
def lowV (q : Int) (ws : List Int) : Int × List Int × Bool := if goodB q ws = true then (q, lowN (winsL q ws) q ws ws.length, true) else (0, [], false)
theorem LowInv.wb {W : List Bool} {q : Int} {n : Nat} {out : List Int} (h : LowInv W q n out) : ∀ x ∈ out, 0 ≤ x ∧ x ≤ 1000000000 := fun x hx => by have := h.w x hx; omega
theorem LowInv.sum {W : List Bool} {q : Int} {n : Nat} {out : List Int} (h : LowInv W q n out) (hn : n ≤ 9) (m : Nat) : 0 ≤ wsum out m ∧ wsum out m ≤ 9000 := by
  have h1 := wsum_bounds out (fun x hx => (h.w x hx).1) m
  have h2 := sum_bounds out 1000 h.w
  have h3 := h.len
  omega
theorem impl_LowerWeights.ev_l1 (q : Int) (W : List Bool) (n i : Nat) (out : List Int) (r : Int × List Int × Bool) (hn : n ≤ 9) (hi : i < n) (hq : 0 ≤ q ∧ q ≤ 9000) (hW : W.length = 2 ^ n) (h : LowInv W q n out)
    (h0 : Ev (fun k => impl_LowerWeights.l0 k (n : Int) ((i + 1 : Nat) : Int) (n : Int) W q (out.set i (lackV W q out i (2 ^ n)))) r) : ∀ (d m : Nat), m + d = 2 ^ n → Ev (fun k => impl_LowerWeights.l1 k (i : Int) (lackV W q out i m) (n : Int) (i : Int) (W.length : Int) (m : Int) (n : Int) W q out) r := by
  have hp : 2 ^ n ≤ 2 ^ 9 := Nat.pow_le_pow_right (by omega) hn
  intro d
  induction d with
  | zero =>
    intro m hm
    refine ev_step ?_
    simp only [impl_LowerWeights.l1]
    have hwr : wrap64 ((i : Int) + 1) = ((i + 1 : Nat) : Int) := by rw [w64i (n := 9) (by omega) (by omega) (by omega)]; omega
    rw [ev_neg (by omega), ev_pos (by omega), ev_pos (by have := h.len; omega), hwr, Int.toNat_natCast, show m = 2 ^ n by omega]
    exact h0
  | succ d ih =>
    intro m hm
    refine ev_step ?_
    simp only [impl_LowerWeights.l1]
    have hwr : wrap64 ((m : Int) + 1) = ((m + 1 : Nat) : Int) := by rw [w64i (n := 512) (by omega) (by omega) (by omega)]; omega
    have hx := ih (m + 1) (by omega)
    have hb := h.sum hn m
    rw [ev_pos (by omega), ev_bind (ev_of (impl_votes_isSwing.vM _ W n m i (by omega) hW (by omega) hi)), hwr]
    simp only [lackV] at hx
    cases hs : swingM W m i with
    | true =>
      rw [hs, if_pos rfl] at hx
      rw [ev_pos rfl, ev_bind (impl_Committee_weight.ev q out m (by omega) (by have := h.len; omega) h.wb), w64 (by omega) (by omega), mx_eq]
      exact hx
    | false =>
      rw [hs, if_neg (by simp)] at hx
      rw [ev_neg (by simp)]
      exact hx
theorem impl_LowerWeights.ev_l0 (q : Int) (ws : List Int) (h : GoodC q ws) : ∀ (d i : Nat), i + d = ws.length → Ev (fun k => impl_LowerWeights.l0 k (ws.length : Int) (i : Int) (ws.length : Int) (winsL q ws) q (lowN (winsL q ws) q ws i)) (q, lowN (winsL q ws) q ws ws.length, true) := by
  intro d
  induction d with
  | zero =>
    intro i hi
    refine ev_step ?_
    simp only [impl_LowerWeights.l0]
    rw [ev_neg (by omega), ev_now, show i = ws.length by omega]
  | succ d ih =>
    intro i hi
    refine ev_step ?_
    simp only [impl_LowerWeights.l0]
    rw [ev_pos (by omega)]
    have hs := h.sum
    have h1 := h.q1
    have h2 := h.qs
    exact impl_LowerWeights.ev_l1 q (winsL q ws) ws.length i _ _ h.l9 (by omega) (by omega) (winsL_length q ws) (lowN_inv h i (by omega)) (ih (i + 1) (by omega)) (2 ^ ws.length) 0 (by omega)
theorem impl_LowerWeights.ev (q : Int) (ws : List Int) (hl : ws.length ≤ 9223372036854775807) : Ev (fun k => impl_LowerWeights.f k q ws) (lowV q ws) := by
  simp only [impl_LowerWeights.f]
  rw [ev_bind (impl_IsCommittee.ev q ws hl)]
  unfold lowV
  cases hg : goodB q ws with
  | false => rw [ev_neg (by simp), ev_now, if_neg (by simp)]
  | true =>
    have hG := (good_iff q ws).1 hg
    rw [ev_pos rfl, ev_bind (impl_Committee_votes.ev q ws hG.l9 hG.wb), ev_bind (ev_of (impl_Clone.v ws (by have := hG.l9; omega))), if_pos rfl]
    exact impl_LowerWeights.ev_l0 q ws hG ws.length 0 (by omega)
theorem lack_val {W : List Bool} {q : Int} {n : Nat} {out : List Int} (h : LowInv W q n out) (i : Nat) (hi : i < n) : wrap64 (out.getD i 0 - spareI W q out i (2 ^ n)) = lackV W q out i (2 ^ n) := by
  have hio : i < out.length := by rw [h.len]; exact hi
  have hgd : out.getD i 0 = out[i] := by simp [hio]
  have hoi := h.w out[i] (List.getElem_mem hio)
  obtain ⟨e, hs0⟩ := lack_spare h i hi
  have hs1 := (spareI_spec W q out i (2 ^ n)).1
  generalize spareI W q out i (2 ^ n) = x at *
  generalize lackV W q out i (2 ^ n) = y at *
  rw [hgd] at *
  rw [e]
  exact w64 (by omega) (by omega)
theorem spec_LowerWeights.ev_l1 (q : Int) (W : List Bool) (n i : Nat) (out : List Int) (r : Int × List Int × Bool) (hn : n ≤ 9) (hi : i < n) (hq : 0 ≤ q ∧ q ≤ 9000) (hW : W.length = 2 ^ n) (h : LowInv W q n out)
    (h0 : Ev (fun k => spec_LowerWeights.l0 k W (n : Int) ((i + 1 : Nat) : Int) q (out.set i (lackV W q out i (2 ^ n)))) r) : ∀ (d m : Nat), m + d = 2 ^ n → Ev (fun k => spec_LowerWeights.l1 k W (i : Int) (spareI W q out i m) (n : Int) (i : Int) W (W.length : Int) (m : Int) q out) r := by
  have hp : 2 ^ n ≤ 2 ^ 9 := Nat.pow_le_pow_right (by omega) hn
  have hio : i < out.length := by rw [h.len]; exact hi
  have HV := Aside0.mk (lack_val h i hi)
  intro d
  induction d with
  | zero =>
    intro m hm
    refine ev_step ?_
    simp only [spec_LowerWeights.l1]
    have hwr : wrap64 ((i : Int) + 1) = ((i + 1 : Nat) : Int) := by rw [w64i (n := 9) (by omega) (by omega) (by omega)]; omega
    rw [ev_neg (by omega), ev_pos (by omega), ev_pos (by omega), hwr, Int.toNat_natCast, rd_nat, show m = 2 ^ n by omega, HV.out]
    exact h0
  | succ d ih =>
    intro m hm
    refine ev_step ?_
    simp only [spec_LowerWeights.l1]
    have hwr : wrap64 ((m : Int) + 1) = ((m + 1 : Nat) : Int) := by rw [w64i (n := 512) (by omega) (by omega) (by omega)]; omega
    have hx := ih (m + 1) (by omega)
    have hb := h.sum hn m
    have hbit : (Int.tmod (shr .i64 (m : Int) (i : Int)) 2 == 1) = decide (m / 2 ^ i % 2 = 1) := by
      rw [spec_bit m i (by omega) (by omega)]
      by_cases e : m / 2 ^ i % 2 = 1
      · simp [e]
      · have : m / 2 ^ i % 2 = 0 := by omega
        simp [this]
    rw [ev_pos (by omega), ev_pos (by omega), ev_pos (by omega), rdOf_nat]
    simp only [spareI] at hx
    cases hw : W.getD m false with
    | true =>
      rw [hw] at hx
      rw [ev_pos rfl, ev_pos (by omega), hbit]
      refine ev_step ?_
      simp only [spec_LowerWeights.j2]
      by_cases hbb : m / 2 ^ i % 2 = 1
      · rw [if_pos ⟨rfl, hbb⟩] at hx
        rw [ev_pos (by simpa using hbb), ev_bind (spec_voWeight.ev q out m (by omega) (by have := h.len; omega) h.wb), w64 (by omega) (by omega), ev_bind (ev_of (spec_l1Least.v _ _)), hwr]
        exact hx
      · rw [if_neg (by simp [hbb])] at hx
        rw [ev_neg (by simpa using hbb), hwr]
        exact hx
    | false =>
      rw [hw, if_neg (by simp)] at hx
      rw [ev_neg (by simp)]
      refine ev_step ?_
      simp only [spec_LowerWeights.j2]
      rw [ev_neg (by simp), hwr]
      exact hx
theorem spec_LowerWeights.ev_l0 (q : Int) (ws : List Int) (h : GoodC q ws) : ∀ (d i : Nat), i + d = ws.length → Ev (fun k => spec_LowerWeights.l0 k (winsL q ws) (ws.length : Int) (i : Int) q (lowN (winsL q ws) q ws i)) (q, lowN (winsL q ws) q ws ws.length, true) := by
  intro d
  induction d with
  | zero =>
    intro i hi
    refine ev_step ?_
    simp only [spec_LowerWeights.l0]
    rw [ev_neg (by omega), ev_now, show i = ws.length by omega]
  | succ d ih =>
    intro i hi
    refine ev_step ?_
    simp only [spec_LowerWeights.l0]
    have hv := lowN_inv h i (by omega)
    rw [ev_pos (by omega), ev_pos (by omega), ev_pos (by have := hv.len; omega), rd_nat]
    have hs := h.sum
    have h1 := h.q1
    have h2 := h.qs
    exact spec_LowerWeights.ev_l1 q (winsL q ws) ws.length i _ _ h.l9 (by omega) (by omega) (winsL_length q ws) hv (ih (i + 1) (by omega)) (2 ^ ws.length) 0 (by omega)
theorem spec_LowerWeights.ev (q : Int) (ws : List Int) (hl : ws.length ≤ 9223372036854775807) : Ev (fun k => spec_LowerWeights.f k q ws) (lowV q ws) := by
  simp only [spec_LowerWeights.f]
  rw [ev_bind (spec_voGood.ev q ws hl)]
  unfold lowV
  cases hg : goodB q ws with
  | false => rw [ev_neg (by simp), ev_now, if_neg (by simp)]
  | true =>
    have hG := (good_iff q ws).1 hg
    rw [ev_pos rfl, ev_bind (spec_voWins.ev q ws hG.l9 hG.wb), ev_bind (ev_of (spec_Own.v ws (by have := hG.l9; omega))), if_pos rfl]
    exact spec_LowerWeights.ev_l0 q ws hG ws.length 0 (by omega)
theorem lowV_len (q : Int) (ws : List Int) : (lowV q ws).2.1.length ≤ 9 := by
  unfold lowV
  split
  · next h =>
    have hG := (good_iff q ws).1 h
    have := (lowN_inv hG ws.length (Nat.le_refl _)).len
    have := hG.l9
    simp; omega
  · simp
theorem laws_mHas.ev_l (l : List Int) (a : Int) (hl : l.length ≤ 9223372036854775807) : ∀ (d i : Nat), i + d = l.length → Ev (fun k => laws_mHas.l0 k a l (l.length : Int) (i : Int)) ((l.drop i).contains a) := by
  intro d
  induction d with
  | zero =>
    intro i h
    refine ev_step ?_
    simp only [laws_mHas.l0]
    rw [ev_neg (by omega), ev_now, List.drop_of_length_le (by omega)]
    rfl
  | succ d ih =>
    intro i h
    refine ev_step ?_
    simp only [laws_mHas.l0]
    have hi : i < l.length := by omega
    rw [ev_pos (by omega), ev_pos (by omega), ev_pos (by omega), rd_lt l i hi, w64i (n := l.length) (by omega) (by omega) hl, List.drop_eq_getElem_cons hi, List.contains_cons]
    by_cases c : l[i] = a
    · rw [ev_pos c, ev_now, c, beq_self_eq_true, Bool.true_or]
    · rw [ev_neg c, beq_eq_false_iff_ne.2 (fun h => c h.symm), Bool.false_or]
      exact ih (i + 1) (by omega)
theorem laws_mHas.ev (l : List Int) (a : Int) (hl : l.length ≤ 9223372036854775807) : Ev (fun k => laws_mHas.f k l a) (l.contains a) := laws_mHas.ev_l l a hl l.length 0 (by omega)
theorem laws_mSame.ev_l (a b : List Int) (hl : a.length ≤ 9223372036854775807) (hab : a.length = b.length) : ∀ (d i : Nat), i + d = a.length → Ev (fun k => laws_mSame.l0 k a b (a.length : Int) (i : Int)) (decide (a.drop i = b.drop i)) := by
  intro d
  induction d with
  | zero =>
    intro i h
    refine ev_step ?_
    simp only [laws_mSame.l0]
    rw [ev_neg (by omega), ev_now, List.drop_of_length_le (by omega), List.drop_of_length_le (by omega)]
    rfl
  | succ d ih =>
    intro i h
    refine ev_step ?_
    simp only [laws_mSame.l0]
    have hi : i < a.length := by omega
    have hib : i < b.length := by omega
    have e : decide (a.drop i = b.drop i) = (decide (a[i] = b[i]) && decide (a.drop (i + 1) = b.drop (i + 1))) := by
      rw [List.drop_eq_getElem_cons hi, List.drop_eq_getElem_cons hib, Bool.eq_iff_iff]
      simp only [Bool.and_eq_true, decide_eq_true_eq, List.cons.injEq]
    rw [ev_pos (by omega), ev_pos (by omega), ev_pos (by omega), ev_pos (by omega), rd_lt a i hi, rd_lt b i hib, w64i (n := a.length) (by omega) (by omega) hl, e]
    by_cases c : a[i] = b[i]
    · rw [ev_pos c, decide_eq_true c, Bool.true_and]
      exact ih (i + 1) (by omega)
    · rw [ev_neg c, ev_now, decide_eq_false c]
      rfl
theorem laws_mSame.ev (a b : List Int) (hl : a.length ≤ 9223372036854775807) : Ev (fun k => laws_mSame.f k a b) (decide (a = b)) := by
  simp only [laws_mSame.f]
  by_cases c : (a.length : Int) = (b.length : Int)
  · rw [ev_pos c]
    exact laws_mSame.ev_l a b hl (by omega) a.length 0 (by omega)
  · rw [ev_neg c, ev_now, decide_eq_false (fun h => c (by rw [h]))]
theorem laws_mCommittee.ev_same (q : Int) (ws : List Int) (hl : ws.length ≤ 9223372036854775807) : Ev (fun k => laws_mCommittee.f k q ws q ws) true := by
  have h := laws_mSame.ev ws ws hl
  rw [decide_eq_true rfl] at h
  show Ev (fun k => if q = q then (laws_mSame.f k ws ws).bind fun t => some t else some false) true
  rw [ev_pos rfl, ev_bind h, ev_now]
theorem cnt_sum (P : Nat → Bool) : ∀ N, ((List.range N).filter P).length = ((List.range N).map fun m => if P m = true then 1 else 0).sum := by
  intro N
  induction N with
  | zero => rfl
  | succ N ih =>
    rw [List.range_succ, List.filter_append, List.length_append, ih, List.map_append, List.sum_append_nat]
    by_cases h : P N = true
    · simp [h]
    · simp [h]
def cntR (q : Int) : List Int → Nat
  | [] => if q ≤ 0 then 1 else 0
  | w :: ws => cntR q ws + cntR (q - w) ws
theorem cntR_perm {l l' : List Int} (h : l.Perm l') : ∀ q, cntR q l = cntR q l' := by
  induction h with
  | nil => intro q; rfl
  | cons x _ ih => intro q; simp only [cntR, ih]
  | swap x y l =>
    intro q
    simp only [cntR]
    rw [show q - y - x = q - x - y by omega]
    omega
  | trans _ _ h1 h2 => intro q; rw [h1, h2]
theorem even_odd_sum (f : Nat → Nat) : ∀ N, ((List.range (2 * N)).map f).sum = ((List.range N).map fun m => f (2 * m) + f (2 * m + 1)).sum := by
  intro N
  induction N with
  | zero => rfl
  | succ N ih =>
    rw [show 2 * (N + 1) = 2 * N + 1 + 1 by omega, List.range_succ, List.range_succ, List.map_append, List.map_append, List.sum_append_nat, List.sum_append_nat, ih, List.range_succ, List.map_append, List.sum_append_nat]
    simp only [List.map_cons, List.map_nil, List.sum_cons, List.sum_nil]
    omega
theorem cnt_rec : ∀ (ws : List Int) (q : Int), ((List.range (2 ^ ws.length)).map fun m => if decide (q ≤ wsum ws m) = true then 1 else 0).sum = cntR q ws := by
  intro ws
  induction ws with
  | nil =>
    intro q
    by_cases h : q ≤ 0 <;> simp [cntR, wsum, h]
  | cons w ws ih =>
    intro q
    rw [List.length_cons, Nat.pow_succ, Nat.mul_comm, even_odd_sum, cntR, ← ih q, ← ih (q - w)]
    have e : ∀ m, ((if decide (q ≤ wsum (w :: ws) (2 * m)) = true then 1 else 0) + if decide (q ≤ wsum (w :: ws) (2 * m + 1)) = true then 1 else 0) = (if decide (q ≤ wsum ws m) = true then 1 else 0) + if decide (q - w ≤ wsum ws m) = true then 1 else 0 := by
      intro m
      have e1 : wsum (w :: ws) (2 * m) = wsum ws m := by
        show (if 2 * m % 2 = 1 then w else 0) + wsum ws (2 * m / 2) = _
        rw [if_neg (by omega), show 2 * m / 2 = m by omega]
        omega
      have e2 : wsum (w :: ws) (2 * m + 1) = w + wsum ws m := by
        show (if (2 * m + 1) % 2 = 1 then w else 0) + wsum ws ((2 * m + 1) / 2) = _
        rw [if_pos (by omega), show (2 * m + 1) / 2 = m by omega]
      rw [e1, e2]
      congr 1
      by_cases c : q - w ≤ wsum ws m
      · rw [decide_eq_true c, decide_eq_true (by omega)]
      · rw [decide_eq_false c, decide_eq_false (by omega)]
    have h2 : ∀ (L : List Nat), (L.map fun m => (if decide (q ≤ wsum (w :: ws) (2 * m)) = true then 1 else 0) + if decide (q ≤ wsum (w :: ws) (2 * m + 1)) = true then 1 else 0).sum = (L.map fun m => if decide (q ≤ wsum ws m) = true then 1 else 0).sum + (L.map fun m => if decide (q - w ≤ wsum ws m) = true then 1 else 0).sum := by
      intro L
      induction L with
      | nil => rfl
      | cons a L ih2 =>
        simp only [List.map_cons, List.sum_cons, e] at ih2 ⊢
        omega
    exact h2 _
theorem cntW_rec (q : Int) (ws : List Int) : cntW (winsL q ws) = ((cntR q ws : Nat) : Int) := by
  rw [cntW_range, cnt_sum, winsL_length, ← cnt_rec]
  congr 2
  refine List.map_congr_left (fun m hm => ?_)
  rw [winsL_getD q ws m (List.mem_range.1 hm)]
theorem cntW_perm {q : Int} {ws ws' : List Int} (h : ws.Perm ws') : cntW (winsL q ws) = cntW (winsL q ws') := by rw [cntW_rec, cntW_rec, cntR_perm h]
theorem cntR_zero : ∀ (ws : List Int) (q : Int), (∀ x ∈ ws, 0 ≤ x) → ws.sum < q → cntR q ws = 0
  | [], q, _, h => by
    simp only [List.sum_nil] at h
    rw [cntR, if_neg (by omega)]
  | w :: ws, q, h0, h => by
    rw [List.sum_cons] at h
    have hw := h0 w (by simp)
    rw [cntR, cntR_zero ws q (fun x hx => h0 x (by simp [hx])) (by omega), cntR_zero ws (q - w) (fun x hx => h0 x (by simp [hx])) (by omega)]
theorem veto_count {q : Int} {ws : List Int} (h : GoodC q ws) : cntW (winsL (q + ws.sum) (ws ++ [ws.sum])) = cntW (winsL q ws) := by
  have h1 := h.q1
  rw [cntW_perm (List.perm_append_singleton ws.sum ws), cntW_rec, cntW_rec, cntR, cntR_zero ws (q + ws.sum) h.w0 (by omega), show q + ws.sum - ws.sum = q by omega, Nat.zero_add]
theorem dummy_count (q : Int) (ws : List Int) : cntW (winsL q (ws ++ [0])) = 2 * cntW (winsL q ws) := by
  rw [cntW_perm (List.perm_append_singleton (0 : Int) ws), cntW_rec, cntW_rec, cntR, Int.sub_zero]
  omega
theorem veto_new {q : Int} {ws : List Int} (h : GoodC q ws) : vetoB (q + ws.sum) (ws ++ [ws.sum]) ws.length = true := by
  have h1 := h.q1
  unfold vetoB
  rw [List.getD_eq_getElem?_getD, List.getElem?_append_right (Nat.le_refl _), Nat.sub_self, List.sum_append_int]
  simp
  omega
theorem dummy_new {q : Int} {ws : List Int} (hc : GoodC q (ws ++ [0])) : dumB q (ws ++ [0]) ws.length = true := by
  have hl : (ws ++ [(0 : Int)]).length = ws.length + 1 := by simp
  rw [dumB_iff hc _ (by omega)]
  intro m hm hlm
  cases hb : m.testBit ws.length with
  | false => rfl
  | true =>
    exfalso
    obtain ⟨h1, h2⟩ := leastB_bits hlm
    have h3 := h2 ws.length (by omega) hb
    have hge := pow_le_of_bit hb
    rw [winsL_getD q _ m hm] at h1
    rw [winsL_getD q _ (m - 2 ^ ws.length) (Nat.lt_of_le_of_lt (Nat.sub_le _ _) hm), wsum_out _ m ws.length (by omega) (by rw [bitB_test]; exact hb)] at h3
    have e : (ws ++ [(0 : Int)])[ws.length]'(by omega) = 0 := by simp
    rw [e, Int.sub_zero, h1] at h3
    cases h3
theorem even_sum_all : ((List.range 10).all fun n => (List.range (2 ^ n)).all fun m => decide (wsum (List.replicate n 1) m = ((popN m : Nat) : Int))) = true := by decide +kernel
theorem even_sum {n m : Nat} (hn : n ≤ 9) (hm : m < 2 ^ n) : wsum (List.replicate n 1) m = ((popN m : Nat) : Int) := by
  have h := List.all_eq_true.1 even_sum_all n (List.mem_range.2 (by omega))
  exact of_decide_eq_true (List.all_eq_true.1 h m (List.mem_range.2 hm))
theorem even_some_all : ((List.range 10).all fun n => (List.range (n + 1)).all fun s => decide (2 ^ s - 1 < 2 ^ n) && decide (popN (2 ^ s - 1) = s)) = true := by decide +kernel
theorem even_some {n s : Nat} (hn : n ≤ 9) (hs : s ≤ n) : 2 ^ s - 1 < 2 ^ n ∧ popN (2 ^ s - 1) = s := by
  have h := List.all_eq_true.1 (List.all_eq_true.1 even_some_all n (List.mem_range.2 (by omega))) s (List.mem_range.2 (by omega))
  simp only [Bool.and_eq_true, decide_eq_true_eq] at h
  exact h
theorem even_heads {n s : Nat} {need : Int} (hn : n ≤ 9) (hs : s ≤ n) : decide (cntO (winsL need (List.replicate n 1)) (s : Int) > 0) = decide ((s : Int) ≥ need) := by
  have hl : (winsL need (List.replicate n (1 : Int))).length = 2 ^ n := by rw [winsL_length, List.length_replicate]
  have hg : ∀ m, m < 2 ^ n → (winsL need (List.replicate n (1 : Int))).getD m false = decide (need ≤ ((popN m : Nat) : Int)) := fun m hm => by
    rw [winsL_getD _ _ m (by rw [List.length_replicate]; exact hm), even_sum hn hm]
  rw [Bool.eq_iff_iff, decide_eq_true_eq, decide_eq_true_eq]
  unfold cntO
  rw [hl]
  constructor
  · intro h
    obtain ⟨m, hm⟩ := List.exists_mem_of_length_pos (show 0 < ((List.range (2 ^ n)).filter (ofB (winsL need (List.replicate n 1)) (s : Int))).length by omega)
    rw [List.mem_filter, List.mem_range] at hm
    obtain ⟨hm, hp⟩ := hm
    simp only [ofB, Bool.and_eq_true, decide_eq_true_eq] at hp
    rw [hg m hm, decide_eq_true_eq] at hp
    omega
  · intro h
    obtain ⟨h1, h2⟩ := even_some hn hs
    have : 2 ^ s - 1 ∈ (List.range (2 ^ n)).filter (ofB (winsL need (List.replicate n 1)) (s : Int)) := by
      rw [List.mem_filter, List.mem_range]
      refine ⟨h1, ?_⟩
      simp only [ofB, Bool.and_eq_true, decide_eq_true_eq]
      rw [hg _ h1, h2, decide_eq_true_eq]
      exact ⟨h, rfl⟩
    have := List.length_pos_of_mem this
    omega
theorem tmod_nat (a b : Nat) : Int.tmod (a : Int) (b : Int) = ((a % b : Nat) : Int) := (Int.ofNat_tmod a b).symm
theorem impl_gcd.ev : ∀ (b a : Nat), Ev (fun k => impl_gcd.f k (a : Int) (b : Int)) ((Nat.gcd a b : Nat) : Int) := by
  intro b
  induction b using Nat.strongRecOn with
  | ind b ih =>
    intro a
    simp only [impl_gcd.f]
    refine ev_step ?_
    simp only [impl_gcd.l0]
    by_cases h : b = 0
    · subst h
      rw [ev_pos (by omega), ev_now, Nat.gcd_zero_right]
    · rw [ev_neg (by omega), tmod_nat, show Nat.gcd a b = Nat.gcd b (a % b) by rw [Nat.gcd_comm a b, Nat.gcd_rec b a, Nat.gcd_comm]]
      exact ih (a % b) (Nat.mod_lt _ (by omega)) b
theorem tmod_nat2 (a b : Nat) : Int.tmod (a : Int) (b : Int) = ((a % b : Nat) : Int) := (Int.ofNat_tmod a b).symm
theorem spec_pwCommon.ev : ∀ (b a : Nat), Ev (fun k => spec_pwCommon.f k (a : Int) (b : Int)) ((Nat.gcd a b : Nat) : Int) := by
  intro b
  induction b using Nat.strongRecOn with
  | ind b ih =>
    intro a
    simp only [spec_pwCommon.f]
    refine ev_step ?_
    simp only [spec_pwCommon.l0]
    by_cases h : b = 0
    · subst h
      rw [ev_neg (by omega), ev_now, Nat.gcd_zero_right]
    · rw [ev_pos (by omega), ev_neg (by omega), tmod_nat2, show Nat.gcd a b = Nat.gcd b (a % b) by rw [Nat.gcd_comm a b, Nat.gcd_rec b a, Nat.gcd_comm]]
      exact ih (a % b) (Nat.mod_lt _ (by omega)) b
theorem spec_weQuota.ev_l (W : List Bool) (ws : List Int) (hW : W.length ≤ 1000000) (hl : ws.length ≤ 60) (hw : ∀ x ∈ ws, 0 ≤ x ∧ x ≤ 1000000000) (hb : spLose W ws W.length ≤ 1000000000000) : ∀ (d m : Nat), m + d = W.length → Ev (fun k => spec_weQuota.l0 k (spLose W ws m) (spWin W ws m) W (W.length : Int) (m : Int) 0 ws) (spLose W ws W.length + 1, decide (spLose W ws W.length < spWin W ws W.length)) := by
  intro d
  induction d with
  | zero =>
    intro m h
    refine ev_step ?_
    simp only [spec_weQuota.l0]
    obtain rfl : m = W.length := by omega
    have h1 : -1 ≤ spLose W ws W.length := by
      rcases spLose_spec W ws (fun x hx => (hw x hx).1) W.length with ⟨e, _⟩ | ⟨e, _⟩ <;> omega
    rw [ev_neg (by omega), ev_now, w64 (by omega) (by omega)]
  | succ d ih =>
    intro m h
    refine ev_step ?_
    simp only [spec_weQuota.l0]
    have hm : m < W.length := by omega
    have hn := ih (m + 1) (by omega)
    have hr : rdOf false W (m : Int) = W.getD m false := rdOf_nat false W m
    rw [ev_pos (by omega), ev_pos (by omega), ev_pos (by omega), ev_bind (spec_voWeight.ev 0 ws m (by omega) hl hw), hr]
    have hwr : wrap64 ((m : Int) + 1) = ((m + 1 : Nat) : Int) := by rw [w64i (n := W.length) (by omega) (by omega) (by omega)]; omega
    simp only [spWin, spLose] at hn
    cases hb : W.getD m false with
    | false =>
      rw [hb] at hn
      simp only [Bool.false_eq_true, if_false] at hn
      rw [ev_neg (by simp)]
      refine ev_step ?_
      simp only [spec_weQuota.j1, Bool.false_eq_true, if_false, hwr]
      by_cases h1 : wsum ws m > spLose W ws m
      · rw [ev_pos h1]
        rw [Int.max_eq_right (by omega)] at hn
        exact hn
      · rw [ev_neg h1]
        rw [Int.max_eq_left (by omega)] at hn
        exact hn
    | true =>
      rw [hb] at hn
      simp only [if_true] at hn
      rw [ev_pos rfl]
      by_cases h0 : spWin W ws m < 0
      · rw [ev_pos h0]
        rw [if_pos (.inl h0)] at hn
        refine ev_step ?_
        simp only [spec_weQuota.j1, if_true, hwr]
        exact hn
      · rw [ev_neg h0]
        refine ev_step ?_
        simp only [spec_weQuota.j1, if_true, hwr, decide_eq_true_eq]
        by_cases h1 : wsum ws m < spWin W ws m
        · rw [if_pos (.inr h1)] at hn
          rw [ev_pos h1]
          exact hn
        · rw [if_neg (by omega)] at hn
          rw [ev_neg h1]
          exact hn
theorem spec_weQuota.ev (W : List Bool) (ws : List Int) (hW : W.length ≤ 1000000) (hl : ws.length ≤ 60) (hw : ∀ x ∈ ws, 0 ≤ x ∧ x ≤ 1000000000) (hb : spLose W ws W.length ≤ 1000000000000) : Ev (fun k => spec_weQuota.f k W ws) (spLose W ws W.length + 1, decide (spLose W ws W.length < spWin W ws W.length)) := by
  have := spec_weQuota.ev_l W ws hW hl hw hb W.length 0 (by omega)
  simpa [spec_weQuota.f, spWin, spLose] using this
def gfold (d : Nat) (l : List Int) : Nat := l.foldl (fun d x => Nat.gcd d x.toNat) d
theorem gfold_zero : ∀ (l : List Int) (d : Nat), gfold d l = 0 → d = 0 ∧ ∀ x ∈ l, x.toNat = 0 := by
  intro l
  induction l with
  | nil => intro d h; exact ⟨h, fun x hx => by simp at hx⟩
  | cons x l ih =>
    intro d h
    obtain ⟨h1, h2⟩ := ih (Nat.gcd d x.toNat) h
    obtain ⟨h3, h4⟩ := Nat.gcd_eq_zero_iff.1 h1
    refine ⟨h3, fun y hy => ?_⟩
    rcases List.mem_cons.1 hy with rfl | hy
    · exact h4
    · exact h2 y hy
theorem gfold_pos {q : Int} {ws : List Int} (h : GoodC q ws) : 0 < gfold 0 ws := by
  rcases Nat.eq_zero_or_pos (gfold 0 ws) with e | e
  · exfalso
    obtain ⟨_, hz⟩ := gfold_zero ws 0 e
    have hs : ∀ l : List Int, (∀ x ∈ l, x.toNat = 0) → l.sum ≤ 0 := by
      intro l
      induction l with
      | nil => intro _; simp
      | cons x l ih =>
        intro hx
        have h1 := hx x List.mem_cons_self
        have h2 := ih (fun y hy => hx y (List.mem_cons_of_mem _ hy))
        simp only [List.sum_cons]
        omega
    have := hs ws hz
    have := h.q1
    have := h.qs
    omega
  · exact e
def partW (ws : List Int) : List Int := ws.map fun x => ((x.toNat / gfold 0 ws : Nat) : Int)
def partV (q : Int) (ws : List Int) : Int × List Int × Bool := if goodB q ws = true then (spLose (winsL q ws) (partW ws) (2 ^ ws.length) + 1, partW ws, true) else (0, [], false)
theorem partW_in {ws : List Int} (hw : ∀ x ∈ ws, 0 ≤ x ∧ x ≤ 1000) : ∀ y ∈ partW ws, 0 ≤ y ∧ y ≤ 1000 := by
  intro y hy
  obtain ⟨x, hx, rfl⟩ := List.mem_map.1 hy
  have h1 := hw x hx
  have h2 := Nat.div_le_self x.toNat (gfold 0 ws)
  generalize x.toNat / gfold 0 ws = y at *
  omega
theorem spLose_le (W : List Bool) (ws : List Int) (hw : ∀ x ∈ ws, 0 ≤ x ∧ x ≤ 1000) (hl : ws.length ≤ 60) (m : Nat) : -1 ≤ spLose W ws m ∧ spLose W ws m ≤ 60000 := by
  have hs := sum_bounds ws 1000 hw
  rcases spLose_spec W ws (fun x hx => (hw x hx).1) m with ⟨e, _⟩ | ⟨e, ⟨j, _, _, e2⟩, _⟩
  · omega
  · have hb := wsum_bounds ws (fun x hx => (hw x hx).1) j
    omega
theorem tdiv_nat (x : Int) (g : Nat) (h : 0 ≤ x) : Int.tdiv x (g : Int) = ((x.toNat / g : Nat) : Int) := by
  obtain ⟨n, rfl⟩ := Int.eq_ofNat_of_zero_le h
  exact (Int.ofNat_tdiv n g).symm
theorem impl_PartCommittee.ev_l1 {q : Int} {ws : List Int} (h : GoodC q ws) : ∀ (d i : Nat), i + d = ws.length → Ev (fun k => impl_PartCommittee.l1 k (gfold 0 ws : Int) ws (ws.length : Int) (i : Int) q ws 0 ((partW ws).take i)) (spLose (winsL q ws) (partW ws) (2 ^ ws.length) + 1, partW ws, true) := by
  have hg := gfold_pos h
  have hp := partW_in h.w
  have hpl : (partW ws).length = ws.length := by simp [partW]
  have h9 := h.l9
  have hwl : (winsL q ws).length = 2 ^ ws.length := by simp [winsL]
  have hpw : 2 ^ ws.length ≤ 2 ^ 9 := Nat.pow_le_pow_right (by omega) h9
  intro d
  induction d with
  | zero =>
    intro i hi
    refine ev_step ?_
    simp only [impl_PartCommittee.l1]
    have hb := spLose_le (winsL q ws) (partW ws) hp (by omega) (2 ^ ws.length)
    have hs := impl_votes_spare.ev (ws.length : Int) (winsL q ws) (partW ws) (by omega) (by omega) (fun x hx => by have := hp x hx; omega)
    rw [hwl] at hs
    rw [ev_neg (by omega), List.take_of_length_le (by omega), ev_bind (impl_Committee_votes.ev q ws h9 (fun x hx => by have := h.w x hx; omega)), ev_bind hs, ev_now, w64 (by omega) (by omega)]
  | succ d ih =>
    intro i hi
    refine ev_step ?_
    simp only [impl_PartCommittee.l1]
    have hil : i < ws.length := by omega
    have hx := h.w ws[i] (List.getElem_mem hil)
    have hd := Nat.div_le_self ws[i].toNat (gfold 0 ws)
    rw [ev_pos (by omega), ev_pos (by omega), ev_pos (by omega), ev_neg (by omega), ev_pos (by simp; omega), rd_lt ws i hil, tdiv_nat _ _ hx.1, w64i (i := (i : Int)) (n := ws.length) (by omega) (by omega) (by omega), w64 (by generalize ws[i].toNat / gfold 0 ws = y at *; omega) (by generalize ws[i].toNat / gfold 0 ws = y at *; omega)]
    have := ih (i + 1) (by omega)
    rw [List.take_succ_eq_append_getElem (by omega)] at this
    simp only [partW, List.getElem_map] at this ⊢
    exact this
theorem spec_PartCommittee.ev_l1 {q : Int} {ws : List Int} (h : GoodC q ws) : ∀ (d i : Nat), i + d = ws.length → Ev (fun k => spec_PartCommittee.l1 k (gfold 0 ws : Int) ws (ws.length : Int) (i : Int) q ws 0 ((partW ws).take i)) (spLose (winsL q ws) (partW ws) (2 ^ ws.length) + 1, partW ws, true) := by
  have hg := gfold_pos h
  have hp := partW_in h.w
  have hpl : (partW ws).length = ws.length := by simp [partW]
  have h9 := h.l9
  have hwl : (winsL q ws).length = 2 ^ ws.length := by simp [winsL]
  have hpw : 2 ^ ws.length ≤ 2 ^ 9 := Nat.pow_le_pow_right (by omega) h9
  intro d
  induction d with
  | zero =>
    intro i hi
    refine ev_step ?_
    simp only [spec_PartCommittee.l1]
    have hb := spLose_le (winsL q ws) (partW ws) hp (by omega) (2 ^ ws.length)
    have hs := spec_weQuota.ev (winsL q ws) (partW ws) (by omega) (by omega) (fun x hx => by have := hp x hx; omega) (by rw [hwl]; omega)
    rw [hwl] at hs
    rw [ev_neg (by omega), List.take_of_length_le (by omega), ev_bind (spec_voWins.ev q ws h9 (fun x hx => by have := h.w x hx; omega)), ev_bind hs, ev_now]
  | succ d ih =>
    intro i hi
    refine ev_step ?_
    simp only [spec_PartCommittee.l1]
    have hil : i < ws.length := by omega
    have hx := h.w ws[i] (List.getElem_mem hil)
    have hd := Nat.div_le_self ws[i].toNat (gfold 0 ws)
    rw [ev_pos (by omega), ev_pos (by omega), ev_pos (by omega), ev_neg (by omega), ev_pos (by simp; omega), rd_lt ws i hil, tdiv_nat _ _ hx.1, w64i (i := (i : Int)) (n := ws.length) (by omega) (by omega) (by omega), w64 (by generalize ws[i].toNat / gfold 0 ws = y at *; omega) (by generalize ws[i].toNat / gfold 0 ws = y at *; omega)]
    have := ih (i + 1) (by omega)
    rw [List.take_succ_eq_append_getElem (by omega)] at this
    simp only [partW, List.getElem_map] at this ⊢
    exact this
theorem gfold_take (ws : List Int) (i : Nat) (h : i < ws.length) : gfold 0 (ws.take (i + 1)) = Nat.gcd (gfold 0 (ws.take i)) ws[i].toNat := by
  unfold gfold
  rw [List.take_succ_eq_append_getElem h, List.foldl_append]
  rfl
theorem impl_PartCommittee.ev_l0 {q : Int} {ws : List Int} (h : GoodC q ws) : ∀ (d i : Nat), i + d = ws.length → Ev (fun k => impl_PartCommittee.l0 k (gfold 0 (ws.take i) : Int) ws (ws.length : Int) (i : Int) q ws) (spLose (winsL q ws) (partW ws) (2 ^ ws.length) + 1, partW ws, true) := by
  have h9 := h.l9
  intro d
  induction d with
  | zero =>
    intro i hi
    refine ev_step ?_
    simp only [impl_PartCommittee.l0]
    rw [ev_neg (by omega), List.take_of_length_le (by omega)]
    exact impl_PartCommittee.ev_l1 h ws.length 0 (by omega)
  | succ d ih =>
    intro i hi
    refine ev_step ?_
    simp only [impl_PartCommittee.l0]
    have hil : i < ws.length := by omega
    have hx := h.w ws[i] (List.getElem_mem hil)
    have he : ws[i] = ((ws[i].toNat : Nat) : Int) := by omega
    have hgc := impl_gcd.ev ws[i].toNat (gfold 0 (ws.take i))
    rw [← he, ← gfold_take ws i hil] at hgc
    rw [ev_pos (by omega), ev_pos (by omega), ev_pos (by omega), rd_lt ws i hil, ev_bind hgc, w64i (i := (i : Int)) (n := ws.length) (by omega) (by omega) (by omega)]
    exact ih (i + 1) (by omega)
theorem spec_PartCommittee.ev_l0 {q : Int} {ws : List Int} (h : GoodC q ws) : ∀ (d i : Nat), i + d = ws.length → Ev (fun k => spec_PartCommittee.l0 k (gfold 0 (ws.take i) : Int) ws (ws.length : Int) (i : Int) q ws) (spLose (winsL q ws) (partW ws) (2 ^ ws.length) + 1, partW ws, true) := by
  have h9 := h.l9
  intro d
  induction d with
  | zero =>
    intro i hi
    refine ev_step ?_
    simp only [spec_PartCommittee.l0]
    rw [ev_neg (by omega), List.take_of_length_le (by omega)]
    exact spec_PartCommittee.ev_l1 h ws.length 0 (by omega)
  | succ d ih =>
    intro i hi
    refine ev_step ?_
    simp only [spec_PartCommittee.l0]
    have hil : i < ws.length := by omega
    have hx := h.w ws[i] (List.getElem_mem hil)
    have he : ws[i] = ((ws[i].toNat : Nat) : Int) := by omega
    have hgc := spec_pwCommon.ev (gfold 0 (ws.take i)) ws[i].toNat
    rw [← he, Nat.gcd_comm, ← gfold_take ws i hil] at hgc
    rw [ev_pos (by omega), ev_pos (by omega), ev_pos (by omega), rd_lt ws i hil, ev_bind hgc, w64i (i := (i : Int)) (n := ws.length) (by omega) (by omega) (by omega)]
    exact ih (i + 1) (by omega)
theorem impl_PartCommittee.ev (q : Int) (ws : List Int) (hl : ws.length ≤ 9223372036854775807) : Ev (fun k => impl_PartCommittee.f k q ws) (partV q ws) := by
  simp only [impl_PartCommittee.f]
  rw [ev_bind (impl_IsCommittee.ev q ws hl)]
  unfold partV
  cases hg : goodB q ws with
  | false => rw [ev_neg (by simp), ev_now, if_neg (by simp)]
  | true =>
    rw [ev_pos rfl, if_pos rfl]
    exact impl_PartCommittee.ev_l0 ((good_iff q ws).1 hg) ws.length 0 (by omega)
theorem spec_PartCommittee.ev (q : Int) (ws : List Int) (hl : ws.length ≤ 9223372036854775807) : Ev (fun k => spec_PartCommittee.f k q ws) (partV q ws) := by
  simp only [spec_PartCommittee.f]
  rw [ev_bind (spec_voGood.ev q ws hl)]
  unfold partV
  cases hg : goodB q ws with
  | false => rw [ev_neg (by simp), ev_now, if_neg (by simp)]
  | true =>
    rw [ev_pos rfl, if_pos rfl]
    exact spec_PartCommittee.ev_l0 ((good_iff q ws).1 hg) ws.length 0 (by omega)
theorem partV_len (q : Int) (ws : List Int) : (partV q ws).2.1.length ≤ 9 := by
  unfold partV
  split
  · next h => simpa [partW] using ((good_iff q ws).1 h).l9
  · simp
theorem wins_eq {q q' : Int} {ws ws' : List Int} (hl : ws.length = ws'.length) (h : ∀ m, m < 2 ^ ws.length → (q ≤ wsum ws m ↔ q' ≤ wsum ws' m)) : winsL q ws = winsL q' ws' := by
  unfold winsL
  rw [← hl]
  refine List.map_congr_left (fun m hm => ?_)
  rw [List.mem_range] at hm
  rw [Bool.eq_iff_iff, decide_eq_true_eq, decide_eq_true_eq]
  exact h m hm
theorem wsum_times (k : Int) : ∀ (ws : List Int) (m : Nat), wsum (ws.map (· * k)) m = wsum ws m * k
  | [], m => by simp [wsum]
  | w :: ws, m => by
    simp only [List.map_cons, wsum, wsum_times k ws]
    rw [Int.add_mul]
    split
    · rfl
    · rw [Int.zero_mul]
theorem times_wins {q k : Int} {ws : List Int} (hk : 1 ≤ k) : winsL ((q - 1) * k + 1) (ws.map (· * k)) = winsL q ws := by
  refine (wins_eq (by simp) (fun m hm => ?_)).symm
  rw [wsum_times]
  constructor
  · intro h
    have : (q - 1) * k < wsum ws m * k := Int.mul_lt_mul_of_pos_right (by omega) (by omega)
    omega
  · intro h
    have : q - 1 < wsum ws m := Int.lt_of_mul_lt_mul_right (a := k) (by omega) (by omega)
    omega
theorem gfold_times (k : Nat) : ∀ (ws : List Int) (d : Nat), (∀ x ∈ ws, 0 ≤ x) → gfold (d * k) (ws.map (· * (k : Int))) = gfold d ws * k
  | [], d, _ => rfl
  | w :: ws, d, h => by
    have hw := h w (by simp)
    have e : (w * (k : Int)).toNat = w.toNat * k := by
      obtain ⟨v, rfl⟩ := Int.eq_ofNat_of_zero_le hw
      rw [← Int.natCast_mul, Int.toNat_natCast, Int.toNat_natCast]
    show gfold (Nat.gcd (d * k) (w * (k : Int)).toNat) (ws.map (· * (k : Int))) = gfold (Nat.gcd d w.toNat) ws * k
    rw [e, Nat.gcd_mul_right]
    exact gfold_times k ws _ (fun x hx => h x (by simp [hx]))
theorem partW_times {k : Int} {ws : List Int} (h : ∀ x ∈ ws, 0 ≤ x) (hk : 1 ≤ k) : partW (ws.map (· * k)) = partW ws := by
  obtain ⟨c, rfl⟩ := Int.eq_ofNat_of_zero_le (show 0 ≤ k by omega)
  have hg := gfold_times c ws 0 h
  rw [Nat.zero_mul] at hg
  unfold partW
  rw [hg, List.map_map]
  refine List.map_congr_left (fun x hx => ?_)
  obtain ⟨v, rfl⟩ := Int.eq_ofNat_of_zero_le (h x hx)
  simp only [Function.comp_def]
  rw [← Int.natCast_mul, Int.toNat_natCast, Int.toNat_natCast, Nat.mul_div_mul_right _ _ (by omega)]
theorem partV_times {q k : Int} {ws : List Int} (hc : GoodC q ws) (hk : 1 ≤ k) (hg : goodB ((q - 1) * k + 1) (ws.map (· * k)) = true) : partV ((q - 1) * k + 1) (ws.map (· * k)) = partV q ws := by
  unfold partV
  rw [if_pos hg, if_pos ((good_iff q ws).2 hc), times_wins hk, partW_times hc.w0 hk, List.length_map]
theorem gfold_dvd : ∀ (l : List Int) (d : Nat), gfold d l ∣ d ∧ ∀ x ∈ l, gfold d l ∣ x.toNat
  | [], d => ⟨Nat.dvd_refl _, fun x hx => absurd hx (by simp)⟩
  | w :: ws, d => by
    have h := gfold_dvd ws (Nat.gcd d w.toNat)
    have e : gfold d (w :: ws) = gfold (Nat.gcd d w.toNat) ws := rfl
    rw [e]
    refine ⟨Nat.dvd_trans h.1 (Nat.gcd_dvd_left _ _), fun x hx => ?_⟩
    rcases List.mem_cons.1 hx with rfl | hx
    · exact Nat.dvd_trans h.1 (Nat.gcd_dvd_right _ _)
    · exact h.2 x hx
theorem wsum_part {ws : List Int} (hw : ∀ x ∈ ws, 0 ≤ x) (m : Nat) : wsum (partW ws) m * ((gfold 0 ws : Nat) : Int) = wsum ws m := by
  rw [← wsum_times]
  congr 1
  unfold partW
  rw [List.map_map]
  refine (List.map_congr_left (fun x hx => ?_)).trans (List.map_id ws)
  obtain ⟨v, rfl⟩ := Int.eq_ofNat_of_zero_le (hw x hx)
  have := (gfold_dvd ws 0).2 _ hx
  rw [Int.toNat_natCast] at this
  simp only [Function.comp_def, Int.toNat_natCast, id]
  rw [← Int.natCast_mul, Nat.div_mul_cancel this]
theorem lose_wins {q : Int} {ws vs : List Int} (hc : GoodC q ws) (hl : vs.length = ws.length) (hv : ∀ x ∈ vs, 0 ≤ x ∧ x ≤ 1000) (h : ∀ m m', m < 2 ^ ws.length → m' < 2 ^ ws.length → (winsL q ws).getD m false = true → (winsL q ws).getD m' false = false → wsum vs m' < wsum vs m) : winsL (spLose (winsL q ws) vs (2 ^ ws.length) + 1) vs = winsL q ws ∧ goodB (spLose (winsL q ws) vs (2 ^ ws.length) + 1) vs = true := by
  have h9 := hc.l9
  have hp := Nat.two_pow_pos ws.length
  have h0 := wins_none hc
  have hf := wins_full hc
  rcases spLose_spec (winsL q ws) vs (fun x hx => (hv x hx).1) (2 ^ ws.length) with ⟨_, e⟩ | ⟨e, ⟨j, hj, hjl, hje⟩, hall⟩
  · rw [e 0 hp] at h0
    cases h0
  · have hsame : ∀ m, m < 2 ^ ws.length → (spLose (winsL q ws) vs (2 ^ ws.length) + 1 ≤ wsum vs m ↔ q ≤ wsum ws m) := by
      intro m hm
      have hd := winsL_getD q ws m hm
      cases hw : (winsL q ws).getD m false with
      | true =>
        have h1 := h m j hm hj hw hjl
        rw [hw] at hd
        have := of_decide_eq_true hd.symm
        omega
      | false =>
        have h1 := hall m hm hw
        rw [hw] at hd
        have := of_decide_eq_false hd.symm
        omega
    refine ⟨wins_eq hl (fun m hm => hsame m (by rw [← hl]; exact hm)), (good_iff _ _).2 ⟨by rw [hl]; exact hc.l1, by rw [hl]; exact hc.l9, hv, by omega, ?_⟩⟩
    have h1 := h (2 ^ ws.length - 1) j (by omega) hj hf hjl
    have h2 := wsum_full vs
    rw [hl] at h2
    omega
theorem part_same {q : Int} {ws : List Int} (hc : GoodC q ws) : winsL (partV q ws).1 (partV q ws).2.1 = winsL q ws ∧ goodB (partV q ws).1 (partV q ws).2.1 = true := by
  rw [partV, if_pos ((good_iff q ws).2 hc)]
  refine lose_wins hc (by simp [partW]) (partW_in hc.w) (fun m m' hm hm' hw hl => ?_)
  rw [winsL_getD q ws m hm] at hw
  rw [winsL_getD q ws m' hm'] at hl
  have h1 := of_decide_eq_true hw
  have h2 := of_decide_eq_false hl
  have e1 := wsum_part hc.w0 m
  have e2 := wsum_part hc.w0 m'
  have hg := gfold_pos hc
  refine Int.lt_of_mul_lt_mul_right (a := ((gfold 0 ws : Nat) : Int)) ?_ (by omega)
  omega
theorem wsum_le : ∀ (ws vs : List Int) (m : Nat), ws.length = vs.length → (∀ i, ws.getD i 0 ≤ vs.getD i 0) → wsum ws m ≤ wsum vs m
  | [], [], m, _, _ => by simp [wsum]
  | w :: ws, v :: vs, m, hl, h => by
    have h0 := h 0
    have ih := wsum_le ws vs (m / 2) (by simpa using hl) (fun i => by simpa using h (i + 1))
    simp only [List.getD_cons_zero] at h0
    simp only [wsum]
    split <;> omega
theorem lackV_le {W : List Bool} {q : Int} {n : Nat} {out : List Int} (h : LowInv W q n out) (i : Nat) (hi : i < n) : lackV W q out i (2 ^ n) ≤ out.getD i 0 := by
  have := lack_spare h i hi
  omega
theorem lackV_anti {W : List Bool} {q : Int} {out out' : List Int} (h : ∀ m, wsum out m ≤ wsum out' m) (i N : Nat) : lackV W q out' i N ≤ lackV W q out i N := by
  obtain ⟨a1, a2, a3⟩ := lackV_spec W q out i N
  obtain ⟨b1, b2, b3⟩ := lackV_spec W q out' i N
  rcases b3 with e | ⟨j, hj, hs, e⟩
  · omega
  · have := a2 j hj hs
    have := h j
    omega
theorem getD_setI (l : List Int) (i j : Nat) (v : Int) (hi : i < l.length) : (l.set i v).getD j 0 = if j = i then v else l.getD j 0 := by
  rw [List.getD_eq_getElem?_getD, List.getElem?_set]
  by_cases e : i = j
  · subst e
    simp [hi]
  · rw [if_neg e, if_neg (fun h => e h.symm), List.getD_eq_getElem?_getD]
theorem lowN_len {q : Int} {ws : List Int} (h : GoodC q ws) (i : Nat) (hi : i ≤ ws.length) : (lowN (winsL q ws) q ws i).length = ws.length := (lowN_inv h i hi).len
theorem lowN_step {q : Int} {ws : List Int} (h : GoodC q ws) {i : Nat} (hi : i < ws.length) (j : Nat) : (lowN (winsL q ws) q ws (i + 1)).getD j 0 = if j = i then lackV (winsL q ws) q (lowN (winsL q ws) q ws i) i (2 ^ ws.length) else (lowN (winsL q ws) q ws i).getD j 0 := by
  show ((lowN (winsL q ws) q ws i).set i (lackV (winsL q ws) q (lowN (winsL q ws) q ws i) i (2 ^ ws.length))).getD j 0 = _
  exact getD_setI _ _ _ _ (by rw [lowN_len h i (by omega)]; exact hi)
theorem lowN_down {q : Int} {ws : List Int} (h : GoodC q ws) : ∀ (d i : Nat), i + d ≤ ws.length → ∀ j, (lowN (winsL q ws) q ws (i + d)).getD j 0 ≤ (lowN (winsL q ws) q ws i).getD j 0 := by
  intro d
  induction d with
  | zero => intro i _ j; exact Int.le_refl _
  | succ d ih =>
    intro i hi j
    have h1 := ih i (by omega) j
    have h2 := lowN_step h (i := i + d) (by omega) j
    rw [show i + (d + 1) = i + d + 1 by omega, h2]
    split
    · next e =>
      subst e
      have := lackV_le (lowN_inv h (i + d) (by omega)) (i + d) (by omega)
      omega
    · exact h1
theorem lowN_keep {q : Int} {ws : List Int} (h : GoodC q ws) {j : Nat} : ∀ (d i : Nat), j < i → i + d ≤ ws.length → (lowN (winsL q ws) q ws (i + d)).getD j 0 = (lowN (winsL q ws) q ws i).getD j 0 := by
  intro d
  induction d with
  | zero => intro i _ _; rfl
  | succ d ih =>
    intro i hj hi
    have h2 := lowN_step h (i := i + d) (by omega) j
    rw [show i + (d + 1) = i + d + 1 by omega, h2, if_neg (by omega), ih i hj (by omega)]
theorem low_own {q : Int} {ws : List Int} (h : GoodC q ws) {j : Nat} (hj : j < ws.length) : lackV (winsL q ws) q (lowN (winsL q ws) q ws ws.length) j (2 ^ ws.length) = (lowN (winsL q ws) q ws ws.length).getD j 0 := by
  have h1 := lackV_le (lowN_inv h ws.length (Nat.le_refl _)) j hj
  have h2 := lowN_keep h (j := j) (ws.length - (j + 1)) (j + 1) (by omega) (by omega)
  rw [show j + 1 + (ws.length - (j + 1)) = ws.length by omega, lowN_step h hj j, if_pos rfl] at h2
  have h3 := lackV_anti (W := winsL q ws) (q := q) (out := lowN (winsL q ws) q ws ws.length) (out' := lowN (winsL q ws) q ws j) (fun m => wsum_le _ _ m (by rw [lowN_len h _ (Nat.le_refl _), lowN_len h j (by omega)]) (fun i => by
    have := lowN_down h (ws.length - j) j (by omega) i
    rwa [show j + (ws.length - j) = ws.length by omega] at this)) j (2 ^ ws.length)
  omega
theorem low_below {q : Int} {ws : List Int} (h : GoodC q ws) (j : Nat) : (lowN (winsL q ws) q ws ws.length).getD j 0 ≤ ws.getD j 0 := by
  have := lowN_down h ws.length 0 (by omega) j
  rw [Nat.zero_add] at this
  exact this
theorem low_same {q : Int} {ws : List Int} (h : GoodC q ws) : winsL q (lowN (winsL q ws) q ws ws.length) = winsL q ws ∧ goodB q (lowN (winsL q ws) q ws ws.length) = true := by
  have hi := lowN_inv h ws.length (Nat.le_refl _)
  have hl := hi.len
  have hp := Nat.two_pow_pos ws.length
  have hle : ∀ m, wsum (lowN (winsL q ws) q ws ws.length) m ≤ wsum ws m := fun m => wsum_le _ _ m hl (low_below h)
  refine ⟨wins_eq hl (fun m hm => ?_), (good_iff _ _).2 ⟨by rw [hl]; exact h.l1, by rw [hl]; exact h.l9, hi.w, h.q1, ?_⟩⟩
  · rw [hl] at hm
    have h1 := hle m
    constructor
    · intro h2
      omega
    · intro h2
      refine hi.win m hm ?_
      rw [winsL_getD q ws m hm, decide_eq_true h2]
  · have h1 := hi.win (2 ^ ws.length - 1) (by omega) (wins_full h)
    have h2 := wsum_full (lowN (winsL q ws) q ws ws.length)
    rw [hl] at h2
    omega
theorem lowV_again {q : Int} {ws : List Int} (h : GoodC q ws) : lowV q (lowN (winsL q ws) q ws ws.length) = (q, lowN (winsL q ws) q ws ws.length, true) := by
  obtain ⟨hw, hg⟩ := low_same h
  have hl := lowN_len h ws.length (Nat.le_refl _)
  rw [lowV, if_pos hg, hw, hl]
  have : ∀ i, i ≤ ws.length → lowN (winsL q ws) q (lowN (winsL q ws) q ws ws.length) i = lowN (winsL q ws) q ws ws.length := by
    intro i
    induction i with
    | zero => intro _; rfl
    | succ i ih =>
      intro hi
      show (lowN (winsL q ws) q (lowN (winsL q ws) q ws ws.length) i).set i (lackV (winsL q ws) q (lowN (winsL q ws) q (lowN (winsL q ws) q ws ws.length) i) i (2 ^ (lowN (winsL q ws) q ws ws.length).length)) = _
      rw [ih (by omega), hl, low_own h (show i < ws.length by omega)]
      have hi2 : i < (lowN (winsL q ws) q ws ws.length).length := by omega
      rw [List.getD_eq_getElem?_getD, List.getElem?_eq_getElem hi2, Option.getD_some, List.set_getElem_self]
  rw [this ws.length (Nat.le_refl _)]
theorem perm_sumI {l l' : List Int} (h : l.Perm l') : l.sum = l'.sum := by
  induction h with
  | nil => rfl
  | cons x _ ih => rw [List.sum_cons, List.sum_cons, ih]
  | swap x y l => simp only [List.sum_cons]; omega
  | trans _ _ a b => exact a.trans b
theorem compact_up {zs : List Int} (hs : zs.Pairwise (· ≤ ·)) : (Go.Lib.compact zs).Pairwise (· < ·) ∧ ∀ x, x ∈ Go.Lib.compact zs ↔ x ∈ zs := by
  have hget : ∀ j (h : j < zs.length), zs.toArray[j]! = zs[j] := fun j h => by
    rw [getElem!_pos zs.toArray j (by simpa using h)]
    simp
  have hle : ∀ i j (hij : i ≤ j) (hj : j < zs.length), zs[i]'(by omega) ≤ zs[j] := fun i j hij hj => by
    rcases Nat.lt_or_eq_of_le hij with h | h
    · exact List.pairwise_iff_getElem.1 hs i j (by omega) hj h
    · subst h; exact Int.le_refl _
  have key : ∀ m, m ≤ zs.length → (Go.Lib.compactUpTo zs.toArray m).Pairwise (· < ·) ∧ (∀ x ∈ Go.Lib.compactUpTo zs.toArray m, ∃ (j : Nat) (hj : j < zs.length), j < m ∧ zs[j] = x) ∧ ∀ j (hj : j < zs.length), j < m → zs[j] ∈ Go.Lib.compactUpTo zs.toArray m := by
    intro m
    induction m with
    | zero => exact fun _ => ⟨by simp [Go.Lib.compactUpTo], fun x hx => by simp [Go.Lib.compactUpTo] at hx, fun j _ hj => absurd hj (Nat.not_lt_zero j)⟩
    | succ m ih =>
      intro hm
      obtain ⟨h1, h2, h3⟩ := ih (by omega)
      have hmz : m < zs.length := by omega
      rw [Go.Lib.compactUpTo_succ]
      by_cases c : 0 < m ∧ zs.toArray[m]! = zs.toArray[m - 1]!
      · rw [Go.Lib.keeps_neg c.1 c.2]
        simp only [Bool.false_eq_true, if_false, List.append_nil]
        refine ⟨h1, fun x hx => ?_, fun j hj hjm => ?_⟩
        · obtain ⟨j, hj, hjm, e⟩ := h2 x hx
          exact ⟨j, hj, by omega, e⟩
        · rcases Nat.lt_or_eq_of_le (show j ≤ m by omega) with h | h
          · exact h3 j hj h
          · subst h
            have := h3 (j - 1) (by omega) (by omega)
            have e := c.2
            rw [hget j hj, hget (j - 1) (by omega)] at e
            rw [e]
            exact this
      · have hk : Go.Lib.keeps zs.toArray m = true := by
          by_cases h0 : m = 0
          · subst h0; exact Go.Lib.keeps_lt_one _ 0 (by omega)
          · exact Go.Lib.keeps_pos (fun e => c ⟨by omega, e⟩)
        rw [hk]
        simp only [if_true]
        refine ⟨?_, fun x hx => ?_, fun j hj hjm => ?_⟩
        · rw [List.pairwise_append]
          refine ⟨h1, List.pairwise_singleton _ _, fun x hx y hy => ?_⟩
          rw [List.mem_singleton] at hy
          subst hy
          obtain ⟨j, hj, hjm, e⟩ := h2 x hx
          have h0 : 0 < m := by omega
          have hne : ¬ zs.toArray[m]! = zs.toArray[m - 1]! := fun e => c ⟨h0, e⟩
          rw [hget m hmz, hget (m - 1) (by omega)] at hne
          rw [hget m hmz, ← e]
          have a1 := hle j (m - 1) (by omega) (by omega)
          have a2 := hle (m - 1) m (by omega) hmz
          omega
        · rcases List.mem_append.1 hx with hx | hx
          · obtain ⟨j, hj, hjm, e⟩ := h2 x hx
            exact ⟨j, hj, by omega, e⟩
          · rw [List.mem_singleton] at hx
            exact ⟨m, hmz, by omega, by rw [hx, hget m hmz]⟩
        · rcases Nat.lt_or_eq_of_le (show j ≤ m by omega) with h | h
          · exact List.mem_append_left _ (h3 j hj h)
          · subst h
            refine List.mem_append_right _ ?_
            rw [hget j hj]
            exact List.mem_singleton.2 rfl
  obtain ⟨h1, h2, h3⟩ := key zs.length (Nat.le_refl _)
  refine ⟨h1, fun x => ⟨fun hx => ?_, fun hx => ?_⟩⟩
  · obtain ⟨j, hj, _, rfl⟩ := h2 x hx
    exact List.getElem_mem hj
  · obtain ⟨j, hj, rfl⟩ := List.mem_iff_getElem.1 hx
    exact h3 j hj hj
def allSums (ws : List Int) : List Int := (List.range (2 ^ ws.length)).map fun m => wsum ws m
def sumsL (ws : List Int) : List Int := Go.Lib.compact ((allSums ws).mergeSort fun x y => decide (x ≤ y))
theorem sumsL_spec (ws : List Int) : (sumsL ws).Pairwise (· < ·) ∧ ∀ x, x ∈ sumsL ws ↔ ∃ m, m < 2 ^ ws.length ∧ wsum ws m = x := by
  have hs : ((allSums ws).mergeSort fun x y => decide (x ≤ y)).Pairwise (· ≤ ·) := by
    have := List.pairwise_mergeSort (le := fun x y : Int => decide (x ≤ y)) (fun a b c h1 h2 => by simp at *; omega) (fun a b => by simp; omega) (allSums ws)
    exact this.imp (fun h => by simpa using h)
  obtain ⟨h1, h2⟩ := compact_up hs
  refine ⟨h1, fun x => ?_⟩
  rw [sumsL, h2, (List.mergeSort_perm _ _).mem_iff, allSums, List.mem_map]
  simp only [List.mem_range]
theorem sumsL_len (ws : List Int) : (sumsL ws).length ≤ 2 ^ ws.length := by
  have h : ∀ m, (Go.Lib.compactUpTo (((allSums ws).mergeSort fun x y => decide (x ≤ y)).toArray) m).length ≤ m := by
    intro m
    induction m with
    | zero => simp [Go.Lib.compactUpTo]
    | succ m ih =>
      rw [Go.Lib.compactUpTo_succ, List.length_append]
      split <;> simp <;> omega
  have h2 := h ((allSums ws).mergeSort fun x y => decide (x ≤ y)).length
  rw [List.length_mergeSort] at h2
  simp only [allSums, List.length_map, List.length_range] at h2
  have e : sumsL ws = Go.Lib.compactUpTo (((allSums ws).mergeSort fun x y => decide (x ≤ y)).toArray) ((allSums ws).mergeSort fun x y => decide (x ≤ y)).length := rfl
  rw [e, List.length_mergeSort]
  simp only [allSums, List.length_map, List.length_range]
  exact h2
theorem sums_win {q : Int} {ws : List Int} (hc : GoodC q ws) : ∃ (i : Nat) (hi : i < (sumsL ws).length), 1 ≤ i ∧ (sumsL ws)[i] = spWin (winsL q ws) ws (2 ^ ws.length) ∧ (sumsL ws)[i - 1] = spLose (winsL q ws) ws (2 ^ ws.length) ∧ q ≤ (sumsL ws)[i] ∧ ∀ j (hj : j < (sumsL ws).length), j < i → (sumsL ws)[j] < q := by
  obtain ⟨hup, hmem⟩ := sumsL_spec ws
  have hlt := List.pairwise_iff_getElem.1 hup
  have hp := Nat.two_pow_pos ws.length
  have h0 := wins_none hc
  have hf := wins_full hc
  have hq := hc.q1
  rcases spWin_spec (winsL q ws) ws hc.w0 (2 ^ ws.length) with ⟨_, e⟩ | ⟨_, ⟨mw, hmw, hww, eww⟩, hwall⟩
  · rw [e _ (by omega)] at hf; cases hf
  rcases spLose_spec (winsL q ws) ws hc.w0 (2 ^ ws.length) with ⟨_, e⟩ | ⟨_, ⟨ml, hml, hwl, ewl⟩, hlall⟩
  · rw [e 0 hp] at h0; cases h0
  have vw := winsL_getD q ws mw hmw
  rw [hww] at vw
  have vw := of_decide_eq_true vw.symm
  have vl := winsL_getD q ws ml hml
  rw [hwl] at vl
  have vl := of_decide_eq_false vl.symm
  obtain ⟨i, hi, ei⟩ := List.mem_iff_getElem.1 ((hmem _).2 ⟨mw, hmw, eww⟩)
  obtain ⟨j1, hj1, ej1⟩ := List.mem_iff_getElem.1 ((hmem _).2 ⟨ml, hml, ewl⟩)
  have hbel : ∀ j (hj : j < (sumsL ws).length), j < i → (sumsL ws)[j] < q := by
    intro j hj hji
    have h1 := hlt j i hj hi hji
    obtain ⟨m, hm, em⟩ := (hmem (sumsL ws)[j]).1 (List.getElem_mem hj)
    refine Classical.byContradiction fun h2 => ?_
    have h3 := hwall m hm (by rw [winsL_getD q ws m hm, decide_eq_true (by omega)])
    omega
  have hj1i : j1 < i := by
    refine Classical.byContradiction fun h2 => ?_
    rcases Nat.lt_or_eq_of_le (show i ≤ j1 by omega) with h | h
    · have := hlt i j1 hi hj1 h
      omega
    · subst h; omega
  refine ⟨i, hi, by omega, ei, ?_, by omega, hbel⟩
  have h4 := hbel (i - 1) (by omega) (by omega)
  obtain ⟨m, hm, em⟩ := (hmem (sumsL ws)[i - 1]).1 (List.getElem_mem (by omega))
  have h5 := hlall m hm (by rw [winsL_getD q ws m hm, decide_eq_false (by omega)])
  have h6 : (sumsL ws)[j1] ≤ (sumsL ws)[i - 1] := by
    rcases Nat.lt_or_eq_of_le (show j1 ≤ i - 1 by omega) with h | h
    · exact Int.le_of_lt (hlt j1 (i - 1) hj1 (by omega) h)
    · subst h; exact Int.le_refl _
  omega
theorem impl_Committee_sums.ev {q : Int} {ws : List Int} (hc : GoodC q ws) : Ev (fun k => impl_Committee_sums.f k q ws) (sumsL ws) := by
  have h9 := hc.l9
  have hp := hc.pow
  have hlen : (allSums ws).length = 2 ^ ws.length := by simp [allSums]
  have key : ∀ (d i : Nat), i + d = 2 ^ ws.length → Ev (fun k => impl_Committee_sums.l0 k ((allSums ws).take i) ((2 ^ ws.length : Nat) : Int) (i : Int) q ws) (sumsL ws) := by
    intro d
    induction d with
    | zero =>
      intro i h
      refine ev_step ?_
      simp only [impl_Committee_sums.l0]
      rw [ev_neg (by omega), List.take_of_length_le (by omega)]
      have hs : slices_Sort_int_int.f (allSums ws) = some ((allSums ws).mergeSort fun x y => decide (x ≤ y)) := if_pos (by omega)
      have hl2 : ((allSums ws).mergeSort fun x y => decide (x ≤ y)).length = 2 ^ ws.length := by rw [List.length_mergeSort, hlen]
      have hk : slices_Compact_int_int.f ((allSums ws).mergeSort fun x y => decide (x ≤ y)) = some (sumsL ws) := if_pos (by omega)
      rw [ev_bind (ev_of hs), ev_bind (ev_of hk), ev_now]
    | succ d ih =>
      intro i h
      refine ev_step ?_
      simp only [impl_Committee_sums.l0]
      have hi : i < (allSums ws).length := by omega
      have hih := ih (i + 1) (by omega)
      have e : (allSums ws)[i] = wsum ws i := by simp [allSums]
      rw [List.take_succ_eq_append_getElem hi, e, show ((i + 1 : Nat) : Int) = (i : Int) + 1 by omega] at hih
      rw [ev_pos (by omega), ev_bind (impl_Committee_weight.ev q ws i (by omega) (by omega) hc.wb), ev_pos (by rw [List.length_take]; omega), w64 (by omega) (by omega)]
      exact hih
  have h0 := key (2 ^ ws.length) 0 (by omega)
  simp only [impl_Committee_sums.f]
  rw [shl_one ws.length (by omega)]
  exact h0
def qrV (q : Int) (ws : List Int) : Int × Int × Bool := if goodB q ws = true then (spLose (winsL q ws) ws (2 ^ ws.length) + 1, spWin (winsL q ws) ws (2 ^ ws.length), true) else (0, 0, false)
theorem impl_QuotaRange.ev (q : Int) (ws : List Int) (hl : ws.length ≤ 9223372036854775807) : Ev (fun k => impl_QuotaRange.f k q ws) (qrV q ws) := by
  simp only [impl_QuotaRange.f]
  rw [ev_bind (impl_IsCommittee.ev q ws hl)]
  unfold qrV
  cases hg : goodB q ws with
  | false => rw [ev_neg (by decide), ev_now]; rfl
  | true =>
    have hc := (good_iff q ws).1 hg
    have hs := hc.sum
    obtain ⟨hb1, hb2⟩ := spare_bounds hc
    rw [ev_pos rfl, ev_bind (impl_Committee_sums.ev hc), if_pos rfl]
    obtain ⟨i, hi, h1, e1, e2, hq, hbel⟩ := sums_win hc
    have hidx : idxOf (impl_QuotaRange.p q) (sumsL ws) = (i : Int) := by
      refine idxOf_hit _ _ _ (by omega) (by omega) ?_ (fun j hj => ?_)
      · rw [rd_lt _ i hi]
        exact decide_eq_true hq
      · have hj2 : j < (sumsL ws).length := by omega
        rw [List.getD_eq_getElem?_getD, List.getElem?_eq_getElem hj2, Option.getD_some]
        exact decide_eq_false (by have := hbel j hj2 (by omega); omega)
    have hlen : (sumsL ws).length ≤ 512 := by
      have hp := hc.pow
      exact Nat.le_trans (sumsL_len ws) hp.2
    have ew : wrap64 ((i : Int) - 1) = ((i - 1 : Nat) : Int) := by rw [w64 (by omega) (by omega)]; omega
    refine ev_of ?_
    simp only [impl_QuotaRange.g, hidx, ew]
    rw [if_pos (by omega), if_pos (by omega), if_pos (by omega), if_pos (by omega), rd_lt _ i hi, rd_lt _ (i - 1) (by omega), e1, e2, w64 (by omega) (by omega)]
theorem slices_Equal_bool_bool.ev_l (a b : List Bool) (hl : a.length ≤ 9223372036854775807) (hab : a.length = b.length) : ∀ (d i : Nat), i + d = a.length → Ev (fun k => slices_Equal_bool_bool.l0 k a b (a.length : Int) (i : Int)) (decide (a.drop i = b.drop i)) := by
  intro d
  induction d with
  | zero =>
    intro i h
    refine ev_step ?_
    simp only [slices_Equal_bool_bool.l0]
    rw [ev_neg (by omega), ev_now, List.drop_of_length_le (by omega), List.drop_of_length_le (by omega)]
    rfl
  | succ d ih =>
    intro i h
    refine ev_step ?_
    simp only [slices_Equal_bool_bool.l0]
    have hi : i < a.length := by omega
    have hib : i < b.length := by omega
    have e : decide (a.drop i = b.drop i) = (decide (a[i] = b[i]) && decide (a.drop (i + 1) = b.drop (i + 1))) := by
      rw [List.drop_eq_getElem_cons hi, List.drop_eq_getElem_cons hib, Bool.eq_iff_iff]
      simp only [Bool.and_eq_true, decide_eq_true_eq, List.cons.injEq]
    rw [ev_pos (by omega), ev_pos (by omega), ev_pos (by omega), ev_pos (by omega), rdOf_lt false a i hi, rdOf_lt false b i hib, w64i (n := a.length) (by omega) (by omega) hl, e]
    by_cases c : a[i] = b[i]
    · rw [ev_neg (by simp [c]), decide_eq_true c, Bool.true_and]
      exact ih (i + 1) (by omega)
    · rw [ev_pos (by simp [c]), ev_now, decide_eq_false c]
      rfl
theorem slices_Equal_bool_bool.ev (a b : List Bool) (hl : a.length ≤ 9223372036854775807) : Ev (fun k => slices_Equal_bool_bool.f k a b) (decide (a = b)) := by
  simp only [slices_Equal_bool_bool.f]
  by_cases c : (a.length : Int) = (b.length : Int)
  · rw [ev_pos c]
    exact slices_Equal_bool_bool.ev_l a b hl (by omega) a.length 0 (by omega)
  · rw [ev_neg c, ev_now, decide_eq_false (fun h => c (by rw [h]))]
def asmV (q : Int) (ws : List Int) (q' : Int) (ws' : List Int) : Bool × Bool := if goodB q ws = true ∧ goodB q' ws' = true then (decide (winsL q ws = winsL q' ws'), true) else (false, false)
theorem impl_AreSameVotes.ev (q : Int) (ws : List Int) (q' : Int) (ws' : List Int) (hl : ws.length ≤ 9223372036854775807) (hl' : ws'.length ≤ 9223372036854775807) : Ev (fun k => impl_AreSameVotes.f k q ws q' ws') (asmV q ws q' ws') := by
  have hf : Ev (fun k => impl_AreSameVotes.j0 k true q ws q' ws') (false, false) := by
    refine ev_step ?_
    simp only [impl_AreSameVotes.j0]
    rw [ev_pos trivial, ev_now]
  simp only [impl_AreSameVotes.f]
  rw [ev_bind (impl_IsCommittee.ev q ws hl)]
  unfold asmV
  cases h1 : goodB q ws with
  | false =>
    rw [ev_neg (by decide), if_neg (by simp)]
    exact hf
  | true =>
    rw [ev_pos rfl, ev_bind (impl_IsCommittee.ev q' ws' hl')]
    cases h2 : goodB q' ws' with
    | false =>
      rw [if_neg (by simp)]
      exact hf
    | true =>
      have c1 := (good_iff q ws).1 h1
      have c2 := (good_iff q' ws').1 h2
      have hw := winsL_length q ws
      have hp := c1.pow
      refine ev_step ?_
      simp only [impl_AreSameVotes.j0, Bool.not_true]
      rw [ev_neg (by decide), ev_bind (impl_Committee_votes.ev q ws c1.l9 c1.wb), ev_bind (impl_Committee_votes.ev q' ws' c2.l9 c2.wb)]
      have hs : Ev (fun k => impl_votes_same.f k (ws.length : Int) (winsL q ws) (ws'.length : Int) (winsL q' ws')) (decide (winsL q ws = winsL q' ws')) := by
        simp only [impl_votes_same.f]
        rw [ev_bind (slices_Equal_bool_bool.ev (winsL q ws) (winsL q' ws') (by omega)), ev_now]
      rw [ev_bind hs, ev_now, if_pos (by simp)]
def downL (xs : List Int) : Prop := xs.Pairwise fun a b => b ≤ a
theorem downL_sorted {xs ys : List Int} (hp : ys.Perm xs) (h : downL ys) : ys = impl_SortCommittee.sortD xs := by
  refine impl_SortCommittee.sortD_of hp (List.Pairwise.imp (fun {a b} hab => ?_) h)
  rw [impl_SortCommittee.lt]
  exact decide_eq_false (by omega)
theorem downL_insert {xs : List Int} {s : Int} {y : Nat} (h : downL xs) (h1 : ∀ j (hj : j < xs.length), j < y → s ≤ xs[j]) (h2 : ∀ hy : y < xs.length, xs[y] < s) : downL (xs.take y ++ s :: xs.drop y) := by
  have hp := h
  rw [← List.take_append_drop y xs, downL, List.pairwise_append] at hp
  rw [downL, List.pairwise_append, List.pairwise_cons]
  have hd : ∀ b ∈ xs.drop y, b ≤ s := by
    intro b hb
    obtain ⟨j, hj, rfl⟩ := List.getElem_of_mem hb
    rw [List.length_drop] at hj
    have hy : y < xs.length := by omega
    rw [List.getElem_drop]
    have h3 := h2 hy
    rcases Nat.eq_zero_or_pos j with e | e
    · subst e
      simp only [Nat.add_zero]
      omega
    · rw [downL, List.pairwise_iff_getElem] at h
      have := h y (y + j) hy (by omega) (by omega)
      omega
  refine ⟨hp.1, ⟨hd, hp.2.1⟩, fun a ha b hb => ?_⟩
  obtain ⟨j, hj, rfl⟩ := List.getElem_of_mem ha
  rw [List.length_take] at hj
  rw [List.getElem_take]
  have h3 := h1 j (by omega) (by omega)
  rcases List.mem_cons.1 hb with rfl | hb
  · exact h3
  · have := hd b hb
    omega
def sortV (q : Int) (ws : List Int) : Int × List Int × Bool := if goodB q ws = true then (q, impl_SortCommittee.sortD ws, true) else (0, [], false)
theorem spec_SortCommittee.own (l : List Int) (h : l.length < 17592186044416) : spec_l1Own.f l = some l := by
  simp [spec_l1Own.f, h]
theorem spec_SortCommittee.ev_l1 (q : Int) (ws : List Int) (h9 : ws.length ≤ 9) (i : Nat) (hi : i < ws.length) (out : List Int) (ho : out.length = i) (hup : downL out) (hpm : out.Perm (ws.take i)) (hnext : ∀ out' : List Int, out'.length = i + 1 → downL out' → out'.Perm (ws.take (i + 1)) → Ev (fun k => spec_SortCommittee.l0 k ws (ws.length : Int) ((i : Int) + 1) q out') (q, impl_SortCommittee.sortD ws, true)) : ∀ (d y : Nat), y + d = out.length → (∀ j (hj : j < out.length), j < y → ws[i] ≤ out[j]) → Ev (fun k => spec_SortCommittee.l1 k ws[i] (y : Int) ws (ws.length : Int) (i : Int) q out) (q, impl_SortCommittee.sortD ws, true) := by
  have hgo : ∀ y : Nat, y ≤ out.length → (∀ j (hj : j < out.length), j < y → ws[i] ≤ out[j]) → (∀ hy : y < out.length, out[y] < ws[i]) → Ev (fun k => (spec_l1Own.f (out.take ((y : Int)).toNat)).bind fun t => if t.length < 17592186044416 then ((some (t ++ [ws[i]] : List Int)).bind fun y114 => ((some (out.drop ((y : Int)).toNat : List Int)).bind fun y117 => if y114.length + y117.length < 17592186044416 then spec_SortCommittee.l0 k ws (ws.length : Int) (wrap64 ((i : Int) + 1)) q (y114 ++ y117) else none)) else none) (q, impl_SortCommittee.sortD ws, true) := by
    intro y hy h1 h2
    rw [Int.toNat_natCast]
    simp only [ev_bind (ev_of (spec_SortCommittee.own (out.take y) (by rw [List.length_take]; omega))), Option.bind_some]
    rw [ev_pos (by rw [List.length_take]; omega), ev_pos (by simp only [List.length_append, List.length_take, List.length_drop, List.length_cons, List.length_nil]; omega), w64 (by omega) (by omega)]
    rw [List.append_assoc, List.singleton_append]
    refine hnext _ ?_ (downL_insert hup h1 h2) ?_
    · rw [List.length_append, List.length_cons, List.length_take, List.length_drop]
      omega
    · refine List.perm_middle.trans ?_
      rw [List.take_append_drop, List.take_succ_eq_append_getElem hi]
      exact (List.Perm.cons _ hpm).trans (List.perm_append_singleton _ _).symm
  intro d
  induction d with
  | zero =>
    intro y hy h1
    refine ev_step ?_
    simp only [spec_SortCommittee.l1]
    rw [ev_neg (by omega), ev_pos (by omega), ev_pos (by omega)]
    exact hgo y (by omega) h1 (fun h => by omega)
  | succ d ih =>
    intro y hy h1
    refine ev_step ?_
    simp only [spec_SortCommittee.l1]
    have hyl : y < out.length := by omega
    rw [ev_pos (by omega), ev_pos (by omega), rd_lt out y hyl]
    by_cases hc : out[y] ≥ ws[i]
    · rw [ev_pos hc, w64 (by omega) (by omega)]
      refine ih (y + 1) (by omega) (fun j hj hjy => ?_)
      rcases Nat.lt_or_ge j y with h | h
      · exact h1 j hj h
      · obtain rfl : j = y := by omega
        exact hc
    · rw [ev_neg hc, ev_pos (by omega)]
      exact hgo y (by omega) h1 (fun _ => by omega)
theorem spec_SortCommittee.ev_l0 (q : Int) (ws : List Int) (h9 : ws.length ≤ 9) : ∀ (d i : Nat), i + d = ws.length → ∀ out : List Int, out.length = i → downL out → out.Perm (ws.take i) → Ev (fun k => spec_SortCommittee.l0 k ws (ws.length : Int) (i : Int) q out) (q, impl_SortCommittee.sortD ws, true) := by
  intro d
  induction d with
  | zero =>
    intro i hi out ho hd hp
    refine ev_step ?_
    simp only [spec_SortCommittee.l0]
    rw [ev_neg (by omega), ev_now]
    rw [List.take_of_length_le (by omega)] at hp
    rw [downL_sorted hp hd]
  | succ d ih =>
    intro i hi out ho hd hp
    refine ev_step ?_
    simp only [spec_SortCommittee.l0]
    have hil : i < ws.length := by omega
    rw [ev_pos (by omega), ev_pos (by omega), ev_pos (by omega), rd_lt ws i hil]
    refine spec_SortCommittee.ev_l1 q ws h9 i hil out ho hd hp (fun out' h1 h2 h3 => ?_) out.length 0 (by omega) (fun j _ h => by omega)
    exact ih (i + 1) (by omega) out' h1 h2 h3
theorem spec_SortCommittee.ev (q : Int) (ws : List Int) (hl : ws.length ≤ 9223372036854775807) : Ev (fun k => spec_SortCommittee.f k q ws) (sortV q ws) := by
  simp only [spec_SortCommittee.f]
  rw [ev_bind (spec_voGood.ev q ws hl)]
  unfold sortV
  cases hg : goodB q ws with
  | false => rw [ev_neg (by simp), ev_now, if_neg (by simp)]
  | true =>
    rw [ev_pos rfl, if_pos rfl]
    exact spec_SortCommittee.ev_l0 q ws ((good_iff q ws).1 hg).l9 ws.length 0 (by omega) [] rfl List.Pairwise.nil (List.Perm.refl _)
theorem impl_SortCommittee.ev (q : Int) (ws : List Int) (hl : ws.length ≤ 9223372036854775807) : Ev (fun k => impl_SortCommittee.f k q ws) (sortV q ws) := by
  simp only [impl_SortCommittee.f]
  rw [ev_bind (impl_IsCommittee.ev q ws hl)]
  unfold sortV
  cases hg : goodB q ws with
  | false => rw [ev_neg (by simp), ev_now, if_neg (by simp)]
  | true =>
    have h9 := ((good_iff q ws).1 hg).l9
    have hcl : slices_Clone_int_int.f ws = some ws := by
      have : ws.length < 17592186044416 := by omega
      simp [slices_Clone_int_int.f, this]
    rw [ev_pos rfl, if_pos rfl]
    simp only [hcl, Option.bind_some]
    rw [ev_pos (by omega), ev_now]
theorem sortV_len (q : Int) (ws : List Int) : (sortV q ws).2.1.length ≤ 9 := by
  unfold sortV
  split
  · next h =>
    have := ((good_iff q ws).1 h).l9
    simp only [impl_SortCommittee.sortD, (List.mergeSort_perm _ _).length_eq]
    exact this
  · simp
theorem impl_members.evP_l (n : Nat) (hn : n ≤ 1000000) (P : Int → Option Bool) (p : Nat → Bool) (hP : ∀ i : Nat, i < n → P (i : Int) = some (p i)) : ∀ (d i : Nat), i + d = n → Ev (fun k => impl_members.l0 k P (n : Int) (takeI p i) (i : Int)) (takeI p n) := by
  intro d
  induction d with
  | zero =>
    intro i h
    refine ev_step ?_
    simp only [impl_members.l0]
    rw [ev_neg (by omega), ev_now, show i = n by omega]
  | succ d ih =>
    intro i h
    refine ev_step ?_
    simp only [impl_members.l0]
    have hl := takeI_len p i
    have hih := ih (i + 1) (by omega)
    rw [takeI_succ] at hih
    rw [ev_pos (by omega), ev_bind (ev_of (hP i (by omega))), w64 (by omega) (by omega)]
    by_cases hp : p i = true
    · rw [if_pos hp] at hih
      rw [ev_pos hp, ev_pos (by omega)]
      exact hih
    · rw [if_neg hp] at hih
      rw [ev_neg hp]
      exact hih
def vetV (q : Int) (ws : List Int) : List Int × Bool := if goodB q ws = true then (takeI (vetoB q ws) ws.length, true) else ([], false)
theorem impl_VetoMembers.ev (q : Int) (ws : List Int) (hl : ws.length ≤ 9223372036854775807) : Ev (fun k => impl_VetoMembers.f k q ws) (vetV q ws) := by
  simp only [impl_VetoMembers.f]
  rw [ev_bind (impl_IsCommittee.ev q ws hl)]
  unfold vetV
  cases hg : goodB q ws with
  | false => rw [ev_neg (by decide), ev_now, if_neg (by decide)]
  | true =>
    have hc := (good_iff q ws).1 hg
    have h9 := hc.l9
    have hp := hc.pow
    have hwl := winsL_length q ws
    have hall : impl_votes_all.f (ws.length : Int) (winsL q ws) = some ((2 ^ ws.length - 1 : Nat) : Int) := by
      simp only [impl_votes_all.f]
      rw [if_pos (by omega), shl_one ws.length (by omega), w64 (by omega) (by omega)]
      congr 1
      omega
    have hm : Ev (fun k => impl_members.g k (ws.length : Int) (impl_VetoMembers_1.f (ws.length : Int) (winsL q ws))) (takeI (vetoB q ws) ws.length) := by
      refine impl_members.evP_l ws.length (by omega) _ (vetoB q ws) (fun i hi => ?_) ws.length 0 (by omega)
      have h2 := wins_out (q := q) i hi
      have hpi : 2 ^ i < 2 ^ ws.length := Nat.pow_lt_pow_right (by omega) hi
      simp only [impl_VetoMembers_1.f]
      rw [hall, Option.bind_some, shl_one i (by omega), andNot_pow _ i (by omega) (by omega) (full_bit _ _ hi), if_pos (Int.natCast_nonneg _), if_pos (Int.ofNat_lt.2 (by rw [hwl]; exact Nat.lt_of_le_of_lt (Nat.sub_le _ _) (by omega))), rdOf_nat, h2, Bool.not_not]
    rw [ev_pos rfl, if_pos rfl, ev_bind (impl_Committee_votes.ev q ws h9 hc.wb), ev_pos (by omega), ev_bind hm, ev_now]
theorem cntW_in {q : Int} {ws : List Int} (h : ws.length ≤ 9) : 0 ≤ cntW (winsL q ws) ∧ cntW (winsL q ws) ≤ 512 := by
  have h1 := cntW_bounds (winsL q ws)
  have hp : 2 ^ ws.length ≤ 2 ^ 9 := Nat.pow_le_pow_right (by omega) h
  rw [winsL_length] at h1
  omega
theorem laws_FnWeightsMadeOfAll.law_j6 (q : Int) (ws : List Int) (hl : ws.length ≤ 9223372036854775807) : Ev (fun k => laws_FnWeightsMadeOfAll.j6 k (dummyV q ws).2.2 q ws (dummyV q ws).1 (dummyV q ws).2.1) true := by
  refine ev_step ?_
  simp only [laws_FnWeightsMadeOfAll.j6]
  by_cases c : goodB q ws = true ∧ ws.length ≠ 9
  · have hd : dummyV q ws = (q, ws ++ [0], true) := if_pos c
    have hc := (good_iff q ws).1 c.1
    have h9 := hc.l9
    have hg : goodB q (ws ++ [0]) = true := by
      have h := dummy_good hc
      rw [if_pos c.2] at h
      unfold ifGood at h
      split at h
      · assumption
      · simp at h
    have hc2 := (good_iff q (ws ++ [0])).1 hg
    have hlen : (ws ++ [(0 : Int)]).length = ws.length + 1 := by simp
    have h92 := hc2.l9
    have e1 : dumV q (ws ++ [0]) = (takeI (dumB q (ws ++ [0])) (ws ++ [0]).length, true) := by rw [dumV, if_pos hg]; rfl
    have e2 : cwV q (ws ++ [0]) = (2 * cntW (winsL q ws), true) := by rw [cwV, if_pos hg, dummy_count]
    have e3 : cwV q ws = (cntW (winsL q ws), true) := by rw [cwV, if_pos c.1]
    have v1 := impl_DummiesOf.ev q (ws ++ [0]) (by omega)
    have v2 := impl_CountWinning.ev q (ws ++ [0]) (by omega)
    have v3 := impl_CountWinning.ev q ws hl
    have hh := laws_mHas.ev (takeI (dumB q (ws ++ [0])) (ws ++ [0]).length) (ws.length : Int) (by have := takeI_len (dumB q (ws ++ [0])) (ws ++ [0]).length; omega)
    rw [takeI_has _ _ _ (by omega), dummy_new hc2] at hh
    have hb := cntW_in (q := q) h9
    rw [e1] at v1
    rw [e2] at v2
    rw [e3] at v3
    rw [hd]
    dsimp only
    rw [ev_pos rfl, ev_bind v1, ev_bind v2, ev_bind v3, ev_pos rfl, ev_bind hh, ev_pos rfl, ev_pos rfl, ev_pos rfl, ev_pos (by dsimp only; rw [w64 (by omega) (by omega)]), ev_now]
  · rw [dummyV, if_neg c, ev_neg (by decide), ev_now]
theorem laws_FnWeightsMadeOfAll.law_j5 (q : Int) (ws : List Int) (hl : ws.length ≤ 9223372036854775807) : Ev (fun k => laws_FnWeightsMadeOfAll.j5 k (vetoV q ws).2.2 (dummyV q ws).2.2 q ws (vetoV q ws).1 (vetoV q ws).2.1 (dummyV q ws).1 (dummyV q ws).2.1) true := by
  have hj6 := laws_FnWeightsMadeOfAll.law_j6 q ws hl
  refine ev_step ?_
  simp only [laws_FnWeightsMadeOfAll.j5]
  by_cases c : goodB q ws = true ∧ goodB (q + ws.sum) (ws ++ [ws.sum]) = true
  · have hd : vetoV q ws = (q + ws.sum, ws ++ [ws.sum], true) := by rw [vetoV, if_pos c.1, ifGood, if_pos c.2]
    have hc := (good_iff q ws).1 c.1
    have h9 := hc.l9
    have hc2 := (good_iff _ _).1 c.2
    have hlen : (ws ++ [ws.sum]).length = ws.length + 1 := by simp
    have h92 := hc2.l9
    have e1 : vetV (q + ws.sum) (ws ++ [ws.sum]) = (takeI (vetoB (q + ws.sum) (ws ++ [ws.sum])) (ws ++ [ws.sum]).length, true) := by rw [vetV, if_pos c.2]
    have e2 : cwV (q + ws.sum) (ws ++ [ws.sum]) = (cntW (winsL q ws), true) := by rw [cwV, if_pos c.2, veto_count hc]
    have e3 : cwV q ws = (cntW (winsL q ws), true) := by rw [cwV, if_pos c.1]
    have v1 := impl_VetoMembers.ev (q + ws.sum) (ws ++ [ws.sum]) (by omega)
    have v2 := impl_CountWinning.ev (q + ws.sum) (ws ++ [ws.sum]) (by omega)
    have v3 := impl_CountWinning.ev q ws hl
    have hh := laws_mHas.ev (takeI (vetoB (q + ws.sum) (ws ++ [ws.sum])) (ws ++ [ws.sum]).length) (ws.length : Int) (by have := takeI_len (vetoB (q + ws.sum) (ws ++ [ws.sum])) (ws ++ [ws.sum]).length; omega)
    rw [takeI_has _ _ _ (by omega), veto_new hc] at hh
    rw [e1] at v1
    rw [e2] at v2
    rw [e3] at v3
    rw [hd]
    dsimp only
    rw [ev_pos rfl, ev_bind v1, ev_bind v2, ev_bind v3, ev_pos rfl, ev_bind hh, ev_pos rfl, ev_pos rfl, ev_pos rfl, ev_pos rfl]
    exact hj6
  · have : (vetoV q ws).2.2 = false := by
      unfold vetoV ifGood
      by_cases h1 : goodB q ws = true
      · rw [if_pos h1, if_neg (fun h2 => c ⟨h1, h2⟩)]
      · rw [if_neg h1]
    rw [this, ev_neg (by decide)]
    exact hj6
theorem laws_FnWeightsMadeOfAll.law_l1 (m n : Int) (hm : 1 ≤ m) (hm9 : m ≤ 9) (hn : 1 ≤ n) (hnm : n ≤ m) (q : Int) (ws : List Int) (hl : ws.length ≤ 9223372036854775807) : ∀ (d c : Nat), c + d = m.toNat + 1 → Ev (fun k => laws_FnWeightsMadeOfAll.l1 k m n (vetoV q ws).2.2 (dummyV q ws).2.2 (c : Int) q ws n (List.replicate m.toNat 1) (vetoV q ws).1 (vetoV q ws).2.1 (dummyV q ws).1 (dummyV q ws).2.1) true := by
  have hg : goodB n (List.replicate m.toNat 1) = true := by
    refine (good_iff _ _).2 ⟨by rw [List.length_replicate]; omega, by rw [List.length_replicate]; omega, fun x hx => by have := (List.mem_replicate.1 hx).2; omega, hn, ?_⟩
    have : (List.replicate m.toNat (1 : Int)).sum = (m.toNat : Int) := by
      generalize m.toNat = t
      induction t with
      | zero => rfl
      | succ t ih => rw [List.replicate_succ, List.sum_cons, ih]; omega
    omega
  intro d
  induction d with
  | zero =>
    intro c h
    refine ev_step ?_
    simp only [laws_FnWeightsMadeOfAll.l1]
    rw [ev_neg (by omega)]
    exact laws_FnWeightsMadeOfAll.law_j5 q ws hl
  | succ d ih =>
    intro c h
    refine ev_step ?_
    simp only [laws_FnWeightsMadeOfAll.l1]
    have hih := ih (c + 1) (by omega)
    rw [show ((c + 1 : Nat) : Int) = (c : Int) + 1 by omega] at hih
    have v := impl_CountWinningOf.ev n (List.replicate m.toNat 1) (c : Int) (by rw [List.length_replicate]; omega)
    have e : cwoV n (List.replicate m.toNat 1) (c : Int) = (cntO (winsL n (List.replicate m.toNat 1)) (c : Int), true) := by
      rw [cwoV, if_pos]
      rw [hg, List.length_replicate, decide_eq_true (by omega), decide_eq_true (by omega)]
      rfl
    rw [e] at v
    rw [ev_pos (by omega), ev_bind v, ev_pos rfl, even_heads (by omega) (by omega), ev_neg (by simp), w64 (by omega) (by omega)]
    exact hih
theorem laws_FnWeightsMadeOfAll.law_j3 (m n : Int) (q : Int) (ws : List Int) (hl : ws.length ≤ 9223372036854775807) (hq : OkI q) : Ev (fun k => laws_FnWeightsMadeOfAll.j3 k m n q ws) true := by
  refine ev_step ?_
  simp only [laws_FnWeightsMadeOfAll.j3]
  have s1 := laws_mCommittee.ev_same (evenV m n).1 (evenV m n).2.1 (by have := evenV_len m n; omega)
  have s2 := laws_mCommittee.ev_same (vetoV q ws).1 (vetoV q ws).2.1 (by have := vetoV_len q ws; omega)
  have s3 := laws_mCommittee.ev_same (dummyV q ws).1 (dummyV q ws).2.1 (by have := dummyV_len q ws; omega)
  rw [ev_bind (ev_of (impl_EvenCommittee.v m n)), ev_bind (spec_EvenCommittee.ev m n), ev_bind (impl_AddVeto.ev q ws hl), ev_bind (spec_AddVeto.ev q ws hl), ev_bind (impl_AddDummy.ev q ws hl hq), ev_bind (spec_AddDummy.ev q ws hl), ev_neg (by simp), ev_bind s1, ev_pos rfl, ev_neg (by simp), ev_bind s2, ev_pos rfl, ev_neg (by simp), ev_bind s3, ev_pos rfl]
  by_cases c : 1 ≤ m ∧ m ≤ 9 ∧ 1 ≤ n ∧ n ≤ m
  · have e : evenV m n = (n, List.replicate m.toNat 1, true) := if_pos c
    rw [e]
    dsimp only
    rw [ev_pos rfl]
    exact laws_FnWeightsMadeOfAll.law_l1 m n c.1 c.2.1 c.2.2.1 c.2.2.2 q ws hl (m.toNat + 1) 0 (by omega)
  · rw [evenV, if_neg c, ev_neg (by decide)]
    exact laws_FnWeightsMadeOfAll.law_j5 q ws hl
theorem sortD_facts (ws : List Int) : (impl_SortCommittee.sortD ws).Perm ws ∧ downL (impl_SortCommittee.sortD ws) := by
  obtain ⟨ys, hp, hd⟩ : ∃ ys : List Int, ys.Perm ws ∧ downL ys := by
    refine ⟨ws.mergeSort fun a b => decide (b ≤ a), List.mergeSort_perm _ _, ?_⟩
    have := List.pairwise_mergeSort (le := fun a b : Int => decide (b ≤ a)) (fun a b c h1 h2 => by simp at *; omega) (fun a b => by simp; omega) ws
    exact this.imp (fun h => by simpa using h)
  have e := downL_sorted hp hd
  rw [← e]
  exact ⟨hp, hd⟩
theorem laws_FnWeightsMadeOfAll.law_l0 (m n : Int) (q : Int) (ws : List Int) (hc : GoodC q ws) (q2 : Int) (ws2 : List Int) (hl2 : ws2.length ≤ 9223372036854775807) (hq2 : OkI q2) : ∀ (d i : Nat), i + d = ws.length → Ev (fun k => laws_FnWeightsMadeOfAll.l0 k m n (ws.length : Int) (i : Int) q ws q2 ws2 q (impl_SortCommittee.sortD ws) q (lowN (winsL q ws) q ws ws.length)) true := by
  have h9 := hc.l9
  have hlow := lowN_len hc ws.length (Nat.le_refl _)
  obtain ⟨hp, hd⟩ := sortD_facts ws
  have hsl := hp.length_eq
  intro d
  induction d with
  | zero =>
    intro i h
    refine ev_step ?_
    simp only [laws_FnWeightsMadeOfAll.l0]
    rw [ev_neg (by omega)]
    exact laws_FnWeightsMadeOfAll.law_j3 m n q2 ws2 hl2 hq2
  | succ d ih =>
    intro i h
    have hih := ih (i + 1) (by omega)
    rw [show ((i + 1 : Nat) : Int) = (i : Int) + 1 by omega] at hih
    have hj2 : Ev (fun k => laws_FnWeightsMadeOfAll.j2 k m n (ws.length : Int) (i : Int) false q ws q2 ws2 q (impl_SortCommittee.sortD ws) q (lowN (winsL q ws) q ws ws.length)) true := by
      refine ev_step ?_
      simp only [laws_FnWeightsMadeOfAll.j2]
      rw [ev_neg (by decide), w64 (by omega) (by omega)]
      exact hih
    refine ev_step ?_
    simp only [laws_FnWeightsMadeOfAll.l0]
    have hb := low_below hc i
    rw [ev_pos (by omega), ev_pos (by omega), ev_pos (by omega), ev_pos (by omega), rd_nat, rd_nat ws, ev_neg (by omega)]
    by_cases c : (i : Int) > 0
    · have e : wrap64 ((i : Int) - 1) = ((i - 1 : Nat) : Int) := by rw [w64 (by omega) (by omega)]; omega
      have h1 := List.pairwise_iff_getElem.1 hd (i - 1) i (by omega) (by omega) (by omega)
      rw [ev_pos c, e, ev_pos (by omega), ev_pos (by omega), ev_pos (by omega), rd_lt _ (i - 1) (by omega), rd_lt _ i (by omega), decide_eq_false (by omega)]
      exact hj2
    · rw [ev_neg c]
      exact hj2
theorem laws_FnWeightsMadeOfAll.law_j0 (m n : Int) (q : Int) (ws : List Int) (hl : ws.length ≤ 9223372036854775807) (q2 : Int) (ws2 : List Int) (hl2 : ws2.length ≤ 9223372036854775807) (hq2 : OkI q2) : Ev (fun k => laws_FnWeightsMadeOfAll.j0 k m n (partV q ws).2.2 (spareV q ws).1 (spareV q ws).2.1 q ws q2 ws2 (partV q ws).1 (partV q ws).2.1 (sortV q ws).1 (sortV q ws).2.1 (lowV q ws).1 (lowV q ws).2.1) true := by
  refine ev_step ?_
  simp only [laws_FnWeightsMadeOfAll.j0]
  cases hg : goodB q ws with
  | false =>
    have e : (partV q ws).2.2 = false := by rw [partV, if_neg (by rw [hg]; decide)]
    rw [e, ev_neg (by decide)]
    exact laws_FnWeightsMadeOfAll.law_j3 m n q2 ws2 hl2 hq2
  | true =>
    have hc := (good_iff q ws).1 hg
    have h9 := hc.l9
    have hs := hc.sum
    obtain ⟨hb1, hb2⟩ := spare_bounds hc
    have hq1 := hc.q1
    have hqs := hc.qs
    obtain ⟨pw, pg⟩ := part_same hc
    obtain ⟨lw, lg⟩ := low_same hc
    have hlow := lowN_len hc ws.length (Nat.le_refl _)
    obtain ⟨sp, _⟩ := sortD_facts ws
    have hsl := sp.length_eq
    have e1 : (partV q ws).2.2 = true := by rw [partV, if_pos hg]
    have pl : (partV q ws).2.1.length ≤ 9 := partV_len q ws
    have e2 : lowV q ws = (q, lowN (winsL q ws) q ws ws.length, true) := if_pos hg
    have e3 : sortV q ws = (q, impl_SortCommittee.sortD ws, true) := if_pos hg
    have e4 : spareV q ws = (spWin (winsL q ws) ws (2 ^ ws.length) - q, q - spLose (winsL q ws) ws (2 ^ ws.length), true) := if_pos hg
    have a1 : asmV q ws (partV q ws).1 (partV q ws).2.1 = (true, true) := by rw [asmV, if_pos ⟨hg, pg⟩, pw, decide_eq_true rfl]
    have a2 : asmV q ws q (lowN (winsL q ws) q ws ws.length) = (true, true) := by rw [asmV, if_pos ⟨hg, lg⟩, lw, decide_eq_true rfl]
    have a3 : qrV q ws = (spLose (winsL q ws) ws (2 ^ ws.length) + 1, spWin (winsL q ws) ws (2 ^ ws.length), true) := if_pos hg
    have hgs : goodB q (impl_SortCommittee.sortD ws) = true := (good_iff _ _).2 ⟨by rw [hsl]; exact hc.l1, by rw [hsl]; exact hc.l9, fun x hx => hc.w x (sp.mem_iff.1 hx), hc.q1, by rw [perm_sumI sp]; exact hc.qs⟩
    have a4 : cwV q ws = (cntW (winsL q ws), true) := if_pos hg
    have a5 : cwV q (impl_SortCommittee.sortD ws) = (cntW (winsL q ws), true) := by rw [cwV, if_pos hgs, cntW_perm sp]
    have v1 := impl_AreSameVotes.ev q ws (partV q ws).1 (partV q ws).2.1 hl (by omega)
    have v2 := impl_AreSameVotes.ev q ws q (lowN (winsL q ws) q ws ws.length) hl (by omega)
    have v3 := impl_LowerWeights.ev q (lowN (winsL q ws) q ws ws.length) (by omega)
    have v4 := impl_QuotaRange.ev q ws hl
    have v5 := impl_CountWinning.ev q ws hl
    have v6 := impl_CountWinning.ev q (impl_SortCommittee.sortD ws) (by omega)
    have v7 := laws_mCommittee.ev_same q (lowN (winsL q ws) q ws ws.length) (by omega)
    rw [a1] at v1
    rw [a2] at v2
    rw [lowV_again hc] at v3
    rw [a3] at v4
    rw [a4] at v5
    rw [a5] at v6
    rw [e1, e2, e3, e4]
    dsimp only
    rw [ev_pos rfl, ev_bind v1, ev_bind v2, ev_bind v3, ev_bind v4, ev_bind v5, ev_bind v6, ev_pos rfl, ev_pos rfl, ev_pos rfl, ev_pos rfl, ev_pos rfl, ev_bind v7, ev_pos rfl, ev_pos rfl, ev_pos (by dsimp only; rw [w64 (by omega) (by omega)]), ev_pos (by dsimp only; rw [w64 (x := q - (spLose (winsL q ws) ws (2 ^ ws.length) + 1)) (by omega) (by omega), w64 (by omega) (by omega)]; omega), ev_pos rfl, ev_pos rfl, ev_pos rfl]
    exact laws_FnWeightsMadeOfAll.law_l0 m n q ws hc q2 ws2 hl2 hq2 ws.length 0 (by omega)
theorem laws_FnWeightsMadeOfAll.law (q : Int) (ws : List Int) (a : Int) (q1 : Int) (ws1 : List Int) (m n : Int) (q2 : Int) (ws2 : List Int) (okq : OkI q) (okws : OkL ws) (oka : OkI a) (okq1 : OkI q1) (okws1 : OkL ws1) (okm : OkI m) (okn : OkI n) (okq2 : OkI q2) (okws2 : OkL ws2) : Ev (fun k => laws_FnWeightsMadeOfAll.f k q ws a q1 ws1 m n q2 ws2) true := by
  have hl : ws.length ≤ 9223372036854775807 := okws.1
  have hl1 : ws1.length ≤ 9223372036854775807 := okws1.1
  have hl2 : ws2.length ≤ 9223372036854775807 := okws2.1
  simp only [laws_FnWeightsMadeOfAll.f]
  have hj0 := laws_FnWeightsMadeOfAll.law_j0 m n q1 ws1 hl1 q2 ws2 hl2 okq2
  have s1 := laws_mCommittee.ev_same (timesV q ws a).1 (timesV q ws a).2.1 (by have := timesV_len q ws a; omega)
  have s2 := laws_mCommittee.ev_same (partV q1 ws1).1 (partV q1 ws1).2.1 (by have := partV_len q1 ws1; omega)
  have s3 := laws_mCommittee.ev_same (sortV q1 ws1).1 (sortV q1 ws1).2.1 (by have := sortV_len q1 ws1; omega)
  have s4 := laws_mCommittee.ev_same (lowV q1 ws1).1 (lowV q1 ws1).2.1 (by have := lowV_len q1 ws1; omega)
  have b1 : (partV q1 ws1).2.2 = goodB q1 ws1 := by unfold partV; split <;> simp_all
  have b2 : (sortV q1 ws1).2.2 = goodB q1 ws1 := by unfold sortV; split <;> simp_all
  have b3 : (lowV q1 ws1).2.2 = goodB q1 ws1 := by unfold lowV; split <;> simp_all
  have b4 : (spareV q1 ws1).2.2 = goodB q1 ws1 := by unfold spareV; split <;> simp_all
  rw [ev_bind (impl_TimesCommittee.ev q ws a hl), ev_bind (spec_TimesCommittee.ev q ws a hl), ev_bind (impl_PartCommittee.ev q1 ws1 hl1), ev_bind (spec_PartCommittee.ev q1 ws1 hl1), ev_bind (impl_SortCommittee.ev q1 ws1 hl1), ev_bind (spec_SortCommittee.ev q1 ws1 hl1), ev_bind (impl_LowerWeights.ev q1 ws1 hl1), ev_bind (spec_LowerWeights.ev q1 ws1 hl1), ev_bind (impl_SpareOf.ev q1 ws1 hl1), ev_bind (spec_SpareOf.ev q1 ws1 hl1), ev_neg (by simp), ev_bind s1, ev_pos rfl, ev_neg (by simp), ev_bind s2, ev_pos rfl, ev_neg (by simp), ev_bind s3, ev_pos rfl, ev_neg (by simp), ev_bind s4, ev_pos rfl, ev_neg (by simp), ev_pos rfl, ev_pos rfl, ev_bind (impl_IsCommittee.ev q1 ws1 hl1), ev_neg (by rw [b1]; simp), ev_neg (by rw [b1, b2]; simp), ev_neg (by rw [b1, b3]; simp), ev_neg (by rw [b1, b4]; simp)]
  by_cases c : (goodB q ws = true ∧ 1 ≤ a ∧ a ≤ 1000) ∧ goodB ((q - 1) * a + 1) (ws.map (· * a)) = true
  · have e : timesV q ws a = ((q - 1) * a + 1, ws.map (· * a), true) := by rw [timesV, if_pos c.1, ifGood, if_pos c.2]
    have hc := (good_iff q ws).1 c.1.1
    have h9 := hc.l9
    have p1 : asmV q ws ((q - 1) * a + 1) (ws.map (· * a)) = (true, true) := by rw [asmV, if_pos ⟨c.1.1, c.2⟩, times_wins c.1.2.1, decide_eq_true rfl]
    have v1 := impl_AreSameVotes.ev q ws ((q - 1) * a + 1) (ws.map (· * a)) hl (by rw [List.length_map]; omega)
    have v2 := impl_PartCommittee.ev ((q - 1) * a + 1) (ws.map (· * a)) (by rw [List.length_map]; omega)
    have v3 := impl_PartCommittee.ev q ws hl
    have v4 := laws_mCommittee.ev_same (partV q ws).1 (partV q ws).2.1 (by have := partV_len q ws; omega)
    have e2 : (partV q ws).2.2 = true := by rw [partV, if_pos c.1.1]
    rw [p1] at v1
    rw [partV_times hc c.1.2.1 c.2] at v2
    rw [e]
    dsimp only
    rw [ev_pos rfl, ev_bind v1, ev_bind v2, ev_bind v3, ev_pos rfl, ev_pos rfl, ev_pos e2, ev_pos e2, ev_bind v4, ev_pos rfl]
    exact hj0
  · have : (timesV q ws a).2.2 = false := by
      unfold timesV ifGood
      by_cases h1 : goodB q ws = true ∧ 1 ≤ a ∧ a ≤ 1000
      · rw [if_pos h1, if_neg (fun h2 => c ⟨h1, h2⟩)]
      · rw [if_neg h1]
    rw [this, ev_neg (by decide)]
    exact hj0
end Go.Proofs.YtaambkdiokbdgabGreat.Q
