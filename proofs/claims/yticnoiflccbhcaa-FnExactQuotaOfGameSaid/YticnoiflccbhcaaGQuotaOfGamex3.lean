/- Printed functions, their contracts and plain facts on them: PVotesOf; PVotesBy; PWeight; PVotesSpare; PWeQuota; PQuotaOfGame; PLFnExactQuotaOfGame; O. Conditions: as each theorem states. -/
import Derived.Deep.Slices
import Derived.Lib.SmallJoins
import Derived.OpenShut
import Derived.ShutString
import Derived.ChangeArms
import Derived.ChangeOld
import Derived.Test.YticnoiflccbhcaaWWords
import Derived.Test.YticnoiflccbhcaaGQuotaOfGamex0
import Derived.Test.YticnoiflccbhcaaGQuotaOfGamex1
import Derived.Test.YticnoiflccbhcaaGQuotaOfGamex2
namespace Go.Proofs.Yticnoiflccbhcaa.Q
open Go.RowKit Go.Proofs.YticnoiflccbhcaaW.PrintWords Go.Proofs.YticnoiflccbhcaaW.PrintLast Go.Proofs.YticnoiflccbhcaaW.PrintMore Go.Proofs.YticnoiflccbhcaaM
set_option linter.unusedVariables false
set_option linter.unusedSimpArgs false
theorem impl_votesOf.at_l (n N : Nat) (hN : N ≤ 1000000) (P : Int → Option Bool) (p : Nat → Bool) (hP : ∀ m, m < N → P (m : Int) = some (p m)) : ∀ (d m k : Nat) (acc : List Bool), m + d = N → d < k → acc.length = N → acc.take m = ((List.range N).map p).take m → impl_votesOf.l0 k P (N : Int) (m : Int) (n : Int) acc = some ((n : Int), (List.range N).map p) := by
  intro d
  induction d with
  | zero =>
    intro m k acc h hk hlen ht
    obtain ⟨k, rfl⟩ : ∃ j, k = j + 1 := ⟨k - 1, by omega⟩
    simp only [impl_votesOf.l0]
    rw [List.take_of_length_le (by omega), List.take_of_length_le (by simp; omega)] at ht
    rw [if_neg (by omega), ht]
  | succ d ih =>
    intro m k acc h hk hlen ht
    obtain ⟨k, rfl⟩ : ∃ j, k = j + 1 := ⟨k - 1, by omega⟩
    have hm : m < N := by omega
    simp only [impl_votesOf.l0]
    rw [if_pos (by omega), hP m hm, Option.bind_some, if_pos (by omega), if_pos (by omega), w64i (n := N) (by omega) (by omega) (by omega), Int.toNat_natCast]
    refine ih (m + 1) k (acc.set m (p m)) (by omega) (by omega) (by simpa using hlen) ?_
    rw [List.take_succ_eq_append_getElem (by simp; omega), List.take_succ_eq_append_getElem (by simp; omega), List.take_set_of_le (by omega), ht]
    simp
theorem impl_votesOf.ev (n : Nat) (hn : n ≤ 19) (g : Nat → Int → Option Bool) (p : Nat → Bool) (hg : ∀ m : Nat, m < 2 ^ n → Ev (fun k => g k (m : Int)) (p m)) : Ev (fun k => impl_votesOf.f k (n : Int) (g k)) ((n : Int), (List.range (2 ^ n)).map p) := by
  have hp : 2 ^ n ≤ 2 ^ 19 := Nat.pow_le_pow_right (by omega) hn
  have h0 : 0 < 2 ^ n := Nat.two_pow_pos n
  generalize hN : 2 ^ n = N at *
  obtain ⟨K, hK⟩ := ev_all N (fun k m => g k (m : Int)) p hg
  refine ⟨max K (N + 1), fun k hk => ?_⟩
  simp only [impl_votesOf.f]
  rw [if_pos (by omega), shl_one n (by omega), hN, if_pos (by omega), Int.toNat_natCast, if_pos (by omega), Option.bind_some, List.length_replicate]
  exact impl_votesOf.at_l n N (by omega) (g k) p (fun m hm => hK k (by omega) m hm) N 0 k _ (by omega) (by omega) (by simp) (by simp)
end Go.Proofs.Yticnoiflccbhcaa.Q

namespace Go.Proofs.Yticnoiflccbhcaa.Q
open Go.RowKit Go.Proofs.YticnoiflccbhcaaW.PrintWords Go.Proofs.YticnoiflccbhcaaW.PrintLast Go.Proofs.YticnoiflccbhcaaW.PrintMore Go.Proofs.YticnoiflccbhcaaM
set_option linter.unusedVariables false
set_option linter.unusedSimpArgs false
theorem impl_votesBy.ev_l (l : List (List Int)) (hl : l.length ≤ 1000000) (hs : ∀ x ∈ l, x.length ≤ 9223372036854775807 ∧ (∀ y ∈ x, 0 ≤ y ∧ y ≤ 60)) : ∀ (d i : Nat), i + d = l.length → Ev (fun k => impl_votesBy.l0 k ((l.map fun x => ((maskN x : Nat) : Int)).take i) l (i : Int)) (l.map fun x => ((maskN x : Nat) : Int)) := by
  have hml : (l.map fun x => ((maskN x : Nat) : Int)).length = l.length := by simp
  intro d
  induction d with
  | zero =>
    intro i h
    refine ev_step ?_
    simp only [impl_votesBy.l0]
    rw [ev_neg (by omega), ev_now, List.take_of_length_le (by omega)]
  | succ d ih =>
    intro i h
    refine ev_step ?_
    simp only [impl_votesBy.l0]
    have hi : i < l.length := by omega
    have hx := hs l[i] (List.getElem_mem hi)
    rw [ev_pos (by omega), ev_pos (by omega), rdOf_lt [] l i hi, ev_bind (impl_maskOf.ev l[i] hx.1 hx.2), ev_pos (by rw [List.length_take]; omega), w64i (n := l.length) (by omega) (by omega) (by omega)]
    have := ih (i + 1) (by omega)
    rw [List.take_succ_eq_append_getElem (by omega), List.getElem_map] at this
    exact this
theorem impl_votesBy.ev (n : Nat) (hn : n ≤ 18) (l : List (List Int)) (hl : l.length ≤ 1000000) (hs : ∀ x ∈ l, x.length ≤ 9223372036854775807 ∧ (∀ y ∈ x, 0 ≤ y ∧ y ≤ 60)) : Ev (fun k => impl_votesBy.f k (n : Int) l) ((n : Int), winsG n l) := by
  have hp : 2 ^ n ≤ 2 ^ 18 := Nat.pow_le_pow_right (by omega) hn
  simp only [impl_votesBy.f]
  have h0 := impl_votesBy.ev_l l hl hs l.length 0 (by omega)
  rw [List.take_zero] at h0
  rw [ev_bind (show Ev (fun k => impl_votesBy.l0 k ([] : List Int) l 0) _ from h0)]
  refine impl_votesOf.ev n (by omega) (fun _ x => some (impl_votesBy_1.p (l.map fun x => ((maskN x : Nat) : Int)) x)) (fun m => l.any fun x => decide (m &&& maskN x = maskN x)) (fun m hm => ?_)
  rw [ev_now, impl_votesBy_1.p]
  clear h0 hl
  induction l with
  | nil => rfl
  | cons x l ih =>
    have hx := hs x List.mem_cons_self
    have hlt := orBits_lt61 x 0 (by omega) hx.2
    have hm2 : maskN x < 2 ^ 61 := hlt
    rw [List.map_cons, List.any_cons, List.any_cons, ih (fun y hy => hs y (List.mem_cons_of_mem _ hy)), and_nat m (maskN x) (by omega) (by omega)]
    congr 1
    by_cases c : m &&& maskN x = maskN x
    · rw [decide_eq_true c, c, decide_eq_true rfl]
    · rw [decide_eq_false c, decide_eq_false (by omega)]
theorem impl_Game_votes.ev (n : Nat) (hn : n ≤ 18) (l : List (List Int)) (hl : l.length ≤ 1000000) (hs : ∀ x ∈ l, x.length ≤ 9223372036854775807 ∧ (∀ y ∈ x, 0 ≤ y ∧ y ≤ 60)) : Ev (fun k => impl_Game_votes.f k (n : Int) l) ((n : Int), winsG n l) := by
  simp only [impl_Game_votes.f]
  rw [ev_bind (impl_votesBy.ev n hn l hl hs), ev_now]
end Go.Proofs.Yticnoiflccbhcaa.Q

namespace Go.Proofs.Yticnoiflccbhcaa.Q
open Go.RowKit Go.Proofs.YticnoiflccbhcaaW.PrintWords Go.Proofs.YticnoiflccbhcaaW.PrintLast Go.Proofs.YticnoiflccbhcaaW.PrintMore Go.Proofs.YticnoiflccbhcaaM
set_option linter.unusedVariables false
set_option linter.unusedSimpArgs false
theorem impl_has.v (m i : Nat) (hm : m < 2 ^ 62) (hi : i ≤ 62) : impl_has.f (m : Int) (i : Int) = some (decide (m / 2 ^ i % 2 = 1)) := by
  unfold impl_has.f
  have hlt : m / 2 ^ i < 2 ^ 62 := Nat.lt_of_le_of_lt (Nat.div_le_self _ _) hm
  rw [if_pos (by omega), shr_nat m i (by omega), and_one _ hlt]
  congr 1
  by_cases h : m / 2 ^ i % 2 = 1
  · simp [h]
  · have : m / 2 ^ i % 2 = 0 := by omega
    simp [this]
theorem impl_Committee_weight.ev_l (q : Int) (ws : List Int) (m : Nat) (hm : m < 2 ^ 62) (hl : ws.length ≤ 60) (hw : ∀ x ∈ ws, 0 ≤ x ∧ x ≤ 1000000000) : ∀ (d i : Nat) (s : Int), i + d = ws.length → 0 ≤ s → s + wsum (ws.drop i) (m / 2 ^ i) ≤ 1000000000000 → Ev (fun k => impl_Committee_weight.l0 k (m : Int) s ws (ws.length : Int) (i : Int)) (s + wsum (ws.drop i) (m / 2 ^ i)) := by
  intro d
  induction d with
  | zero =>
    intro i s h _ _
    refine ev_step ?_
    simp only [impl_Committee_weight.l0]
    rw [ev_neg (by omega), ev_now, List.drop_of_length_le (by omega)]
    simp [wsum]
  | succ d ih =>
    intro i s h h0 h1
    refine ev_step ?_
    simp only [impl_Committee_weight.l0]
    have hi : i < ws.length := by omega
    have hx := hw ws[i] (List.getElem_mem hi)
    have hd : wsum (ws.drop i) (m / 2 ^ i) = (if m / 2 ^ i % 2 = 1 then ws[i] else 0) + wsum (ws.drop (i + 1)) (m / 2 ^ (i + 1)) := by
      rw [wsum_drop ws i _ hi, Nat.div_div_eq_div_mul, ← Nat.pow_succ]
    have hb := wsum_bounds (ws.drop (i + 1)) (fun x hx => (hw x (List.mem_of_mem_drop hx)).1) (m / 2 ^ (i + 1))
    rw [ev_pos (by omega), ev_pos (by omega), ev_pos (by omega), ev_bind (ev_of (impl_has.v m i hm (by omega))), w64i (n := ws.length) (by omega) (by omega) (by omega), rd_lt ws i hi, hd]
    rw [hd] at h1
    by_cases hbit : m / 2 ^ i % 2 = 1
    · rw [if_pos hbit] at h1 ⊢
      rw [ev_pos (by simpa using hbit), w64 (by omega) (by omega), ← Int.add_assoc]
      exact ih (i + 1) (s + ws[i]) (by omega) (by omega) (by omega)
    · rw [if_neg hbit] at h1 ⊢
      rw [ev_neg (by simpa using hbit), Int.zero_add]
      exact ih (i + 1) s (by omega) h0 (by omega)
theorem impl_Committee_weight.ev (q : Int) (ws : List Int) (m : Nat) (hm : m < 2 ^ 62) (hl : ws.length ≤ 60) (hw : ∀ x ∈ ws, 0 ≤ x ∧ x ≤ 1000000000) : Ev (fun k => impl_Committee_weight.f k q ws (m : Int)) (wsum ws m) := by
  have hb := wsum_bounds ws (fun x hx => (hw x hx).1) m
  have hs := sum_bounds ws 1000000000 hw
  have := impl_Committee_weight.ev_l q ws m hm hl hw ws.length 0 0 (by omega) (by omega) (by simp; omega)
  simpa [impl_Committee_weight.f] using this
end Go.Proofs.Yticnoiflccbhcaa.Q

namespace Go.Proofs.Yticnoiflccbhcaa.Q
open Go.RowKit Go.Proofs.YticnoiflccbhcaaW.PrintWords Go.Proofs.YticnoiflccbhcaaW.PrintLast Go.Proofs.YticnoiflccbhcaaW.PrintMore Go.Proofs.YticnoiflccbhcaaM
set_option linter.unusedVariables false
set_option linter.unusedSimpArgs false
/-- The least weight of a winning set among the first ones, -1 if there is none. -/
def spWin (W : List Bool) (ws : List Int) : Nat → Int
  | 0 => -1
  | m + 1 => if W.getD m false = true then (if spWin W ws m < 0 ∨ wsum ws m < spWin W ws m then wsum ws m else spWin W ws m) else spWin W ws m
/-- The greatest weight of a losing set among the first ones, -1 if there is none. -/
def spLose (W : List Bool) (ws : List Int) : Nat → Int
  | 0 => -1
  | m + 1 => if W.getD m false = true then spLose W ws m else max (spLose W ws m) (wsum ws m)
theorem impl_votes_spare.ev_l (W : List Bool) (ws : List Int) (hW : W.length ≤ 1000000) (hl : ws.length ≤ 60) (hw : ∀ x ∈ ws, 0 ≤ x ∧ x ≤ 1000000000) : ∀ (d m : Nat), m + d = W.length → Ev (fun k => impl_votes_spare.l0 k (spWin W ws m) (spLose W ws m) W (W.length : Int) (m : Int) 0 ws) (spWin W ws W.length, spLose W ws W.length) := by
  intro d
  induction d with
  | zero =>
    intro m h
    refine ev_step ?_
    simp only [impl_votes_spare.l0]
    rw [ev_neg (by omega), ev_now, show m = W.length by omega]
  | succ d ih =>
    intro m h
    refine ev_step ?_
    simp only [impl_votes_spare.l0]
    have hm : m < W.length := by omega
    have hn := ih (m + 1) (by omega)
    have hr : rdOf false W (m : Int) = W.getD m false := rdOf_nat false W m
    rw [ev_pos (by omega), ev_pos (by omega), ev_pos (by omega), ev_bind (impl_Committee_weight.ev 0 ws m (by omega) hl hw), hr]
    have hwr : wrap64 ((m : Int) + 1) = ((m + 1 : Nat) : Int) := by rw [w64i (n := W.length) (by omega) (by omega) (by omega)]; omega
    simp only [spWin, spLose] at hn
    cases hb : W.getD m false with
    | false =>
      rw [hb] at hn
      simp only [Bool.false_eq_true, if_false] at hn
      rw [ev_neg (by simp)]
      refine ev_step ?_
      simp only [impl_votes_spare.j1, Bool.false_eq_true, if_false, hwr, mx_eq]
      exact hn
    | true =>
      rw [hb] at hn
      simp only [if_true] at hn
      rw [ev_pos rfl]
      by_cases h0 : spWin W ws m < 0
      · rw [ev_pos h0]
        rw [if_pos (.inl h0)] at hn
        refine ev_step ?_
        simp only [impl_votes_spare.j1, if_true, hwr]
        exact hn
      · rw [ev_neg h0]
        refine ev_step ?_
        simp only [impl_votes_spare.j1, if_true, hwr, decide_eq_true_eq]
        by_cases h1 : wsum ws m < spWin W ws m
        · rw [if_pos (.inr h1)] at hn
          rw [ev_pos h1]
          exact hn
        · rw [if_neg (by omega)] at hn
          rw [ev_neg h1]
          exact hn
theorem impl_votes_spare.ev (n : Int) (W : List Bool) (ws : List Int) (hW : W.length ≤ 1000000) (hl : ws.length ≤ 60) (hw : ∀ x ∈ ws, 0 ≤ x ∧ x ≤ 1000000000) : Ev (fun k => impl_votes_spare.f k n W ws) (spWin W ws W.length, spLose W ws W.length) := by
  have := impl_votes_spare.ev_l W ws hW hl hw W.length 0 (by omega)
  simpa [impl_votes_spare.f, spWin, spLose] using this
/-- No winning set so far, or the least weight of one. -/
theorem spWin_spec (W : List Bool) (ws : List Int) (hw : ∀ x ∈ ws, 0 ≤ x) : ∀ m, (spWin W ws m = -1 ∧ ∀ j, j < m → W.getD j false = false) ∨ (0 ≤ spWin W ws m ∧ (∃ j, j < m ∧ W.getD j false = true ∧ wsum ws j = spWin W ws m) ∧ ∀ j, j < m → W.getD j false = true → spWin W ws m ≤ wsum ws j) := by
  intro m
  induction m with
  | zero => exact .inl ⟨rfl, fun j hj => absurd hj (Nat.not_lt_zero j)⟩
  | succ m ih =>
    have hb := wsum_bounds ws hw m
    simp only [spWin]
    cases hW : W.getD m false with
    | false =>
      rw [if_neg (by simp)]
      rcases ih with ⟨h1, h2⟩ | ⟨h1, ⟨j, hj, hj2, hj3⟩, h3⟩
      · exact .inl ⟨h1, fun j hj => by
        by_cases e : j = m
        · subst e; exact hW
        · exact h2 j (by omega)⟩
      · refine .inr ⟨h1, ⟨j, by omega, hj2, hj3⟩, fun i hi hwi => ?_⟩
        by_cases e : i = m
        · subst e; rw [hW] at hwi; exact absurd hwi (by simp)
        · exact h3 i (by omega) hwi
    | true =>
      rw [if_pos rfl]
      right
      rcases ih with ⟨h1, h2⟩ | ⟨h1, ⟨j, hj, hj2, hj3⟩, h3⟩
      · rw [if_pos (.inl (by omega))]
        refine ⟨hb.1, ⟨m, by omega, hW, rfl⟩, fun i hi hwi => ?_⟩
        by_cases e : i = m
        · subst e; omega
        · rw [h2 i (by omega)] at hwi; exact absurd hwi (by simp)
      · by_cases hc : wsum ws m < spWin W ws m
        · rw [if_pos (.inr hc)]
          refine ⟨hb.1, ⟨m, by omega, hW, rfl⟩, fun i hi hwi => ?_⟩
          by_cases e : i = m
          · subst e; omega
          · have := h3 i (by omega) hwi; omega
        · rw [if_neg (by omega)]
          refine ⟨h1, ⟨j, by omega, hj2, hj3⟩, fun i hi hwi => ?_⟩
          by_cases e : i = m
          · subst e; omega
          · exact h3 i (by omega) hwi
theorem spLose_spec (W : List Bool) (ws : List Int) (hw : ∀ x ∈ ws, 0 ≤ x) : ∀ m, (spLose W ws m = -1 ∧ ∀ j, j < m → W.getD j false = true) ∨ (0 ≤ spLose W ws m ∧ (∃ j, j < m ∧ W.getD j false = false ∧ wsum ws j = spLose W ws m) ∧ ∀ j, j < m → W.getD j false = false → wsum ws j ≤ spLose W ws m) := by
  intro m
  induction m with
  | zero => exact .inl ⟨rfl, fun j hj => absurd hj (Nat.not_lt_zero j)⟩
  | succ m ih =>
    have hb := wsum_bounds ws hw m
    simp only [spLose]
    cases hW : W.getD m false with
    | true =>
      rw [if_pos rfl]
      rcases ih with ⟨h1, h2⟩ | ⟨h1, ⟨j, hj, hj2, hj3⟩, h3⟩
      · exact .inl ⟨h1, fun j hj => by
        by_cases e : j = m
        · subst e; exact hW
        · exact h2 j (by omega)⟩
      · refine .inr ⟨h1, ⟨j, by omega, hj2, hj3⟩, fun i hi hwi => ?_⟩
        by_cases e : i = m
        · subst e; rw [hW] at hwi; exact absurd hwi (by simp)
        · exact h3 i (by omega) hwi
    | false =>
      rw [if_neg (by simp)]
      right
      rcases ih with ⟨h1, h2⟩ | ⟨h1, ⟨j, hj, hj2, hj3⟩, h3⟩
      · rw [Int.max_eq_right (by omega)]
        refine ⟨hb.1, ⟨m, by omega, hW, rfl⟩, fun i hi hwi => ?_⟩
        by_cases e : i = m
        · subst e; omega
        · rw [h2 i (by omega)] at hwi; exact absurd hwi (by simp)
      · by_cases hc : spLose W ws m ≤ wsum ws m
        · rw [Int.max_eq_right hc]
          refine ⟨hb.1, ⟨m, by omega, hW, rfl⟩, fun i hi hwi => ?_⟩
          by_cases e : i = m
          · subst e; omega
          · have := h3 i (by omega) hwi; omega
        · rw [Int.max_eq_left (by omega)]
          refine ⟨h1, ⟨j, by omega, hj2, hj3⟩, fun i hi hwi => ?_⟩
          by_cases e : i = m
          · subst e; omega
          · exact h3 i (by omega) hwi
end Go.Proofs.Yticnoiflccbhcaa.Q

namespace Go.Proofs.Yticnoiflccbhcaa.Q
open Go.RowKit Go.Proofs.YticnoiflccbhcaaW.PrintWords Go.Proofs.YticnoiflccbhcaaW.PrintLast Go.Proofs.YticnoiflccbhcaaW.PrintMore Go.Proofs.YticnoiflccbhcaaM
set_option linter.unusedVariables false
set_option linter.unusedSimpArgs false
theorem spec_weQuota.ev_l (W : List Bool) (ws : List Int) (hW : W.length ≤ 1000000) (hl : ws.length ≤ 60) (hw : ∀ x ∈ ws, 0 ≤ x ∧ x ≤ 1000000000) (hb : spLose W ws W.length ≤ 1000000000000) : ∀ (d m : Nat), m + d = W.length → Ev (fun k => spec_weQuota.l0 k (spLose W ws m) (spWin W ws m) W (W.length : Int) (m : Int) 0 ws) (spLose W ws W.length + 1, decide (spLose W ws W.length < spWin W ws W.length)) := by
  intro d
  induction d with
  | zero =>
    intro m h
    refine ev_step ?_
    simp only [spec_weQuota.l0]
    obtain rfl : m = W.length := by omega
    have h1 : -1 ≤ spLose W ws W.length := by
      rcases spLose_spec W ws (fun x hx => (hw x hx).1) W.length with ⟨e, _⟩ | ⟨e, _⟩ <;> omega
    rw [ev_neg (by omega), ev_now, w64 (by omega) (by omega)]
  | succ d ih =>
    intro m h
    refine ev_step ?_
    simp only [spec_weQuota.l0]
    have hm : m < W.length := by omega
    have hn := ih (m + 1) (by omega)
    have hr : rdOf false W (m : Int) = W.getD m false := rdOf_nat false W m
    rw [ev_pos (by omega), ev_pos (by omega), ev_pos (by omega), ev_bind (spec_voWeight.ev 0 ws m (by omega) hl hw), hr]
    have hwr : wrap64 ((m : Int) + 1) = ((m + 1 : Nat) : Int) := by rw [w64i (n := W.length) (by omega) (by omega) (by omega)]; omega
    simp only [spWin, spLose] at hn
    cases hb : W.getD m false with
    | false =>
      rw [hb] at hn
      simp only [Bool.false_eq_true, if_false] at hn
      rw [ev_neg (by simp)]
      refine ev_step ?_
      simp only [spec_weQuota.j1, Bool.false_eq_true, if_false, hwr]
      by_cases h1 : wsum ws m > spLose W ws m
      · rw [ev_pos h1]
        rw [Int.max_eq_right (by omega)] at hn
        exact hn
      · rw [ev_neg h1]
        rw [Int.max_eq_left (by omega)] at hn
        exact hn
    | true =>
      rw [hb] at hn
      simp only [if_true] at hn
      rw [ev_pos rfl]
      by_cases h0 : spWin W ws m < 0
      · rw [ev_pos h0]
        rw [if_pos (.inl h0)] at hn
        refine ev_step ?_
        simp only [spec_weQuota.j1, if_true, hwr]
        exact hn
      · rw [ev_neg h0]
        refine ev_step ?_
        simp only [spec_weQuota.j1, if_true, hwr, decide_eq_true_eq]
        by_cases h1 : wsum ws m < spWin W ws m
        · rw [if_pos (.inr h1)] at hn
          rw [ev_pos h1]
          exact hn
        · rw [if_neg (by omega)] at hn
          rw [ev_neg h1]
          exact hn
theorem spec_weQuota.ev (W : List Bool) (ws : List Int) (hW : W.length ≤ 1000000) (hl : ws.length ≤ 60) (hw : ∀ x ∈ ws, 0 ≤ x ∧ x ≤ 1000000000) (hb : spLose W ws W.length ≤ 1000000000000) : Ev (fun k => spec_weQuota.f k W ws) (spLose W ws W.length + 1, decide (spLose W ws W.length < spWin W ws W.length)) := by
  have := spec_weQuota.ev_l W ws hW hl hw hb W.length 0 (by omega)
  simpa [spec_weQuota.f, spWin, spLose] using this
end Go.Proofs.Yticnoiflccbhcaa.Q

namespace Go.Proofs.Yticnoiflccbhcaa.Q
open Go.RowKit Go.Proofs.YticnoiflccbhcaaW.PrintWords Go.Proofs.YticnoiflccbhcaaW.PrintLast Go.Proofs.YticnoiflccbhcaaW.PrintMore Go.Proofs.YticnoiflccbhcaaM
set_option linter.unusedVariables false
set_option linter.unusedSimpArgs false
def quotaOkB (n : Int) (l : List (List Int)) (ws : List Int) : Bool := gameB n l && (decide ((ws.length : Int) = n) && ((ws.all fun x => decide (0 ≤ x) && decide (x ≤ 1000)) && !(ws.sum == 0)))
def quotaV (n : Int) (l : List (List Int)) (ws : List Int) : Int × Bool :=
  if quotaOkB n l ws = true then (if spWin (winsG n.toNat l) ws (2 ^ n.toNat) ≤ spLose (winsG n.toNat l) ws (2 ^ n.toNat) then (0, false) else (spLose (winsG n.toNat l) ws (2 ^ n.toNat) + 1, true)) else (0, false)
theorem quota_w {n : Int} {l : List (List Int)} {ws : List Int} (hg : GoodG n l) (hw : (ws.length : Int) = n) (ha : (ws.all fun x => decide (0 ≤ x) && decide (x ≤ 1000)) = true) : (∀ x ∈ ws, 0 ≤ x ∧ x ≤ 1000) ∧ ws.length ≤ 9 := by
  refine ⟨fun x hx => ?_, by have := hg.n9; omega⟩
  have := List.all_eq_true.1 ha x hx
  simp at this
  omega
theorem spLose_le9 (W : List Bool) (ws : List Int) (hw : ∀ x ∈ ws, 0 ≤ x ∧ x ≤ 1000) (hl : ws.length ≤ 60) (m : Nat) : -1 ≤ spLose W ws m ∧ spLose W ws m ≤ 60000 := by
  have hs := sum_bounds ws 1000 hw
  rcases spLose_spec W ws (fun x hx => (hw x hx).1) m with ⟨e, _⟩ | ⟨e, ⟨j, _, _, e2⟩, _⟩
  · omega
  · have hb := wsum_bounds ws (fun x hx => (hw x hx).1) j
    omega
theorem impl_QuotaOfGame.ev (n : Int) (l : List (List Int)) (ws : List Int) (hl : l.length ≤ 9223372036854775807) (hx : ∀ x ∈ l, x.length ≤ 9223372036854775807) (hw : ws.length ≤ 9223372036854775807) : Ev (fun k => impl_QuotaOfGame.f k n l ws) (quotaV n l ws) := by
  simp only [impl_QuotaOfGame.f]
  rw [ev_bind (impl_IsGame.ev n l hl hx)]
  have hno : quotaOkB n l ws = false → Ev (fun k => impl_QuotaOfGame.j0 k ws true n l) (quotaV n l ws) := fun h => by
    refine ev_step ?_
    simp only [impl_QuotaOfGame.j0]
    rw [ev_pos trivial, ev_now, quotaV, h, if_neg (by decide)]
  cases h1 : gameB n l with
  | false =>
    rw [ev_neg (by decide)]
    exact hno (by simp [quotaOkB, h1])
  | true =>
    have hg := (game_iff n l).1 h1
    rw [ev_pos rfl]
    by_cases h2 : (ws.length : Int) = n
    · rw [ev_pos h2, ev_bind (ev_of (show impl_areIn.f ws 0 1000 = some _ from rfl))]
      cases h3 : (ws.all fun x => decide (0 ≤ x) && decide (x ≤ 1000)) with
      | false =>
        rw [ev_neg (by decide)]
        exact hno (by simp only [quotaOkB, h1, h3, Bool.true_and, Bool.false_and, Bool.and_false])
      | true =>
        have hwb := quota_w hg h2 h3
        rw [ev_pos rfl, ev_bind (impl_sumOf.ev ws hw), wfold_w ws hwb.2 h3]
        cases h4 : (ws.sum == 0) with
        | true => exact hno (by simp only [quotaOkB, h4, Bool.not_true, Bool.and_false])
        | false =>
          have hok : quotaOkB n l ws = true := by simp only [quotaOkB, h1, h3, h4, decide_eq_true h2]; rfl
          refine ev_step ?_
          simp only [impl_QuotaOfGame.j0]
          have h9 := hg.n9
          have hn1 := hg.n1
          obtain ⟨hl126, hsets⟩ := good_sets hg
          rw [quotaV, if_pos hok]
          clear hno hok h1 h2 hg
          obtain ⟨m, rfl⟩ := Int.eq_ofNat_of_zero_le (show 0 ≤ n by omega)
          rw [Int.toNat_natCast]
          have hv := impl_Game_votes.ev m (by omega) l (by omega) hsets
          have hp : 2 ^ m ≤ 2 ^ 9 := Nat.pow_le_pow_right (by omega) (by omega)
          have hs := impl_votes_spare.ev (m : Int) (winsG m l) ws (by rw [winsG_length]; omega) (by omega) (fun x hx => by have := hwb.1 x hx; omega)
          rw [winsG_length] at hs
          have hb := spLose_le9 (winsG m l) ws hwb.1 (by omega) (2 ^ m)
          rw [ev_neg (by decide), ev_bind hv, ev_bind hs]
          by_cases c : spWin (winsG m l) ws (2 ^ m) ≤ spLose (winsG m l) ws (2 ^ m)
          · rw [ev_pos c, ev_now, if_pos c]
          · rw [ev_neg c, ev_now, if_neg c, w64 (by omega) (by omega)]
    · rw [ev_neg h2]
      exact hno (by simp only [quotaOkB, h1, decide_eq_false h2, Bool.false_and, Bool.and_false])
theorem spec_QuotaOfGame.ev (n : Int) (l : List (List Int)) (ws : List Int) (hl : l.length ≤ 9223372036854775807) (hx : ∀ x ∈ l, x.length ≤ 9223372036854775807) (hw : ws.length ≤ 9223372036854775807) : Ev (fun k => spec_QuotaOfGame.f k n l ws) (quotaV n l ws) := by
  simp only [spec_QuotaOfGame.f]
  rw [ev_bind (spec_gmGood.ev n l hl hx)]
  have hno : quotaOkB n l ws = false → Ev (fun k => spec_QuotaOfGame.j0 k ws true n l) (quotaV n l ws) := fun h => by
    refine ev_step ?_
    simp only [spec_QuotaOfGame.j0]
    rw [ev_pos trivial, ev_now, quotaV, h, if_neg (by decide)]
  cases h1 : gameB n l with
  | false =>
    rw [ev_neg (by decide)]
    exact hno (by simp [quotaOkB, h1])
  | true =>
    have hg := (game_iff n l).1 h1
    rw [ev_pos rfl]
    by_cases h2 : (ws.length : Int) = n
    · rw [ev_pos h2, ev_bind (spec_l1All.ev ws 0 1000 hw)]
      cases h3 : (ws.all fun x => decide (0 ≤ x) && decide (x ≤ 1000)) with
      | false =>
        rw [ev_neg (by decide)]
        exact hno (by simp only [quotaOkB, h1, h3, Bool.true_and, Bool.false_and, Bool.and_false])
      | true =>
        have hwb := quota_w hg h2 h3
        rw [ev_pos rfl, ev_bind (spec_voSum.ev ws hw), wfold_w ws hwb.2 h3]
        cases h4 : (ws.sum == 0) with
        | true => exact hno (by simp only [quotaOkB, h4, Bool.not_true, Bool.and_false])
        | false =>
          have hok : quotaOkB n l ws = true := by simp only [quotaOkB, h1, h3, h4, decide_eq_true h2]; rfl
          refine ev_step ?_
          simp only [spec_QuotaOfGame.j0]
          have h9 := hg.n9
          have hn1 := hg.n1
          obtain ⟨hl126, hsets⟩ := good_sets hg
          rw [quotaV, if_pos hok]
          clear hno hok h1 h2 hg
          obtain ⟨m, rfl⟩ := Int.eq_ofNat_of_zero_le (show 0 ≤ n by omega)
          rw [Int.toNat_natCast]
          have hv := spec_gmAll.ev m (by omega) l (by omega) hsets
          have hp : 2 ^ m ≤ 2 ^ 9 := Nat.pow_le_pow_right (by omega) (by omega)
          have hb := spLose_le9 (winsG m l) ws hwb.1 (by omega) (2 ^ m)
          have hs := spec_weQuota.ev (winsG m l) ws (by rw [winsG_length]; omega) (by omega) (fun x hx => by have := hwb.1 x hx; omega) (by rw [winsG_length]; omega)
          rw [winsG_length] at hs
          rw [ev_neg (by decide), ev_bind hv, ev_bind hs]
          by_cases c : spWin (winsG m l) ws (2 ^ m) ≤ spLose (winsG m l) ws (2 ^ m)
          · rw [ev_neg (by simp; omega), ev_now, if_pos c]
          · rw [ev_pos (by simp; omega), ev_now, if_neg c]
    · rw [ev_neg h2]
      exact hno (by simp only [quotaOkB, h1, decide_eq_false h2, Bool.false_and, Bool.and_false])
end Go.Proofs.Yticnoiflccbhcaa.Q

namespace Go.Proofs.Yticnoiflccbhcaa.Q
open Go.RowKit Go.Proofs.YticnoiflccbhcaaW.PrintWords Go.Proofs.YticnoiflccbhcaaW.PrintLast Go.Proofs.YticnoiflccbhcaaW.PrintMore Go.Proofs.YticnoiflccbhcaaM
set_option linter.unusedVariables false
set_option linter.unusedSimpArgs false
theorem laws_FnExactQuotaOfGame.law (n : Int) (l : List (List Int)) (ws : List Int) (okn : OkI n) (okl : OkLL l) (okws : OkL ws) : Ev (fun k => laws_FnExactQuotaOfGame.f k n l ws) true := by
  have hl := okl.len
  have hx : ∀ x ∈ l, x.length ≤ 9223372036854775807 := fun x hx => (okl.2 x hx).len
  have hw := okws.len
  simp only [laws_FnExactQuotaOfGame.f]
  by_cases h1 : (ws.length : Int) > 1048576
  · rw [ev_pos h1, ev_now]
  obtain ⟨r, hr1, hr2, hr3⟩ := laws_szGame.ev n l 1048576 hl hx (by omega) (by omega)
  rw [ev_neg h1, ev_bind hr2]
  by_cases h2 : r < 0
  · rw [ev_pos h2, ev_now]
  obtain ⟨hl2, hx2⟩ := hr3 (by omega)
  have hx3 : ∀ x ∈ l, x.length ≤ 35184372088832 := fun x hx => by have := hx2 x hx; omega
  have ht := laws_toGame.ev n l (by omega) hx3
  have hti := laws_toIntS.ev ws (by omega)
  have hs := spec_QuotaOfGame.ev n l ws hl hx hw
  have hi := impl_QuotaOfGame.ev n l ws hl hx hw
  have he := laws_eqGame.ev_same n l hl hx
  have hei := laws_eqIntS.ev ws ws hw
  rw [ev_neg h2, ev_bind ht, ev_bind hti, ev_bind hs, ev_bind ht, ev_bind hti, ev_bind hi, ev_pos rfl]
  refine ev_step ?_
  simp only [laws_FnExactQuotaOfGame.j0]
  rw [ev_neg (by simp), ev_bind ht, ev_bind he, ev_pos rfl, ev_bind hti, ev_bind hei, ev_pos (by simp), ev_now]
end Go.Proofs.Yticnoiflccbhcaa.Q

namespace Go.Proofs.YticnoiflccbhcaaO
open Go.RowKit Go.ChangeShapes Go.WideShapes Go.ChangeAt Go.Proofs.YticnoiflccbhcaaW.PrintWords Go.Proofs.YticnoiflccbhcaaM
section
variable {H : Type} {enc : TypeId × Value → H} {P : Program} {w : World} {α : Type}
/-- One cell of type t reads as a value of kind d. -/
def Reads1 (enc : TypeId × Value → H) (P : Program) (w : World) (t : TypeId) (d : Kd α) (ok : α → Prop) : Prop :=
  ∀ fuel v x, DataW.trod enc P w 0 (fun _ => true) true fuel t [v] = some x → ∃ a, d.K w a [v] ∧ ok a
theorem reads_int {t : TypeId} {k : IntKind} (hu : P.underlying t = some (.int k)) : Reads1 enc P w t (Kd.int k) (fun n => (Lit.int k n).wf = true) := by
  intro fuel v x h
  obtain ⟨n, e, _, hw⟩ := DataW.trod_int hu h
  exact ⟨n, e, hw⟩
theorem reads_slice {t e : TypeId} {d : Kd α} {ok : α → Prop} (hu : P.underlying t = some (.slice e)) (hc : P.cellsOf e = 1) (hs : d.sz = 1) (he : Reads1 enc P w e d ok) :
    Reads1 enc P w t (Kd.slice e d) (fun l => l.length ≤ maxLen ∧ ∀ x ∈ l, ok x) := by
  intro fuel v x h
  rcases Go.Deep.open_slice1 hu hc h with ⟨hcs, _⟩ | ⟨a, len, cap, m, n, V, D, Pl, hcs, _, hl, hm, hmm, _, hx⟩
  · obtain rfl : v = .slice none 0 0 := by simpa using hcs
    refine ⟨[], ⟨none, 0, rfl, Nat.le_refl _, rfl, Nat.zero_le _, fun h => absurd h (Nat.lt_irrefl _)⟩, Nat.zero_le _, fun _ h => by cases h⟩
  · obtain rfl : v = .slice (some a) len cap := by simpa using hcs
    have hlm : len ≤ m := by rw [hmm]; simpa using hl
    have hall : ∀ i, i < len → ∃ b, d.K w b [V i] ∧ ok b := fun i hi => he n (V i) _ (hx i (by omega)).2
    have key : ∀ j, j ≤ len → ∃ l : List α, l.length = j ∧ (∀ i b, l[i]? = some b → d.K w b [V i] ∧ ok b) := by
      intro j
      induction j with
      | zero => exact fun _ => ⟨[], rfl, fun i b h => by simp at h⟩
      | succ j ih =>
        intro hj
        obtain ⟨l, hl1, hl2⟩ := ih (by omega)
        obtain ⟨b, hb⟩ := hall j (by omega)
        refine ⟨l ++ [b], by simp [hl1], fun i c h => ?_⟩
        rcases Nat.lt_or_ge i l.length with hi | hi
        · rw [List.getElem?_append_left hi] at h
          exact hl2 i c h
        · have e : i = l.length := by
            have := (List.getElem?_eq_some_iff.1 h).1
            rw [List.length_append, List.length_singleton] at this
            omega
          subst e
          obtain rfl : b = c := by simpa using h
          rw [hl1]
          exact hb
    obtain ⟨l, hl1, hl2⟩ := key len (Nat.le_refl _)
    subst hl1
    refine ⟨l, ⟨some a, cap, rfl, hl, rfl, by unfold maxLen at hm; omega, fun _ => ⟨a, rfl, fun j p hj => ⟨[V j], by rw [hs]; rfl, (hl2 j p hj).1, fun i u hi => ?_⟩⟩⟩, Nat.le_trans hl hm, fun x hxm => ?_⟩
    · match i, hi with
      | 0, hi =>
        obtain rfl : V j = u := by simpa using hi
        have hj' := (List.getElem?_eq_some_iff.1 hj).1
        rw [hs, Nat.mul_one, Nat.add_zero]
        exact (hx j (by omega)).1
      | i + 1, hi => simp at hi
    · obtain ⟨i, hi, rfl⟩ := List.mem_iff_getElem.1 hxm
      exact (hl2 i _ (List.getElem?_eq_getElem hi)).2
/-- A slice that is an argument. -/
theorem open_slice_arg {r : Reach} {b0 : Nat} {t e : TypeId} {d : Kd α} {ok' : List α → Prop} {v : Value} {dd : DataW H} {ps : List MemPlace} (hu : P.underlying t = some (.slice e)) (hr : Reads1 enc P w t (Kd.slice e d) ok') (hv : Value.okWide P w r b0 t v)
    (h : DataW.Trod enc P w 0 (fun _ => true) true t v dd ps) : ∃ (A : Option Addr) (c : Nat) (l : List α), v = .slice A l.length c ∧ l.length ≤ c ∧ d.C w A l.length l ∧ ok' l := by
  obtain ⟨a, len, cap, rfl⟩ := okWide_slice hu hv
  obtain ⟨fuel, hf⟩ := h
  obtain ⟨l, ⟨A, c, hcs, hlc, hC⟩, ho⟩ := hr fuel _ _ hf
  exact ⟨A, c, l, by simpa using hcs, hlc, hC, ho⟩
end
end Go.Proofs.YticnoiflccbhcaaO
