/- Printed functions, their contracts and plain facts on them: PDummiesOf; PLawInts; QLawsHeldCommittee; PLawCommittee; PLFnExactDummiesOf; O. Conditions: as each theorem states. -/
import Derived.Deep.Slices
import Derived.Lib.SmallJoins
import Derived.OpenShut
import Derived.ShutString
import Derived.ChangeArms
import Derived.ChangeOld
import Derived.Test.YticnoiflccbhcaaWWords
import Derived.Test.YticnoiflccbhcaaGDummiesOfx0
import Derived.Test.YticnoiflccbhcaaGDummiesOfx2
import Derived.Test.YticnoiflccbhcaaGDummiesOfx1
namespace Go.Proofs.Yticnoiflccbhcaa.Q
open Go.RowKit Go.Proofs.YticnoiflccbhcaaW.PrintWords Go.Proofs.YticnoiflccbhcaaW.PrintLast Go.Proofs.YticnoiflccbhcaaW.PrintMore Go.Proofs.YticnoiflccbhcaaM
set_option linter.unusedVariables false
set_option linter.unusedSimpArgs false
def takeI (P : Nat → Bool) (i : Nat) : List Int := ((List.range i).filter P).map fun (i : Nat) => (i : Int)
theorem takeI_succ (P : Nat → Bool) (i : Nat) : takeI P (i + 1) = if P i = true then takeI P i ++ [(i : Int)] else takeI P i := by
  unfold takeI
  rw [List.range_succ, List.filter_append, List.map_append]
  by_cases h : P i = true
  · rw [if_pos h]
    simp [h]
  · rw [if_neg h]
    simp [h]
theorem takeI_len (P : Nat → Bool) (i : Nat) : (takeI P i).length ≤ i := by
  unfold takeI
  rw [List.length_map]
  have := List.length_filter_le P (List.range i)
  rw [List.length_range] at this
  exact this
theorem takeI_congr {P Q : Nat → Bool} {n : Nat} (h : ∀ i, i < n → P i = Q i) : takeI P n = takeI Q n := by
  unfold takeI
  congr 1
  exact List.filter_congr (fun i hi => h i (List.mem_range.1 hi))
theorem impl_members.ev_l (n : Nat) (hn : n ≤ 1000000) (p : Int → Bool) : ∀ (d i : Nat), i + d = n → Ev (fun k => impl_members.l0 k (fun x => some (p x)) (n : Int) (takeI (fun i => p (i : Int)) i) (i : Int)) (takeI (fun i => p (i : Int)) n) := by
  intro d
  induction d with
  | zero =>
    intro i h
    refine ev_step ?_
    simp only [impl_members.l0]
    rw [ev_neg (by omega), ev_now, show i = n by omega]
  | succ d ih =>
    intro i h
    refine ev_step ?_
    simp only [impl_members.l0, Option.bind_some]
    have hl := takeI_len (fun i => p (i : Int)) i
    have hih := ih (i + 1) (by omega)
    rw [takeI_succ] at hih
    rw [ev_pos (by omega), w64 (by omega) (by omega)]
    by_cases hp : p (i : Int) = true
    · rw [if_pos hp] at hih
      rw [ev_pos hp, ev_pos (by omega)]
      exact hih
    · rw [if_neg hp] at hih
      rw [ev_neg hp]
      exact hih
theorem impl_members.ev (n : Nat) (hn : n ≤ 1000000) (p : Int → Bool) : Ev (fun k => impl_members.g k (n : Int) (fun x => some (p x))) (takeI (fun i => p (i : Int)) n) := impl_members.ev_l n hn p n 0 (by omega)
def idleP (L : List (List Int)) (i : Nat) : Bool := !(L.any fun s => s.contains (i : Int))
def dumV (q : Int) (ws : List Int) : List Int × Bool := if goodB q ws = true then (takeI (idleP (Go.Proofs.YticnoiflccbhcaaS.sortL (takeL (leastB (winsL q ws) ws.length) (winsL q ws).length))) ws.length, true) else ([], false)
theorem impl_DummiesOf.ev (q : Int) (ws : List Int) (hl : ws.length ≤ 9223372036854775807) : Ev (fun k => impl_DummiesOf.f k q ws) (dumV q ws) := by
  simp only [impl_DummiesOf.f]
  rw [ev_bind (impl_IsCommittee.ev q ws hl)]
  unfold dumV
  cases hg : goodB q ws with
  | false => rw [ev_neg (by decide), ev_now, if_neg (by decide)]
  | true =>
    have hc := (good_iff q ws).1 hg
    have h9 := hc.l9
    have hwl := winsL_length q ws
    have hi : Ev (fun k => impl_votes_idle.f k (ws.length : Int) (winsL q ws)) (takeI (idleP (Go.Proofs.YticnoiflccbhcaaS.sortL (takeL (leastB (winsL q ws) ws.length) (winsL q ws).length))) ws.length) := by
      simp only [impl_votes_idle.f]
      rw [ev_pos (by omega), ev_bind (impl_votes_least.ev (winsL q ws) ws.length hwl (by omega))]
      exact impl_members.ev ws.length (by omega) _
    rw [ev_pos rfl, if_pos rfl, ev_bind (impl_Committee_votes.ev q ws h9 hc.wb), ev_bind hi, ev_now]
/-! the reference -/
def usedR (s : List Int) (acc : List Bool) : List Bool := s.foldl (fun acc x => acc.set x.toNat true) acc
def usedL (L : List (List Int)) (acc : List Bool) : List Bool := L.foldl (fun acc s => usedR s acc) acc
theorem usedR_len (s : List Int) : ∀ acc : List Bool, (usedR s acc).length = acc.length := by
  induction s with
  | nil => intro acc; rfl
  | cons x s ih =>
    intro acc
    show (usedR s _).length = _
    rw [ih, List.length_set]
theorem usedL_len (L : List (List Int)) : ∀ acc : List Bool, (usedL L acc).length = acc.length := by
  induction L with
  | nil => intro acc; rfl
  | cons s L ih =>
    intro acc
    show (usedL L _).length = _
    rw [ih, usedR_len]
theorem usedR_get (s : List Int) : ∀ (acc : List Bool) (j : Nat), j < acc.length → (∀ x ∈ s, 0 ≤ x) → (usedR s acc).getD j false = (acc.getD j false || s.contains (j : Int)) := by
  induction s with
  | nil => intro acc j _ _; simp [usedR]
  | cons x s ih =>
    intro acc j hj hx
    have h0 := hx x List.mem_cons_self
    show (usedR s (acc.set x.toNat true)).getD j false = _
    rw [ih _ j (by rw [List.length_set]; exact hj) (fun y hy => hx y (List.mem_cons_of_mem _ hy)), List.contains_cons]
    by_cases e : x.toNat = j
    · have e1 : ((j : Int) == x) = true := beq_iff_eq.2 (by omega)
      rw [e1, ← e, List.getD_eq_getElem?_getD, List.getElem?_set_self (by omega)]
      simp
    · have e1 : ((j : Int) == x) = false := beq_eq_false_iff_ne.2 (by omega)
      rw [e1, List.getD_eq_getElem?_getD, List.getElem?_set_ne e, List.getD_eq_getElem?_getD, Bool.false_or]
theorem usedL_get (L : List (List Int)) : ∀ (acc : List Bool) (j : Nat), j < acc.length → (∀ s ∈ L, ∀ x ∈ s, 0 ≤ x) → (usedL L acc).getD j false = (acc.getD j false || L.any fun s => s.contains (j : Int)) := by
  induction L with
  | nil => intro acc j _ _; simp [usedL]
  | cons s L ih =>
    intro acc j hj hx
    show (usedL L (usedR s acc)).getD j false = _
    rw [ih _ j (by rw [usedR_len]; exact hj) (fun t ht => hx t (List.mem_cons_of_mem _ ht)), usedR_get s acc j hj (hx s List.mem_cons_self), List.any_cons, Bool.or_assoc]
theorem spec_DummiesOf.ev_l2 (U : List Bool) (hU : U.length ≤ 1000000) : ∀ (d i : Nat), i + d = U.length → Ev (fun k => spec_DummiesOf.l2 k (takeI (fun i => !(U.getD i false)) i) U (U.length : Int) (i : Int)) (takeI (fun i => !(U.getD i false)) U.length, true) := by
  intro d
  induction d with
  | zero =>
    intro i h
    refine ev_step ?_
    simp only [spec_DummiesOf.l2]
    rw [ev_neg (by omega), ev_now, show i = U.length by omega]
  | succ d ih =>
    intro i h
    refine ev_step ?_
    simp only [spec_DummiesOf.l2]
    have hi : i < U.length := by omega
    have hl := takeI_len (fun i => !(U.getD i false)) i
    have hih := ih (i + 1) (by omega)
    rw [takeI_succ] at hih
    rw [ev_pos (by omega), ev_pos (by omega), ev_pos (by omega), rdOf_nat, w64 (by omega) (by omega)]
    cases hu : U.getD i false with
    | true =>
      rw [hu, if_neg (by decide)] at hih
      rw [ev_pos rfl]
      exact hih
    | false =>
      rw [hu, if_pos (by decide)] at hih
      rw [ev_neg (by decide), ev_pos (by omega)]
      exact hih
theorem spec_DummiesOf.ev_l1 (L : List (List Int)) (hL : L.length ≤ 1000000) (N i : Nat) (hi : i < L.length) (hs : L[i].length ≤ 1000000) (hx : ∀ x ∈ L[i], 0 ≤ x ∧ x < (N : Int)) (R : List Int × Bool) : ∀ (d j : Nat) (acc : List Bool), j + d = L[i].length → acc.length = N → Ev (fun k => spec_DummiesOf.l0 k (usedR (L[i].drop j) acc) L (L.length : Int) ((i : Int) + 1)) R → Ev (fun k => spec_DummiesOf.l1 k acc L (L.length : Int) (i : Int) L[i] (L[i].length : Int) (j : Int)) R := by
  intro d
  induction d with
  | zero =>
    intro j acc h ha hn
    refine ev_step ?_
    simp only [spec_DummiesOf.l1]
    rw [List.drop_of_length_le (by omega)] at hn
    rw [ev_neg (by omega), w64i (i := (i : Int)) (n := L.length) (by omega) (by omega) (by omega)]
    exact hn
  | succ d ih =>
    intro j acc h ha hn
    refine ev_step ?_
    simp only [spec_DummiesOf.l1]
    have hj : j < L[i].length := by omega
    have hxj := hx _ (List.getElem_mem hj)
    rw [List.drop_eq_getElem_cons hj] at hn
    rw [ev_pos (by omega), ev_pos (by omega), ev_pos (by omega), rd_lt L[i] j hj, ev_pos hxj.1, ev_pos (by omega), w64i (i := (j : Int)) (n := L[i].length) (by omega) (by omega) (by omega)]
    exact ih (j + 1) _ (by omega) (by rw [List.length_set]; exact ha) hn
theorem spec_DummiesOf.ev_l0 (L : List (List Int)) (hL : L.length ≤ 1000000) (N : Nat) (hN : N ≤ 1000000) (hs : ∀ s ∈ L, s.length ≤ 1000000 ∧ ∀ x ∈ s, 0 ≤ x ∧ x < (N : Int)) : ∀ (d i : Nat) (acc : List Bool), i + d = L.length → acc.length = N → Ev (fun k => spec_DummiesOf.l0 k acc L (L.length : Int) (i : Int)) (takeI (fun j => !((usedL (L.drop i) acc).getD j false)) N, true) := by
  intro d
  induction d with
  | zero =>
    intro i acc h ha
    refine ev_step ?_
    simp only [spec_DummiesOf.l0]
    rw [ev_neg (by omega), List.drop_of_length_le (by omega)]
    have := spec_DummiesOf.ev_l2 acc (by omega) acc.length 0 (by omega)
    rw [ha] at this ⊢
    exact this
  | succ d ih =>
    intro i acc h ha
    refine ev_step ?_
    simp only [spec_DummiesOf.l0]
    have hi : i < L.length := by omega
    have hsi := hs _ (List.getElem_mem hi)
    rw [ev_pos (by omega), ev_pos (by omega), ev_pos (by omega), rd_L2_lt L i hi, List.drop_eq_getElem_cons hi]
    refine spec_DummiesOf.ev_l1 L hL N i hi hsi.1 hsi.2 _ L[i].length 0 acc (by omega) ha ?_
    rw [List.drop_zero]
    exact ih (i + 1) _ (by omega) (by rw [usedR_len]; exact ha)
theorem spec_DummiesOf.ev (q : Int) (ws : List Int) (hl : ws.length ≤ 9223372036854775807) : Ev (fun k => spec_DummiesOf.f k q ws) (dumV q ws) := by
  simp only [spec_DummiesOf.f]
  rw [ev_bind (spec_voGood.ev q ws hl)]
  unfold dumV
  cases hg : goodB q ws with
  | false => rw [ev_neg (by decide), ev_now, if_neg (by decide)]
  | true =>
    have hc := (good_iff q ws).1 hg
    have h9 := hc.l9
    have hp := hc.pow
    have hwl := winsL_length q ws
    have hlen := takeL_len (leastB (winsL q ws) ws.length) (winsL q ws).length
    have hin := fun s hs => sortL_in (P := leastB (winsL q ws) ws.length) (N := (winsL q ws).length) (n := ws.length) (by omega) (by omega) s hs
    rw [ev_pos rfl, if_pos rfl, ev_pos (by omega), ev_pos (by omega), Int.toNat_natCast, ev_bind (spec_voWins.ev q ws h9 hc.wb), ev_bind (spec_voLeast.ev (winsL q ws) ws.length hwl (by omega))]
    have := spec_DummiesOf.ev_l0 (Go.Proofs.YticnoiflccbhcaaS.sortL (takeL (leastB (winsL q ws) ws.length) (winsL q ws).length)) (by rw [sortL_len]; omega) ws.length (by omega) (fun s hs => ⟨by have := (hin s hs).1; omega, (hin s hs).2⟩) _ 0 (List.replicate ws.length false) (Nat.zero_add _) (by simp)
    rw [List.drop_zero, takeI_congr (Q := idleP (Go.Proofs.YticnoiflccbhcaaS.sortL (takeL (leastB (winsL q ws) ws.length) (winsL q ws).length))) (fun j hj => ?_)] at this
    · exact this
    · rw [usedL_get _ _ j (by rw [List.length_replicate]; exact hj) (fun s hs x hx => ((hin s hs).2 x hx).1), idleP]
      have : (List.replicate ws.length false).getD j false = false := by
        rw [List.getD_eq_getElem?_getD, List.getElem?_eq_getElem (by rw [List.length_replicate]; exact hj)]
        simp
      rw [this, Bool.false_or]
theorem dumV_len (q : Int) (ws : List Int) : (dumV q ws).1.length ≤ 10 := by
  unfold dumV
  split
  · next h =>
    have := ((good_iff q ws).1 h).l9
    have h2 := takeI_len (idleP (Go.Proofs.YticnoiflccbhcaaS.sortL (takeL (leastB (winsL q ws) ws.length) (winsL q ws).length))) ws.length
    show (takeI _ _).length ≤ 10
    omega
  · simp
end Go.Proofs.Yticnoiflccbhcaa.Q

namespace Go.Proofs.Yticnoiflccbhcaa.Q
open Go.RowKit Go.Proofs.YticnoiflccbhcaaW.PrintWords Go.Proofs.YticnoiflccbhcaaW.PrintLast Go.Proofs.YticnoiflccbhcaaW.PrintMore Go.Proofs.YticnoiflccbhcaaM
set_option linter.unusedVariables false
set_option linter.unusedSimpArgs false
theorem laws_toIntS.ev_l (l : List Int) (hl : l.length ≤ 35184372088832) : ∀ (d i : Nat) (acc : List Int), i + d = l.length → acc.length = l.length → acc.take i = l.take i → Ev (fun k => laws_toIntS.l0 k l acc (i : Int)) l := by
  intro d
  induction d with
  | zero =>
    intro i acc h hlen ht
    refine ev_step ?_
    simp only [laws_toIntS.l0]
    rw [ev_neg (by omega), ev_now]
    rwa [List.take_of_length_le (by omega), List.take_of_length_le (by omega)] at ht
  | succ d ih =>
    intro i acc h hlen ht
    refine ev_step ?_
    simp only [laws_toIntS.l0]
    have hi : i < l.length := by omega
    rw [ev_pos (by omega), ev_pos (by omega), ev_pos (by omega), w64i (n := l.length) (by omega) (by omega) (by omega), rd_lt l i hi, Int.toNat_natCast]
    refine ih (i + 1) _ (by omega) (by simpa using hlen) ?_
    rw [List.take_succ_eq_append_getElem (by simp; omega), List.take_succ_eq_append_getElem hi, List.take_set_of_le (by omega), ht]
    simp
theorem laws_toIntS.ev (l : List Int) (hl : l.length ≤ 35184372088832) : Ev (fun k => laws_toIntS.f k l) l := by
  simp only [laws_toIntS.f]
  rw [ev_pos (by omega), ev_pos (by omega)]
  exact laws_toIntS.ev_l l hl l.length 0 _ (by omega) (by simp) (by simp)
theorem laws_eqIntS.ev_l (a b : List Int) (hl : a.length ≤ 9223372036854775807) (hab : a.length = b.length) : ∀ (d i : Nat), i + d = a.length → Ev (fun k => laws_eqIntS.l0 k a b (i : Int)) (decide (a.drop i = b.drop i)) := by
  intro d
  induction d with
  | zero =>
    intro i h
    refine ev_step ?_
    simp only [laws_eqIntS.l0]
    rw [ev_neg (by omega), ev_now, List.drop_of_length_le (by omega), List.drop_of_length_le (by omega)]
    rfl
  | succ d ih =>
    intro i h
    refine ev_step ?_
    simp only [laws_eqIntS.l0]
    have hi : i < a.length := by omega
    have hj : i < b.length := by omega
    rw [ev_pos (by omega), ev_pos (by omega), ev_pos (by omega), rd_lt a i hi, rd_lt b i hj, w64i (n := a.length) (by omega) (by omega) (by omega)]
    have ed : decide (a.drop i = b.drop i) = (decide (a[i] = b[i]) && decide (a.drop (i + 1) = b.drop (i + 1))) := by
      rw [List.drop_eq_getElem_cons hi, List.drop_eq_getElem_cons hj, ← Bool.decide_and]
      simp only [List.cons.injEq]
    rw [ed]
    by_cases e : a[i] = b[i]
    · rw [ev_pos e, decide_eq_true e, Bool.true_and]
      exact ih (i + 1) (by omega)
    · rw [ev_neg e, ev_now, decide_eq_false e, Bool.false_and]
theorem laws_eqIntS.ev (a b : List Int) (hl : a.length ≤ 9223372036854775807) : Ev (fun k => laws_eqIntS.f k a b) (decide (a = b)) := by
  simp only [laws_eqIntS.f]
  by_cases h : a.length = b.length
  · rw [ev_pos (by omega)]
    exact laws_eqIntS.ev_l a b hl h a.length 0 (by omega)
  · rw [ev_neg (by omega), ev_now]
    have : a ≠ b := fun e => h (by rw [e])
    simp [this]
/-- The numbers from k on, as many as are asked. -/
def marks (k : Int) (n : Nat) : List Int := (List.range n).map fun (i : Nat) => k + (i : Int)
theorem marks_length (k : Int) (n : Nat) : (marks k n).length = n := by simp [marks]
theorem marks_get (k : Int) (n i : Nat) (h : i < (marks k n).length) : (marks k n)[i] = k + (i : Int) := by simp [marks]
theorem laws_markIntS.ev_l (n : Nat) (c : Int) (hn : n ≤ 9223372036854775807) (hc0 : 0 ≤ c) (hc : c + (n : Int) ≤ 9223372036854775807) : ∀ (d i : Nat) (acc : List Int), i + d = n → acc.length = n → acc.take i = (marks c n).take i → Ev (fun k => laws_markIntS.l0 k acc (c + (i : Int)) (i : Int)) (c + (n : Int), marks c n) := by
  intro d
  induction d with
  | zero =>
    intro i acc h hlen ht
    refine ev_step ?_
    simp only [laws_markIntS.l0]
    rw [ev_neg (by omega), ev_now]
    rw [List.take_of_length_le (by omega), List.take_of_length_le (by rw [marks_length]; omega)] at ht
    rw [ht, show i = n by omega]
  | succ d ih =>
    intro i acc h hlen ht
    refine ev_step ?_
    simp only [laws_markIntS.l0]
    have hi : i < n := by omega
    rw [ev_pos (by omega), ev_pos (by omega), w64i (i := (i : Int)) (n := n) (by omega) (by omega) hn, w64 (x := c + (i : Int) + 1) (by omega) (by omega), Int.toNat_natCast]
    rw [show c + (i : Int) + 1 = c + ((i + 1 : Nat) : Int) by omega]
    refine ih (i + 1) _ (by omega) (by simpa using hlen) ?_
    rw [List.take_succ_eq_append_getElem (by simp; omega), List.take_succ_eq_append_getElem (by rw [marks_length]; omega), List.take_set_of_le (by omega), ht, marks_get]
    simp
theorem laws_markIntS.ev (l : List Int) (c : Int) (hc0 : 0 ≤ c) (hc : c + (l.length : Int) ≤ 9223372036854775807) : Ev (fun k => laws_markIntS.f k l c) (c + (l.length : Int), marks c l.length) := by
  have := laws_markIntS.ev_l l.length c (by omega) hc0 hc l.length 0 l (by omega) rfl (by simp)
  simpa [laws_markIntS.f] using this
theorem laws_heldIntS.ev_l (n : Nat) (c : Int) (hn : n ≤ 9223372036854775807) (hc0 : 0 ≤ c) (hc : c + (n : Int) ≤ 9223372036854775807) : ∀ (d i : Nat), i + d = n → Ev (fun k => laws_heldIntS.l0 k (marks c n) (c + (i : Int)) (i : Int)) (c + (n : Int)) := by
  intro d
  induction d with
  | zero =>
    intro i h
    refine ev_step ?_
    simp only [laws_heldIntS.l0]
    rw [marks_length, ev_neg (by omega), ev_now]
    omega
  | succ d ih =>
    intro i h
    refine ev_step ?_
    simp only [laws_heldIntS.l0]
    have hi : i < (marks c n).length := by rw [marks_length]; omega
    rw [rd_lt _ i hi, marks_get, marks_length, ev_pos (by omega), ev_pos (by omega), ev_pos rfl, w64i (i := (i : Int)) (n := n) (by omega) (by omega) hn, w64 (x := c + (i : Int) + 1) (by omega) (by omega)]
    rw [show c + (i : Int) + 1 = c + ((i + 1 : Nat) : Int) by omega]
    exact ih (i + 1) (by omega)
theorem laws_heldIntS.ev (n : Nat) (c : Int) (hc0 : 0 ≤ c) (hc : c + (n : Int) ≤ 9223372036854775807) : Ev (fun k => laws_heldIntS.f k (marks c n) c) (c + (n : Int)) := by
  have := laws_heldIntS.ev_l n c (by omega) hc0 hc n 0 (by omega)
  simpa [laws_heldIntS.f] using this
theorem laws_szIntS.v (l : List Int) (c : Int) (hc : c ≤ 9223372036854775807) (hl : (l.length : Int) ≤ 9223372036854775807 + c) : laws_szIntS.f l c = some (if c - (l.length : Int) < 0 then -1 else c - (l.length : Int)) := by
  unfold laws_szIntS.f
  rw [w64 (by omega) (by omega)]
  split <;> rfl
end Go.Proofs.Yticnoiflccbhcaa.Q

namespace Go.Proofs.Yticnoiflccbhcaa.Q
open Go.RowKit Go.Proofs.YticnoiflccbhcaaX Go.Proofs.YticnoiflccbhcaaW.PrintWords Go.Proofs.YticnoiflccbhcaaW.PrintLast Go.Proofs.YticnoiflccbhcaaW.PrintMore
attribute [local go_sem] max2_int min2_int max_two min_two max_three min_three max_four min_four   -- for this text's walks alone
set_option linter.unusedVariables false
set_option linter.unusedSimpArgs false

/-! ### laws_heldCommittee: function 21 -/
def laws_heldCommittee.f (k : Nat) (a0_0 : Int) (l0_1 : List Int) (a1 : Int) : Option (Int) := (laws_heldIntS.f k l0_1 a1).bind fun t102 => (if t102 < 0 then (some (-1)) else (some t102))
theorem laws_heldCommittee.mono : ∀ a0 a1 a2 k, LeO (laws_heldCommittee.f k a0 a1 a2) (laws_heldCommittee.f (k + 1) a0 a1 a2) := by
 intro a0 a1 a2 k
 unfold laws_heldCommittee.f
 repeat' first
   | (with_reducible exact laws_heldIntS.mono _ _ _)
   | (with_reducible exact LeO.refl _)
   | (with_reducible exact LeO.none _)
   | (with_reducible refine LeO.ite ?_ ?_)
   | (with_reducible refine LeO.bind ?_ (fun _ => ?_))
   | exact laws_heldIntS.mono _ _ _
   | exact LeO.none _
   | refine LeO.ite ?_ ?_
   | refine LeO.bind ?_ (fun _ => ?_)
set_option maxHeartbeats 8000000 in
set_option maxRecDepth 100000 in
theorem laws_heldCommittee.calls (k : Nat) (a0_0 : Int) (A0_1 : Option Addr) (c0_1 : Nat) (l0_1 : List Int) (a1 : Int) (r : Int) (w : World) (hr0_1 : Kd.C (Kd.int .i64) w A0_1 l0_1.length l0_1) (hc0_1 : l0_1.length ≤ c0_1) (h : laws_heldCommittee.f k a0_0 l0_1 a1 = some r) :
  Calls Try.prog 21 #[.agg #[.int .i64 a0_0, .slice A0_1 l0_1.length c0_1], .int .i64 a1] w fun e w' => e = .returned (.int .i64 r) ∧ Below w.heap.size w w' := by
 have hu26 := Try.underlying26
 have HR0_1 := Aside0.mk hr0_1
 have HC0_1 := Aside0.mk hc0_1
 clear hr0_1 hc0_1
 have HB := Aside0.mk (Below.refl w.heap.size w)
 have H : ((laws_heldIntS.f k l0_1 a1).bind fun t102 => (if t102 < 0 then (some (-1)) else (some t102))) = some r := h
 clear h
 replace H := oB H
 obtain ⟨t102, A30, H⟩ := H
 replace H : (if t102 < 0 then (some (-1)) else (some t102)) = some r := H
 have A3 := Aside0.mk A30
 clear A30
 by_cases c4 : t102 < 0
 ·rw [if_pos c4] at H
  have c4b0 : decide (t102 < 0) = true := decide_eq_true c4
  clear c4
  obtain rfl := Option.some.inj H
  go_enter Try.func21, Try.ntmps21
  go_wp2_with (first | ((with_reducible refine gate_dst (N := 2) rfl ?_); refine box_event ?hg (N := 2) ?hd (cs := #[.int .i64 a0_0, .slice A0_1 l0_1.length c0_1]) (t := 26) ?hr ?_; (case hd => rfl); (case hg => rfl); (case hr => first | (go_simp; done) | (go_simp; rfl)); intro gb101 hg w5 hbox hb; have n0_ := Aside0.mk (below_step (by repeat (first | (with_reducible first | exact HB.out | apply ba | apply bd | apply be) | exact HB.out)) hb); have n1_ := Aside0.mk (hbox); have n2_ := Aside0.mk ((by rw [hg]; exact (below_size (by repeat (first | (with_reducible first | exact HB.out | apply ba | apply bd | apply be) | exact HB.out))) : w.heap.size ≤ gb101)); have n3_ := Aside0.mk ((by rw [hg]; exact (below_size (by repeat (first | (with_reducible first | exact HB.out | apply ba | apply bd | apply be) | exact HB.out))) : w.heap.size ≤ gb101)); clear HB; have HB := n0_; have BK101 := n1_; have GW101 := n2_; have GE101 := n3_; clear n0_ n1_ n2_ n3_; clear hb hbox hg; have hcz6_0 : w5.cell? ⟨gb101, 0, none⟩ = some (.int .i64 a0_0) := (blk_cell BK101.out 0).trans rfl; have hcz6_1 : w5.cell? ⟨gb101, 1, none⟩ = some (.slice A0_1 l0_1.length c0_1) := (blk_cell BK101.out 1).trans rfl; have hfz6_0 := blk_frozen BK101.out 0; have hfz6_1 := blk_frozen BK101.out 1) | ((with_reducible refine gate_callee (f := 38) rfl ?_); refine goesL_ (some 8) rfl rfl Try.func38 (by kernel_rfl) rfl #[.slice A0_1 l0_1.length c0_1, .int .i64 a1] rfl (by (try simp only [mA, mC, mN]); first | done | rfl | (simp only [List.length_drop, List.length_take]; rfl)) ?_; (with_reducible refine (laws_heldIntS.calls k _ _ l0_1 a1 t102 _ ?side1 ?side2 A3.out).mono ?_); (case side1 => repeat (first | exact (Kd.C_below HR0_1.out HB.out) | (with_reducible refine Kd.C_alloc ?_ _) | (with_reducible refine Kd.C_drewN ?_ _) | (with_reducible refine Kd.C_drew ?_))); (case side2 => exact HC0_1.out); rintro e w' ⟨rfl, ⟨nd, rfl⟩⟩; refine ⟨_, rfl, ?_⟩))
  go_ret
  exact ⟨by first | rfl | (simp <;> rfl) | (simp [*] <;> rfl), by repeat (first | (with_reducible first | exact HB.out | apply ba | apply bd | apply be | refine bs ?_ GE101.out) | exact HB.out)⟩
 ·rw [if_neg c4] at H
  have c4b0 : decide (t102 < 0) = false := decide_eq_false c4
  clear c4
  obtain rfl := Option.some.inj H
  go_enter Try.func21, Try.ntmps21
  go_wp2_with (first | ((with_reducible refine gate_dst (N := 2) rfl ?_); refine box_event ?hg (N := 2) ?hd (cs := #[.int .i64 a0_0, .slice A0_1 l0_1.length c0_1]) (t := 26) ?hr ?_; (case hd => rfl); (case hg => rfl); (case hr => first | (go_simp; done) | (go_simp; rfl)); intro gb101 hg w7 hbox hb; have n0_ := Aside0.mk (below_step (by repeat (first | (with_reducible first | exact HB.out | apply ba | apply bd | apply be) | exact HB.out)) hb); have n1_ := Aside0.mk (hbox); have n2_ := Aside0.mk ((by rw [hg]; exact (below_size (by repeat (first | (with_reducible first | exact HB.out | apply ba | apply bd | apply be) | exact HB.out))) : w.heap.size ≤ gb101)); have n3_ := Aside0.mk ((by rw [hg]; exact (below_size (by repeat (first | (with_reducible first | exact HB.out | apply ba | apply bd | apply be) | exact HB.out))) : w.heap.size ≤ gb101)); clear HB; have HB := n0_; have BK101 := n1_; have GW101 := n2_; have GE101 := n3_; clear n0_ n1_ n2_ n3_; clear hb hbox hg; have hcz8_0 : w7.cell? ⟨gb101, 0, none⟩ = some (.int .i64 a0_0) := (blk_cell BK101.out 0).trans rfl; have hcz8_1 : w7.cell? ⟨gb101, 1, none⟩ = some (.slice A0_1 l0_1.length c0_1) := (blk_cell BK101.out 1).trans rfl; have hfz8_0 := blk_frozen BK101.out 0; have hfz8_1 := blk_frozen BK101.out 1) | ((with_reducible refine gate_callee (f := 38) rfl ?_); refine goesL_ (some 8) rfl rfl Try.func38 (by kernel_rfl) rfl #[.slice A0_1 l0_1.length c0_1, .int .i64 a1] rfl (by (try simp only [mA, mC, mN]); first | done | rfl | (simp only [List.length_drop, List.length_take]; rfl)) ?_; (with_reducible refine (laws_heldIntS.calls k _ _ l0_1 a1 t102 _ ?side1 ?side2 A3.out).mono ?_); (case side1 => repeat (first | exact (Kd.C_below HR0_1.out HB.out) | (with_reducible refine Kd.C_alloc ?_ _) | (with_reducible refine Kd.C_drewN ?_ _) | (with_reducible refine Kd.C_drew ?_))); (case side2 => exact HC0_1.out); rintro e w' ⟨rfl, ⟨nd, rfl⟩⟩; refine ⟨_, rfl, ?_⟩))
  go_ret
  exact ⟨by first | rfl | (simp <;> rfl) | (simp [*] <;> rfl), by repeat (first | (with_reducible first | exact HB.out | apply ba | apply bd | apply be | refine bs ?_ GE101.out) | exact HB.out)⟩

end Go.Proofs.Yticnoiflccbhcaa.Q

namespace Go.Proofs.Yticnoiflccbhcaa.Q
open Go.RowKit Go.Proofs.YticnoiflccbhcaaW.PrintWords Go.Proofs.YticnoiflccbhcaaW.PrintLast Go.Proofs.YticnoiflccbhcaaW.PrintMore Go.Proofs.YticnoiflccbhcaaM
set_option linter.unusedVariables false
set_option linter.unusedSimpArgs false
theorem laws_toCommittee.ev (q : Int) (l : List Int) (hl : l.length ≤ 35184372088832) : Ev (fun k => laws_toCommittee.f k q l) (q, l) := by
  simp only [laws_toCommittee.f]
  rw [ev_bind (laws_toIntS.ev l hl), ev_now]
theorem laws_eqCommittee.ev (q : Int) (a : List Int) (q' : Int) (b : List Int) (hl : a.length ≤ 9223372036854775807) : Ev (fun k => laws_eqCommittee.f k q a q' b) (decide (q = q') && decide (a = b)) := by
  simp only [laws_eqCommittee.f]
  by_cases h : q = q'
  · rw [ev_pos h, ev_bind (laws_eqIntS.ev a b hl)]
    by_cases e : a = b
    · rw [ev_pos (by simpa using e), ev_now]; simp [h, e]
    · rw [ev_neg (by simpa using e), ev_now]; simp [e]
  · rw [ev_neg h, ev_now]; simp [h]
theorem laws_eqCommittee.ev_same (q : Int) (a : List Int) (hl : a.length ≤ 9223372036854775807) : Ev (fun k => laws_eqCommittee.f k q a q a) true := by
  have := laws_eqCommittee.ev q a q a hl
  simpa using this
theorem laws_markCommittee.ev (q : Int) (l : List Int) (c : Int) (hc0 : 0 ≤ c) (hc : c + (l.length : Int) ≤ 9223372036854775807) : Ev (fun k => laws_markCommittee.f k q l c) (c + (l.length : Int), marks c l.length) := by
  simp only [laws_markCommittee.f]
  rw [ev_bind (laws_markIntS.ev l c hc0 hc), ev_now]
theorem laws_heldCommittee.ev (q : Int) (n : Nat) (c : Int) (hc0 : 0 ≤ c) (hc : c + (n : Int) ≤ 9223372036854775807) : Ev (fun k => laws_heldCommittee.f k q (marks c n) c) (c + (n : Int)) := by
  simp only [laws_heldCommittee.f]
  rw [ev_bind (laws_heldIntS.ev n c hc0 hc), ev_neg (by omega), ev_now]
theorem laws_szCommittee.v (q : Int) (l : List Int) (c : Int) (hc : c ≤ 9223372036854775807) (hl : (l.length : Int) ≤ 9223372036854775807 + c) : laws_szCommittee.f q l c = some (if c - (l.length : Int) < 0 then -1 else c - (l.length : Int)) := by
  unfold laws_szCommittee.f
  rw [laws_szIntS.v l c hc hl, Option.bind_some]
  by_cases h : c - (l.length : Int) < 0
  · simp [h]
  · simp [h]
end Go.Proofs.Yticnoiflccbhcaa.Q

namespace Go.Proofs.Yticnoiflccbhcaa.Q
open Go.RowKit Go.Proofs.YticnoiflccbhcaaW.PrintWords Go.Proofs.YticnoiflccbhcaaW.PrintLast Go.Proofs.YticnoiflccbhcaaW.PrintMore Go.Proofs.YticnoiflccbhcaaM
set_option linter.unusedVariables false
set_option linter.unusedSimpArgs false
theorem laws_FnExactDummiesOf.law (q : Int) (ws : List Int) (okq : OkI q) (okws : OkL ws) : Ev (fun k => laws_FnExactDummiesOf.f k q ws) true := by
  have hl := okws.len
  simp only [laws_FnExactDummiesOf.f, ev_bind (ev_of (laws_szCommittee.v q ws 1048576 (by omega) (by omega)))]
  by_cases hz : (1048576 : Int) - (ws.length : Int) < 0
  · rw [if_pos hz, ev_pos (by omega), ev_now]
  rw [if_neg hz, ev_neg hz]
  have ht := laws_toCommittee.ev q ws (by omega)
  have hs := spec_DummiesOf.ev q ws hl
  have hi := impl_DummiesOf.ev q ws hl
  have hn := dumV_len q ws
  generalize dumV q ws = r at hs hi hn
  obtain ⟨l1, b1⟩ := r
  have hn' : l1.length ≤ 10 := hn
  have hm := laws_markIntS.ev l1 1 (by omega) (by omega)
  have hh := laws_heldIntS.ev l1.length 1 (by omega) (by omega)
  have he := laws_eqIntS.ev l1 l1 (by omega)
  rw [decide_eq_true rfl] at he
  have he0 := laws_eqCommittee.ev_same q ws (by omega)
  have hm0 := laws_markCommittee.ev q ws 1 (by omega) (by omega)
  have hng : ((1 : Int) + (l1.length : Int) < 0) = False := eq_false (by omega)
  have hng0 : ((1 : Int) + (ws.length : Int) < 0) = False := eq_false (by omega)
  simp only [ev_bind ht, ev_bind hs, ev_bind hi, ev_bind he, if_true]
  refine ev_step ?_
  simp only [laws_FnExactDummiesOf.j0, bne_self_eq_false, Bool.false_eq_true, if_false, ev_bind ht, ev_bind he0, ev_bind hm0, ev_bind he, if_true, hng0]
  refine ev_step ?_
  simp only [laws_FnExactDummiesOf.j1, bne_self_eq_false, Bool.false_eq_true, if_false, ev_bind ht, ev_bind hi, ev_bind he, ev_bind hm, ev_bind hh, if_true, hng]
  refine ev_step ?_
  simp only [laws_FnExactDummiesOf.j2, bne_self_eq_false, Bool.false_eq_true, if_false, ev_bind hh, if_true, hng, ev_now]
end Go.Proofs.Yticnoiflccbhcaa.Q

namespace Go.Proofs.YticnoiflccbhcaaO
open Go.RowKit Go.ChangeShapes Go.WideShapes Go.ChangeAt Go.Proofs.YticnoiflccbhcaaW.PrintWords Go.Proofs.YticnoiflccbhcaaM
section
variable {H : Type} {enc : TypeId × Value → H} {P : Program} {w : World} {α : Type}
/-- One cell of type t reads as a value of kind d. -/
def Reads1 (enc : TypeId × Value → H) (P : Program) (w : World) (t : TypeId) (d : Kd α) (ok : α → Prop) : Prop :=
  ∀ fuel v x, DataW.trod enc P w 0 (fun _ => true) true fuel t [v] = some x → ∃ a, d.K w a [v] ∧ ok a
theorem reads_int {t : TypeId} {k : IntKind} (hu : P.underlying t = some (.int k)) : Reads1 enc P w t (Kd.int k) (fun n => (Lit.int k n).wf = true) := by
  intro fuel v x h
  obtain ⟨n, e, _, hw⟩ := DataW.trod_int hu h
  exact ⟨n, e, hw⟩
theorem reads_slice {t e : TypeId} {d : Kd α} {ok : α → Prop} (hu : P.underlying t = some (.slice e)) (hc : P.cellsOf e = 1) (hs : d.sz = 1) (he : Reads1 enc P w e d ok) :
    Reads1 enc P w t (Kd.slice e d) (fun l => l.length ≤ maxLen ∧ ∀ x ∈ l, ok x) := by
  intro fuel v x h
  rcases Go.Deep.open_slice1 hu hc h with ⟨hcs, _⟩ | ⟨a, len, cap, m, n, V, D, Pl, hcs, _, hl, hm, hmm, _, hx⟩
  · obtain rfl : v = .slice none 0 0 := by simpa using hcs
    refine ⟨[], ⟨none, 0, rfl, Nat.le_refl _, rfl, Nat.zero_le _, fun h => absurd h (Nat.lt_irrefl _)⟩, Nat.zero_le _, fun _ h => by cases h⟩
  · obtain rfl : v = .slice (some a) len cap := by simpa using hcs
    have hlm : len ≤ m := by rw [hmm]; simpa using hl
    have hall : ∀ i, i < len → ∃ b, d.K w b [V i] ∧ ok b := fun i hi => he n (V i) _ (hx i (by omega)).2
    have key : ∀ j, j ≤ len → ∃ l : List α, l.length = j ∧ (∀ i b, l[i]? = some b → d.K w b [V i] ∧ ok b) := by
      intro j
      induction j with
      | zero => exact fun _ => ⟨[], rfl, fun i b h => by simp at h⟩
      | succ j ih =>
        intro hj
        obtain ⟨l, hl1, hl2⟩ := ih (by omega)
        obtain ⟨b, hb⟩ := hall j (by omega)
        refine ⟨l ++ [b], by simp [hl1], fun i c h => ?_⟩
        rcases Nat.lt_or_ge i l.length with hi | hi
        · rw [List.getElem?_append_left hi] at h
          exact hl2 i c h
        · have e : i = l.length := by
            have := (List.getElem?_eq_some_iff.1 h).1
            rw [List.length_append, List.length_singleton] at this
            omega
          subst e
          obtain rfl : b = c := by simpa using h
          rw [hl1]
          exact hb
    obtain ⟨l, hl1, hl2⟩ := key len (Nat.le_refl _)
    subst hl1
    refine ⟨l, ⟨some a, cap, rfl, hl, rfl, by unfold maxLen at hm; omega, fun _ => ⟨a, rfl, fun j p hj => ⟨[V j], by rw [hs]; rfl, (hl2 j p hj).1, fun i u hi => ?_⟩⟩⟩, Nat.le_trans hl hm, fun x hxm => ?_⟩
    · match i, hi with
      | 0, hi =>
        obtain rfl : V j = u := by simpa using hi
        have hj' := (List.getElem?_eq_some_iff.1 hj).1
        rw [hs, Nat.mul_one, Nat.add_zero]
        exact (hx j (by omega)).1
      | i + 1, hi => simp at hi
    · obtain ⟨i, hi, rfl⟩ := List.mem_iff_getElem.1 hxm
      exact (hl2 i _ (List.getElem?_eq_getElem hi)).2
/-- A slice that is an argument. -/
theorem open_slice_arg {r : Reach} {b0 : Nat} {t e : TypeId} {d : Kd α} {ok' : List α → Prop} {v : Value} {dd : DataW H} {ps : List MemPlace} (hu : P.underlying t = some (.slice e)) (hr : Reads1 enc P w t (Kd.slice e d) ok') (hv : Value.okWide P w r b0 t v)
    (h : DataW.Trod enc P w 0 (fun _ => true) true t v dd ps) : ∃ (A : Option Addr) (c : Nat) (l : List α), v = .slice A l.length c ∧ l.length ≤ c ∧ d.C w A l.length l ∧ ok' l := by
  obtain ⟨a, len, cap, rfl⟩ := okWide_slice hu hv
  obtain ⟨fuel, hf⟩ := h
  obtain ⟨l, ⟨A, c, hcs, hlc, hC⟩, ho⟩ := hr fuel _ _ hf
  exact ⟨A, c, l, by simpa using hcs, hlc, hC, ho⟩
end
end Go.Proofs.YticnoiflccbhcaaO
