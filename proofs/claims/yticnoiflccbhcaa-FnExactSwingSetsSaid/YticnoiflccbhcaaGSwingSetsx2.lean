/- Printed functions, their contracts and plain facts on them: PLawInts; QLawsHeldCommittee; PLawCommittee; PRdL2; QLawsEqGame; QLawsSzIntSS; QLawsSzGame; QLawsToIntSS; QLawsToGame; PLawGame; PLawSets; PVotesOf; PWeight; PCommitteeVotes; PSumOf; PIsCommittee; PSetN; PAndNot; PSetOf; QImplVotesIsLeast; QImplVotesLeast; PVotesLeast; PSortFew; PVoSum; PVoGood; PVoList; PVoBefore; PVoSorted; PVoWeight; PVoWins; QImplVotesIsGreatest; QImplGreatestLosing; QSpecGreatestLosing; PGreatestLosing; PSwingSets; PLFnExactSwingSets; O. Conditions: as each theorem states. -/
import Derived.Deep.Slices
import Derived.Lib.SmallJoins
import Derived.OpenShut
import Derived.ShutString
import Derived.ChangeArms
import Derived.ChangeOld
import Derived.Test.YticnoiflccbhcaaWWords
import Derived.Test.YticnoiflccbhcaaGSwingSetsx0
import Derived.Test.YticnoiflccbhcaaGSwingSetsx1
namespace Go.Proofs.Yticnoiflccbhcaa.Q
open Go.RowKit Go.Proofs.YticnoiflccbhcaaW.PrintWords Go.Proofs.YticnoiflccbhcaaW.PrintLast Go.Proofs.YticnoiflccbhcaaW.PrintMore Go.Proofs.YticnoiflccbhcaaM
set_option linter.unusedVariables false
set_option linter.unusedSimpArgs false
theorem laws_toIntS.ev_l (l : List Int) (hl : l.length ≤ 35184372088832) : ∀ (d i : Nat) (acc : List Int), i + d = l.length → acc.length = l.length → acc.take i = l.take i → Ev (fun k => laws_toIntS.l0 k l acc (i : Int)) l := by
  intro d
  induction d with
  | zero =>
    intro i acc h hlen ht
    refine ev_step ?_
    simp only [laws_toIntS.l0]
    rw [ev_neg (by omega), ev_now]
    rwa [List.take_of_length_le (by omega), List.take_of_length_le (by omega)] at ht
  | succ d ih =>
    intro i acc h hlen ht
    refine ev_step ?_
    simp only [laws_toIntS.l0]
    have hi : i < l.length := by omega
    rw [ev_pos (by omega), ev_pos (by omega), ev_pos (by omega), w64i (n := l.length) (by omega) (by omega) (by omega), rd_lt l i hi, Int.toNat_natCast]
    refine ih (i + 1) _ (by omega) (by simpa using hlen) ?_
    rw [List.take_succ_eq_append_getElem (by simp; omega), List.take_succ_eq_append_getElem hi, List.take_set_of_le (by omega), ht]
    simp
theorem laws_toIntS.ev (l : List Int) (hl : l.length ≤ 35184372088832) : Ev (fun k => laws_toIntS.f k l) l := by
  simp only [laws_toIntS.f]
  rw [ev_pos (by omega), ev_pos (by omega)]
  exact laws_toIntS.ev_l l hl l.length 0 _ (by omega) (by simp) (by simp)
theorem laws_eqIntS.ev_l (a b : List Int) (hl : a.length ≤ 9223372036854775807) (hab : a.length = b.length) : ∀ (d i : Nat), i + d = a.length → Ev (fun k => laws_eqIntS.l0 k a b (i : Int)) (decide (a.drop i = b.drop i)) := by
  intro d
  induction d with
  | zero =>
    intro i h
    refine ev_step ?_
    simp only [laws_eqIntS.l0]
    rw [ev_neg (by omega), ev_now, List.drop_of_length_le (by omega), List.drop_of_length_le (by omega)]
    rfl
  | succ d ih =>
    intro i h
    refine ev_step ?_
    simp only [laws_eqIntS.l0]
    have hi : i < a.length := by omega
    have hj : i < b.length := by omega
    rw [ev_pos (by omega), ev_pos (by omega), ev_pos (by omega), rd_lt a i hi, rd_lt b i hj, w64i (n := a.length) (by omega) (by omega) (by omega)]
    have ed : decide (a.drop i = b.drop i) = (decide (a[i] = b[i]) && decide (a.drop (i + 1) = b.drop (i + 1))) := by
      rw [List.drop_eq_getElem_cons hi, List.drop_eq_getElem_cons hj, ← Bool.decide_and]
      simp only [List.cons.injEq]
    rw [ed]
    by_cases e : a[i] = b[i]
    · rw [ev_pos e, decide_eq_true e, Bool.true_and]
      exact ih (i + 1) (by omega)
    · rw [ev_neg e, ev_now, decide_eq_false e, Bool.false_and]
theorem laws_eqIntS.ev (a b : List Int) (hl : a.length ≤ 9223372036854775807) : Ev (fun k => laws_eqIntS.f k a b) (decide (a = b)) := by
  simp only [laws_eqIntS.f]
  by_cases h : a.length = b.length
  · rw [ev_pos (by omega)]
    exact laws_eqIntS.ev_l a b hl h a.length 0 (by omega)
  · rw [ev_neg (by omega), ev_now]
    have : a ≠ b := fun e => h (by rw [e])
    simp [this]
/-- The numbers from k on, as many as are asked. -/
def marks (k : Int) (n : Nat) : List Int := (List.range n).map fun (i : Nat) => k + (i : Int)
theorem marks_length (k : Int) (n : Nat) : (marks k n).length = n := by simp [marks]
theorem marks_get (k : Int) (n i : Nat) (h : i < (marks k n).length) : (marks k n)[i] = k + (i : Int) := by simp [marks]
theorem laws_markIntS.ev_l (n : Nat) (c : Int) (hn : n ≤ 9223372036854775807) (hc0 : 0 ≤ c) (hc : c + (n : Int) ≤ 9223372036854775807) : ∀ (d i : Nat) (acc : List Int), i + d = n → acc.length = n → acc.take i = (marks c n).take i → Ev (fun k => laws_markIntS.l0 k acc (c + (i : Int)) (i : Int)) (c + (n : Int), marks c n) := by
  intro d
  induction d with
  | zero =>
    intro i acc h hlen ht
    refine ev_step ?_
    simp only [laws_markIntS.l0]
    rw [ev_neg (by omega), ev_now]
    rw [List.take_of_length_le (by omega), List.take_of_length_le (by rw [marks_length]; omega)] at ht
    rw [ht, show i = n by omega]
  | succ d ih =>
    intro i acc h hlen ht
    refine ev_step ?_
    simp only [laws_markIntS.l0]
    have hi : i < n := by omega
    rw [ev_pos (by omega), ev_pos (by omega), w64i (i := (i : Int)) (n := n) (by omega) (by omega) hn, w64 (x := c + (i : Int) + 1) (by omega) (by omega), Int.toNat_natCast]
    rw [show c + (i : Int) + 1 = c + ((i + 1 : Nat) : Int) by omega]
    refine ih (i + 1) _ (by omega) (by simpa using hlen) ?_
    rw [List.take_succ_eq_append_getElem (by simp; omega), List.take_succ_eq_append_getElem (by rw [marks_length]; omega), List.take_set_of_le (by omega), ht, marks_get]
    simp
theorem laws_markIntS.ev (l : List Int) (c : Int) (hc0 : 0 ≤ c) (hc : c + (l.length : Int) ≤ 9223372036854775807) : Ev (fun k => laws_markIntS.f k l c) (c + (l.length : Int), marks c l.length) := by
  have := laws_markIntS.ev_l l.length c (by omega) hc0 hc l.length 0 l (by omega) rfl (by simp)
  simpa [laws_markIntS.f] using this
theorem laws_heldIntS.ev_l (n : Nat) (c : Int) (hn : n ≤ 9223372036854775807) (hc0 : 0 ≤ c) (hc : c + (n : Int) ≤ 9223372036854775807) : ∀ (d i : Nat), i + d = n → Ev (fun k => laws_heldIntS.l0 k (marks c n) (c + (i : Int)) (i : Int)) (c + (n : Int)) := by
  intro d
  induction d with
  | zero =>
    intro i h
    refine ev_step ?_
    simp only [laws_heldIntS.l0]
    rw [marks_length, ev_neg (by omega), ev_now]
    omega
  | succ d ih =>
    intro i h
    refine ev_step ?_
    simp only [laws_heldIntS.l0]
    have hi : i < (marks c n).length := by rw [marks_length]; omega
    rw [rd_lt _ i hi, marks_get, marks_length, ev_pos (by omega), ev_pos (by omega), ev_pos rfl, w64i (i := (i : Int)) (n := n) (by omega) (by omega) hn, w64 (x := c + (i : Int) + 1) (by omega) (by omega)]
    rw [show c + (i : Int) + 1 = c + ((i + 1 : Nat) : Int) by omega]
    exact ih (i + 1) (by omega)
theorem laws_heldIntS.ev (n : Nat) (c : Int) (hc0 : 0 ≤ c) (hc : c + (n : Int) ≤ 9223372036854775807) : Ev (fun k => laws_heldIntS.f k (marks c n) c) (c + (n : Int)) := by
  have := laws_heldIntS.ev_l n c (by omega) hc0 hc n 0 (by omega)
  simpa [laws_heldIntS.f] using this
theorem laws_szIntS.v (l : List Int) (c : Int) (hc : c ≤ 9223372036854775807) (hl : (l.length : Int) ≤ 9223372036854775807 + c) : laws_szIntS.f l c = some (if c - (l.length : Int) < 0 then -1 else c - (l.length : Int)) := by
  unfold laws_szIntS.f
  rw [w64 (by omega) (by omega)]
  split <;> rfl
end Go.Proofs.Yticnoiflccbhcaa.Q

namespace Go.Proofs.Yticnoiflccbhcaa.Q
open Go.RowKit Go.Proofs.YticnoiflccbhcaaX Go.Proofs.YticnoiflccbhcaaW.PrintWords Go.Proofs.YticnoiflccbhcaaW.PrintLast Go.Proofs.YticnoiflccbhcaaW.PrintMore
attribute [local go_sem] max2_int min2_int max_two min_two max_three min_three max_four min_four   -- for this text's walks alone
set_option linter.unusedVariables false
set_option linter.unusedSimpArgs false

/-! ### laws_heldCommittee: function 21 -/
def laws_heldCommittee.f (k : Nat) (a0_0 : Int) (l0_1 : List Int) (a1 : Int) : Option (Int) := (laws_heldIntS.f k l0_1 a1).bind fun t102 => (if t102 < 0 then (some (-1)) else (some t102))
theorem laws_heldCommittee.mono : ∀ a0 a1 a2 k, LeO (laws_heldCommittee.f k a0 a1 a2) (laws_heldCommittee.f (k + 1) a0 a1 a2) := by
 intro a0 a1 a2 k
 unfold laws_heldCommittee.f
 repeat' first
   | (with_reducible exact laws_heldIntS.mono _ _ _)
   | (with_reducible exact LeO.refl _)
   | (with_reducible exact LeO.none _)
   | (with_reducible refine LeO.ite ?_ ?_)
   | (with_reducible refine LeO.bind ?_ (fun _ => ?_))
   | exact laws_heldIntS.mono _ _ _
   | exact LeO.none _
   | refine LeO.ite ?_ ?_
   | refine LeO.bind ?_ (fun _ => ?_)
set_option maxHeartbeats 8000000 in
set_option maxRecDepth 100000 in
theorem laws_heldCommittee.calls (k : Nat) (a0_0 : Int) (A0_1 : Option Addr) (c0_1 : Nat) (l0_1 : List Int) (a1 : Int) (r : Int) (w : World) (hr0_1 : Kd.C (Kd.int .i64) w A0_1 l0_1.length l0_1) (hc0_1 : l0_1.length ≤ c0_1) (h : laws_heldCommittee.f k a0_0 l0_1 a1 = some r) :
  Calls Try.prog 21 #[.agg #[.int .i64 a0_0, .slice A0_1 l0_1.length c0_1], .int .i64 a1] w fun e w' => e = .returned (.int .i64 r) ∧ Below w.heap.size w w' := by
 have hu26 := Try.underlying26
 have HR0_1 := Aside0.mk hr0_1
 have HC0_1 := Aside0.mk hc0_1
 clear hr0_1 hc0_1
 have HB := Aside0.mk (Below.refl w.heap.size w)
 have H : ((laws_heldIntS.f k l0_1 a1).bind fun t102 => (if t102 < 0 then (some (-1)) else (some t102))) = some r := h
 clear h
 replace H := oB H
 obtain ⟨t102, A30, H⟩ := H
 replace H : (if t102 < 0 then (some (-1)) else (some t102)) = some r := H
 have A3 := Aside0.mk A30
 clear A30
 by_cases c4 : t102 < 0
 ·rw [if_pos c4] at H
  have c4b0 : decide (t102 < 0) = true := decide_eq_true c4
  clear c4
  obtain rfl := Option.some.inj H
  go_enter Try.func21, Try.ntmps21
  go_wp2_with (first | ((with_reducible refine gate_dst (N := 2) rfl ?_); refine box_event ?hg (N := 2) ?hd (cs := #[.int .i64 a0_0, .slice A0_1 l0_1.length c0_1]) (t := 26) ?hr ?_; (case hd => rfl); (case hg => rfl); (case hr => first | (go_simp; done) | (go_simp; rfl)); intro gb101 hg w5 hbox hb; have n0_ := Aside0.mk (below_step (by repeat (first | (with_reducible first | exact HB.out | apply ba | apply bd | apply be) | exact HB.out)) hb); have n1_ := Aside0.mk (hbox); have n2_ := Aside0.mk ((by rw [hg]; exact (below_size (by repeat (first | (with_reducible first | exact HB.out | apply ba | apply bd | apply be) | exact HB.out))) : w.heap.size ≤ gb101)); have n3_ := Aside0.mk ((by rw [hg]; exact (below_size (by repeat (first | (with_reducible first | exact HB.out | apply ba | apply bd | apply be) | exact HB.out))) : w.heap.size ≤ gb101)); clear HB; have HB := n0_; have BK101 := n1_; have GW101 := n2_; have GE101 := n3_; clear n0_ n1_ n2_ n3_; clear hb hbox hg; have hcz6_0 : w5.cell? ⟨gb101, 0, none⟩ = some (.int .i64 a0_0) := (blk_cell BK101.out 0).trans rfl; have hcz6_1 : w5.cell? ⟨gb101, 1, none⟩ = some (.slice A0_1 l0_1.length c0_1) := (blk_cell BK101.out 1).trans rfl; have hfz6_0 := blk_frozen BK101.out 0; have hfz6_1 := blk_frozen BK101.out 1) | ((with_reducible refine gate_callee (f := 38) rfl ?_); refine goesL_ (some 8) rfl rfl Try.func38 (by kernel_rfl) rfl #[.slice A0_1 l0_1.length c0_1, .int .i64 a1] rfl (by (try simp only [mA, mC, mN]); first | done | rfl | (simp only [List.length_drop, List.length_take]; rfl)) ?_; (with_reducible refine (laws_heldIntS.calls k _ _ l0_1 a1 t102 _ ?side1 ?side2 A3.out).mono ?_); (case side1 => repeat (first | exact (Kd.C_below HR0_1.out HB.out) | (with_reducible refine Kd.C_alloc ?_ _) | (with_reducible refine Kd.C_drewN ?_ _) | (with_reducible refine Kd.C_drew ?_))); (case side2 => exact HC0_1.out); rintro e w' ⟨rfl, ⟨nd, rfl⟩⟩; refine ⟨_, rfl, ?_⟩))
  go_ret
  exact ⟨by first | rfl | (simp <;> rfl) | (simp [*] <;> rfl), by repeat (first | (with_reducible first | exact HB.out | apply ba | apply bd | apply be | refine bs ?_ GE101.out) | exact HB.out)⟩
 ·rw [if_neg c4] at H
  have c4b0 : decide (t102 < 0) = false := decide_eq_false c4
  clear c4
  obtain rfl := Option.some.inj H
  go_enter Try.func21, Try.ntmps21
  go_wp2_with (first | ((with_reducible refine gate_dst (N := 2) rfl ?_); refine box_event ?hg (N := 2) ?hd (cs := #[.int .i64 a0_0, .slice A0_1 l0_1.length c0_1]) (t := 26) ?hr ?_; (case hd => rfl); (case hg => rfl); (case hr => first | (go_simp; done) | (go_simp; rfl)); intro gb101 hg w7 hbox hb; have n0_ := Aside0.mk (below_step (by repeat (first | (with_reducible first | exact HB.out | apply ba | apply bd | apply be) | exact HB.out)) hb); have n1_ := Aside0.mk (hbox); have n2_ := Aside0.mk ((by rw [hg]; exact (below_size (by repeat (first | (with_reducible first | exact HB.out | apply ba | apply bd | apply be) | exact HB.out))) : w.heap.size ≤ gb101)); have n3_ := Aside0.mk ((by rw [hg]; exact (below_size (by repeat (first | (with_reducible first | exact HB.out | apply ba | apply bd | apply be) | exact HB.out))) : w.heap.size ≤ gb101)); clear HB; have HB := n0_; have BK101 := n1_; have GW101 := n2_; have GE101 := n3_; clear n0_ n1_ n2_ n3_; clear hb hbox hg; have hcz8_0 : w7.cell? ⟨gb101, 0, none⟩ = some (.int .i64 a0_0) := (blk_cell BK101.out 0).trans rfl; have hcz8_1 : w7.cell? ⟨gb101, 1, none⟩ = some (.slice A0_1 l0_1.length c0_1) := (blk_cell BK101.out 1).trans rfl; have hfz8_0 := blk_frozen BK101.out 0; have hfz8_1 := blk_frozen BK101.out 1) | ((with_reducible refine gate_callee (f := 38) rfl ?_); refine goesL_ (some 8) rfl rfl Try.func38 (by kernel_rfl) rfl #[.slice A0_1 l0_1.length c0_1, .int .i64 a1] rfl (by (try simp only [mA, mC, mN]); first | done | rfl | (simp only [List.length_drop, List.length_take]; rfl)) ?_; (with_reducible refine (laws_heldIntS.calls k _ _ l0_1 a1 t102 _ ?side1 ?side2 A3.out).mono ?_); (case side1 => repeat (first | exact (Kd.C_below HR0_1.out HB.out) | (with_reducible refine Kd.C_alloc ?_ _) | (with_reducible refine Kd.C_drewN ?_ _) | (with_reducible refine Kd.C_drew ?_))); (case side2 => exact HC0_1.out); rintro e w' ⟨rfl, ⟨nd, rfl⟩⟩; refine ⟨_, rfl, ?_⟩))
  go_ret
  exact ⟨by first | rfl | (simp <;> rfl) | (simp [*] <;> rfl), by repeat (first | (with_reducible first | exact HB.out | apply ba | apply bd | apply be | refine bs ?_ GE101.out) | exact HB.out)⟩

end Go.Proofs.Yticnoiflccbhcaa.Q

namespace Go.Proofs.Yticnoiflccbhcaa.Q
open Go.RowKit Go.Proofs.YticnoiflccbhcaaW.PrintWords Go.Proofs.YticnoiflccbhcaaW.PrintLast Go.Proofs.YticnoiflccbhcaaW.PrintMore Go.Proofs.YticnoiflccbhcaaM
set_option linter.unusedVariables false
set_option linter.unusedSimpArgs false
theorem laws_toCommittee.ev (q : Int) (l : List Int) (hl : l.length ≤ 35184372088832) : Ev (fun k => laws_toCommittee.f k q l) (q, l) := by
  simp only [laws_toCommittee.f]
  rw [ev_bind (laws_toIntS.ev l hl), ev_now]
theorem laws_eqCommittee.ev (q : Int) (a : List Int) (q' : Int) (b : List Int) (hl : a.length ≤ 9223372036854775807) : Ev (fun k => laws_eqCommittee.f k q a q' b) (decide (q = q') && decide (a = b)) := by
  simp only [laws_eqCommittee.f]
  by_cases h : q = q'
  · rw [ev_pos h, ev_bind (laws_eqIntS.ev a b hl)]
    by_cases e : a = b
    · rw [ev_pos (by simpa using e), ev_now]; simp [h, e]
    · rw [ev_neg (by simpa using e), ev_now]; simp [e]
  · rw [ev_neg h, ev_now]; simp [h]
theorem laws_eqCommittee.ev_same (q : Int) (a : List Int) (hl : a.length ≤ 9223372036854775807) : Ev (fun k => laws_eqCommittee.f k q a q a) true := by
  have := laws_eqCommittee.ev q a q a hl
  simpa using this
theorem laws_markCommittee.ev (q : Int) (l : List Int) (c : Int) (hc0 : 0 ≤ c) (hc : c + (l.length : Int) ≤ 9223372036854775807) : Ev (fun k => laws_markCommittee.f k q l c) (c + (l.length : Int), marks c l.length) := by
  simp only [laws_markCommittee.f]
  rw [ev_bind (laws_markIntS.ev l c hc0 hc), ev_now]
theorem laws_heldCommittee.ev (q : Int) (n : Nat) (c : Int) (hc0 : 0 ≤ c) (hc : c + (n : Int) ≤ 9223372036854775807) : Ev (fun k => laws_heldCommittee.f k q (marks c n) c) (c + (n : Int)) := by
  simp only [laws_heldCommittee.f]
  rw [ev_bind (laws_heldIntS.ev n c hc0 hc), ev_neg (by omega), ev_now]
theorem laws_szCommittee.v (q : Int) (l : List Int) (c : Int) (hc : c ≤ 9223372036854775807) (hl : (l.length : Int) ≤ 9223372036854775807 + c) : laws_szCommittee.f q l c = some (if c - (l.length : Int) < 0 then -1 else c - (l.length : Int)) := by
  unfold laws_szCommittee.f
  rw [laws_szIntS.v l c hc hl, Option.bind_some]
  by_cases h : c - (l.length : Int) < 0
  · simp [h]
  · simp [h]
end Go.Proofs.Yticnoiflccbhcaa.Q

namespace Go.Proofs.Yticnoiflccbhcaa.Q
open Go.RowKit Go.Proofs.YticnoiflccbhcaaW.PrintWords Go.Proofs.YticnoiflccbhcaaW.PrintLast Go.Proofs.YticnoiflccbhcaaW.PrintMore Go.Proofs.YticnoiflccbhcaaM
set_option linter.unusedVariables false
set_option linter.unusedSimpArgs false
theorem rd_L2_lt (l : List (List Int)) (i : Nat) (h : i < l.length) : rd_L2 l (i : Int) = l[i] := by simp [rd_L2, h]
theorem rd_L2_at (l : List (List Int)) (i : Nat) : rd_L2 l (i : Int) = l.getD i [] := by simp [rd_L2]
end Go.Proofs.Yticnoiflccbhcaa.Q

namespace Go.Proofs.Yticnoiflccbhcaa.Q
open Go.RowKit Go.Proofs.YticnoiflccbhcaaX Go.Proofs.YticnoiflccbhcaaW.PrintWords Go.Proofs.YticnoiflccbhcaaW.PrintLast Go.Proofs.YticnoiflccbhcaaW.PrintMore
attribute [local go_sem] max2_int min2_int max_two min_two max_three min_three max_four min_four   -- for this text's walks alone
set_option linter.unusedVariables false
set_option linter.unusedSimpArgs false

/-! ### laws_eqGame: function 27 -/
def laws_eqGame.f (k : Nat) (a0_0 : Int) (l0_1 : List (List Int)) (a1_0 : Int) (l1_1 : List (List Int)) : Option (Bool) := if a0_0 = a1_0 then ((laws_eqIntSS.f k l0_1 l1_1).bind fun t103 => (if t103 = true then (some true) else (some false))) else (some false)
theorem laws_eqGame.mono : ∀ a0 a1 a2 a3 k, LeO (laws_eqGame.f k a0 a1 a2 a3) (laws_eqGame.f (k + 1) a0 a1 a2 a3) := by
 intro a0 a1 a2 a3 k
 unfold laws_eqGame.f
 repeat' first
   | (with_reducible exact laws_eqIntSS.mono _ _ _)
   | (with_reducible exact LeO.refl _)
   | (with_reducible exact LeO.none _)
   | (with_reducible refine LeO.ite ?_ ?_)
   | (with_reducible refine LeO.bind ?_ (fun _ => ?_))
   | exact laws_eqIntSS.mono _ _ _
   | exact LeO.none _
   | refine LeO.ite ?_ ?_
   | refine LeO.bind ?_ (fun _ => ?_)
set_option maxHeartbeats 8000000 in
set_option maxRecDepth 100000 in
theorem laws_eqGame.calls (k : Nat) (a0_0 : Int) (A0_1 : Option Addr) (c0_1 : Nat) (l0_1 : List (List Int)) (a1_0 : Int) (A1_1 : Option Addr) (c1_1 : Nat) (l1_1 : List (List Int)) (r : Bool) (w : World) (hr0_1 : Kd.C (Kd.slice 3 (Kd.int .i64)) w A0_1 l0_1.length l0_1) (hc0_1 : l0_1.length ≤ c0_1) (hr1_1 : Kd.C (Kd.slice 3 (Kd.int .i64)) w A1_1 l1_1.length l1_1) (hc1_1 : l1_1.length ≤ c1_1) (h : laws_eqGame.f k a0_0 l0_1 a1_0 l1_1 = some r) :
  Calls Try.prog 27 #[.agg #[.int .i64 a0_0, .slice A0_1 l0_1.length c0_1], .agg #[.int .i64 a1_0, .slice A1_1 l1_1.length c1_1]] w fun e w' => e = .returned (.bool r) ∧ Below w.heap.size w w' := by
 have hu39 := Try.underlying39
 have HR0_1 := Aside0.mk hr0_1
 have HC0_1 := Aside0.mk hc0_1
 clear hr0_1 hc0_1
 have HR1_1 := Aside0.mk hr1_1
 have HC1_1 := Aside0.mk hc1_1
 clear hr1_1 hc1_1
 have HB := Aside0.mk (Below.refl w.heap.size w)
 have H : (if a0_0 = a1_0 then ((laws_eqIntSS.f k l0_1 l1_1).bind fun t103 => (if t103 = true then (some true) else (some false))) else (some false)) = some r := h
 clear h
 by_cases c3 : a0_0 = a1_0
 ·rw [if_pos c3] at H
  have c3b0 : (a0_0 == a1_0) = true := beq_iff_eq.mpr c3
  have c3b1 : (a0_0 != a1_0) = false := bne_eq_false_iff_eq.mpr c3
  clear c3
  replace H := oB H
  obtain ⟨t103, A40, H⟩ := H
  replace H : (if t103 = true then (some true) else (some false)) = some r := H
  have A4 := Aside0.mk A40
  clear A40
  by_cases c5 : t103 = true
  ·subst c5
   have H1 : (some true) = some r := by rw [if_pos rfl] at H; exact H
   clear H
   have H := H1
   clear H1
   obtain rfl := Option.some.inj H
   go_enter Try.func27, Try.ntmps27
   go_wp2_with (first | ((with_reducible refine gate_dst (N := 2) rfl ?_); refine box_event ?hg (N := 2) ?hd (cs := #[.int .i64 a0_0, .slice A0_1 l0_1.length c0_1]) (t := 39) ?hr ?_; (case hd => rfl); (case hg => rfl); (case hr => first | (go_simp; done) | (go_simp; rfl)); intro gb101 hg w6 hbox hb; have n0_ := Aside0.mk (below_step (by repeat (first | (with_reducible first | exact HB.out | apply ba | apply bd | apply be) | exact HB.out)) hb); have n1_ := Aside0.mk (hbox); have n2_ := Aside0.mk ((by rw [hg]; exact (below_size (by repeat (first | (with_reducible first | exact HB.out | apply ba | apply bd | apply be) | exact HB.out))) : w.heap.size ≤ gb101)); have n3_ := Aside0.mk ((by rw [hg]; exact (below_size (by repeat (first | (with_reducible first | exact HB.out | apply ba | apply bd | apply be) | exact HB.out))) : w.heap.size ≤ gb101)); clear HB; have HB := n0_; have BK101 := n1_; have GW101 := n2_; have GE101 := n3_; clear n0_ n1_ n2_ n3_; clear hb hbox hg) | ((with_reducible refine gate_dst (N := 3) rfl ?_); refine box_event ?hg (N := 3) ?hd (cs := #[.int .i64 a1_0, .slice A1_1 l1_1.length c1_1]) (t := 39) ?hr ?_; (case hd => rfl); (case hg => rfl); (case hr => first | (go_simp; done) | (go_simp; rfl)); intro gb102 hg w7 hbox hb; have n0_ := Aside0.mk (blk_below (g := gb101) (o := .cells #[.int .i64 a0_0, .slice A0_1 l0_1.length c0_1] 39 (0, 0)) (by (with_reducible repeat (first | refine kN ?_ _ | refine kD ?_ | refine kA ?_ _)); exact BK101.out) hb); have n1_ := Aside0.mk (below_step (by repeat (first | (with_reducible first | exact HB.out | apply ba | apply bd | apply be | refine bs ?_ GE101.out) | exact HB.out)) hb); have n2_ := Aside0.mk (hbox); have n3_ := Aside0.mk ((by rw [hg]; exact (below_size (by repeat (first | (with_reducible first | exact HB.out | apply ba | apply bd | apply be | refine bs ?_ GE101.out) | exact HB.out))) : w.heap.size ≤ gb102)); have n4_ := Aside0.mk ((by rw [hg]; exact (below_size (by repeat (first | (with_reducible first | exact HB.out | apply ba | apply bd | apply be | refine bs ?_ GE101.out) | exact HB.out))) : w.heap.size ≤ gb102)); have n5_ := Aside0.mk ((by rw [hg]; exact Nat.ne_of_lt (blk_lt (g := gb101) (o := .cells #[.int .i64 a0_0, .slice A0_1 l0_1.length c0_1] 39 (0, 0)) (by (with_reducible repeat (first | refine kN ?_ _ | refine kD ?_ | refine kA ?_ _)); exact BK101.out)) : gb101 ≠ gb102)); have n6_ := Aside0.mk ((by rw [hg]; exact Nat.ne_of_gt (blk_lt (g := gb101) (o := .cells #[.int .i64 a0_0, .slice A0_1 l0_1.length c0_1] 39 (0, 0)) (by (with_reducible repeat (first | refine kN ?_ _ | refine kD ?_ | refine kA ?_ _)); exact BK101.out)) : gb102 ≠ gb101)); clear BK101; clear HB; have BK101 := n0_; have HB := n1_; have BK102 := n2_; have GW102 := n3_; have GE102 := n4_; have NB101_102 := n5_; have NB102_101 := n6_; clear n0_ n1_ n2_ n3_ n4_ n5_ n6_; clear hb hbox hg; have hnb8 := NB101_102.out; have hnc8 := NB102_101.out; have hcz9_0 : w7.cell? ⟨gb101, 0, none⟩ = some (.int .i64 a0_0) := (blk_cell BK101.out 0).trans rfl; have hcz9_1 : w7.cell? ⟨gb101, 1, none⟩ = some (.slice A0_1 l0_1.length c0_1) := (blk_cell BK101.out 1).trans rfl; have hfz9_0 := blk_frozen BK101.out 0; have hfz9_1 := blk_frozen BK101.out 1; have hcz10_0 : w7.cell? ⟨gb102, 0, none⟩ = some (.int .i64 a1_0) := (blk_cell BK102.out 0).trans rfl; have hcz10_1 : w7.cell? ⟨gb102, 1, none⟩ = some (.slice A1_1 l1_1.length c1_1) := (blk_cell BK102.out 1).trans rfl; have hfz10_0 := blk_frozen BK102.out 0; have hfz10_1 := blk_frozen BK102.out 1) | ((with_reducible refine gate_callee (f := 41) rfl ?_); refine goesL_ (some 14) rfl rfl Try.func41 (by kernel_rfl) rfl #[.slice A0_1 l0_1.length c0_1, .slice A1_1 l1_1.length c1_1] rfl (by (try simp only [mA, mC, mN]); first | done | rfl | (simp only [List.length_drop, List.length_take]; rfl)) ?_; (with_reducible refine (laws_eqIntSS.calls k _ _ l0_1 _ _ l1_1 true _ ?side1 ?side2 ?side3 ?side4 A4.out).mono ?_); (case side1 => repeat (first | exact (Kd.C_below HR0_1.out HB.out) | (with_reducible refine Kd.C_alloc ?_ _) | (with_reducible refine Kd.C_drewN ?_ _) | (with_reducible refine Kd.C_drew ?_))); (case side2 => exact HC0_1.out); (case side3 => repeat (first | exact (Kd.C_below HR1_1.out HB.out) | (with_reducible refine Kd.C_alloc ?_ _) | (with_reducible refine Kd.C_drewN ?_ _) | (with_reducible refine Kd.C_drew ?_))); (case side4 => exact HC1_1.out); rintro e w' ⟨rfl, ⟨nd, rfl⟩⟩; refine ⟨_, rfl, ?_⟩))
   go_ret
   exact ⟨by first | rfl | (simp <;> rfl) | (simp [*] <;> rfl), by repeat (first | (with_reducible first | exact HB.out | apply ba | apply bd | apply be | refine bs ?_ GE101.out | refine bs ?_ GE102.out) | exact HB.out)⟩
  ·replace c5 := Bool.eq_false_iff.mpr c5
   subst c5
   have H1 : (some false) = some r := by rw [if_neg (show ¬ (false = true) by decide)] at H; exact H
   clear H
   have H := H1
   clear H1
   obtain rfl := Option.some.inj H
   go_enter Try.func27, Try.ntmps27
   go_wp2_with (first | ((with_reducible refine gate_dst (N := 2) rfl ?_); refine box_event ?hg (N := 2) ?hd (cs := #[.int .i64 a0_0, .slice A0_1 l0_1.length c0_1]) (t := 39) ?hr ?_; (case hd => rfl); (case hg => rfl); (case hr => first | (go_simp; done) | (go_simp; rfl)); intro gb101 hg w11 hbox hb; have n0_ := Aside0.mk (below_step (by repeat (first | (with_reducible first | exact HB.out | apply ba | apply bd | apply be) | exact HB.out)) hb); have n1_ := Aside0.mk (hbox); have n2_ := Aside0.mk ((by rw [hg]; exact (below_size (by repeat (first | (with_reducible first | exact HB.out | apply ba | apply bd | apply be) | exact HB.out))) : w.heap.size ≤ gb101)); have n3_ := Aside0.mk ((by rw [hg]; exact (below_size (by repeat (first | (with_reducible first | exact HB.out | apply ba | apply bd | apply be) | exact HB.out))) : w.heap.size ≤ gb101)); clear HB; have HB := n0_; have BK101 := n1_; have GW101 := n2_; have GE101 := n3_; clear n0_ n1_ n2_ n3_; clear hb hbox hg) | ((with_reducible refine gate_dst (N := 3) rfl ?_); refine box_event ?hg (N := 3) ?hd (cs := #[.int .i64 a1_0, .slice A1_1 l1_1.length c1_1]) (t := 39) ?hr ?_; (case hd => rfl); (case hg => rfl); (case hr => first | (go_simp; done) | (go_simp; rfl)); intro gb102 hg w12 hbox hb; have n0_ := Aside0.mk (blk_below (g := gb101) (o := .cells #[.int .i64 a0_0, .slice A0_1 l0_1.length c0_1] 39 (0, 0)) (by (with_reducible repeat (first | refine kN ?_ _ | refine kD ?_ | refine kA ?_ _)); exact BK101.out) hb); have n1_ := Aside0.mk (below_step (by repeat (first | (with_reducible first | exact HB.out | apply ba | apply bd | apply be | refine bs ?_ GE101.out) | exact HB.out)) hb); have n2_ := Aside0.mk (hbox); have n3_ := Aside0.mk ((by rw [hg]; exact (below_size (by repeat (first | (with_reducible first | exact HB.out | apply ba | apply bd | apply be | refine bs ?_ GE101.out) | exact HB.out))) : w.heap.size ≤ gb102)); have n4_ := Aside0.mk ((by rw [hg]; exact (below_size (by repeat (first | (with_reducible first | exact HB.out | apply ba | apply bd | apply be | refine bs ?_ GE101.out) | exact HB.out))) : w.heap.size ≤ gb102)); have n5_ := Aside0.mk ((by rw [hg]; exact Nat.ne_of_lt (blk_lt (g := gb101) (o := .cells #[.int .i64 a0_0, .slice A0_1 l0_1.length c0_1] 39 (0, 0)) (by (with_reducible repeat (first | refine kN ?_ _ | refine kD ?_ | refine kA ?_ _)); exact BK101.out)) : gb101 ≠ gb102)); have n6_ := Aside0.mk ((by rw [hg]; exact Nat.ne_of_gt (blk_lt (g := gb101) (o := .cells #[.int .i64 a0_0, .slice A0_1 l0_1.length c0_1] 39 (0, 0)) (by (with_reducible repeat (first | refine kN ?_ _ | refine kD ?_ | refine kA ?_ _)); exact BK101.out)) : gb102 ≠ gb101)); clear BK101; clear HB; have BK101 := n0_; have HB := n1_; have BK102 := n2_; have GW102 := n3_; have GE102 := n4_; have NB101_102 := n5_; have NB102_101 := n6_; clear n0_ n1_ n2_ n3_ n4_ n5_ n6_; clear hb hbox hg; have hnb13 := NB101_102.out; have hnc13 := NB102_101.out; have hcz14_0 : w12.cell? ⟨gb101, 0, none⟩ = some (.int .i64 a0_0) := (blk_cell BK101.out 0).trans rfl; have hcz14_1 : w12.cell? ⟨gb101, 1, none⟩ = some (.slice A0_1 l0_1.length c0_1) := (blk_cell BK101.out 1).trans rfl; have hfz14_0 := blk_frozen BK101.out 0; have hfz14_1 := blk_frozen BK101.out 1; have hcz15_0 : w12.cell? ⟨gb102, 0, none⟩ = some (.int .i64 a1_0) := (blk_cell BK102.out 0).trans rfl; have hcz15_1 : w12.cell? ⟨gb102, 1, none⟩ = some (.slice A1_1 l1_1.length c1_1) := (blk_cell BK102.out 1).trans rfl; have hfz15_0 := blk_frozen BK102.out 0; have hfz15_1 := blk_frozen BK102.out 1) | ((with_reducible refine gate_callee (f := 41) rfl ?_); refine goesL_ (some 14) rfl rfl Try.func41 (by kernel_rfl) rfl #[.slice A0_1 l0_1.length c0_1, .slice A1_1 l1_1.length c1_1] rfl (by (try simp only [mA, mC, mN]); first | done | rfl | (simp only [List.length_drop, List.length_take]; rfl)) ?_; (with_reducible refine (laws_eqIntSS.calls k _ _ l0_1 _ _ l1_1 false _ ?side1 ?side2 ?side3 ?side4 A4.out).mono ?_); (case side1 => repeat (first | exact (Kd.C_below HR0_1.out HB.out) | (with_reducible refine Kd.C_alloc ?_ _) | (with_reducible refine Kd.C_drewN ?_ _) | (with_reducible refine Kd.C_drew ?_))); (case side2 => exact HC0_1.out); (case side3 => repeat (first | exact (Kd.C_below HR1_1.out HB.out) | (with_reducible refine Kd.C_alloc ?_ _) | (with_reducible refine Kd.C_drewN ?_ _) | (with_reducible refine Kd.C_drew ?_))); (case side4 => exact HC1_1.out); rintro e w' ⟨rfl, ⟨nd, rfl⟩⟩; refine ⟨_, rfl, ?_⟩))
   go_ret
   exact ⟨by first | rfl | (simp <;> rfl) | (simp [*] <;> rfl), by repeat (first | (with_reducible first | exact HB.out | apply ba | apply bd | apply be | refine bs ?_ GE101.out | refine bs ?_ GE102.out) | exact HB.out)⟩
 ·rw [if_neg c3] at H
  have c3b0 : (a0_0 == a1_0) = false := beq_eq_false_iff_ne.mpr c3
  have c3b1 : (a0_0 != a1_0) = true := bne_iff_ne.mpr c3
  obtain rfl := Option.some.inj H
  go_enter Try.func27, Try.ntmps27
  go_wp2_with (first | ((with_reducible refine gate_dst (N := 2) rfl ?_); refine box_event ?hg (N := 2) ?hd (cs := #[.int .i64 a0_0, .slice A0_1 l0_1.length c0_1]) (t := 39) ?hr ?_; (case hd => rfl); (case hg => rfl); (case hr => first | (go_simp; done) | (go_simp; rfl)); intro gb101 hg w16 hbox hb; have n0_ := Aside0.mk (below_step (by repeat (first | (with_reducible first | exact HB.out | apply ba | apply bd | apply be) | exact HB.out)) hb); have n1_ := Aside0.mk (hbox); have n2_ := Aside0.mk ((by rw [hg]; exact (below_size (by repeat (first | (with_reducible first | exact HB.out | apply ba | apply bd | apply be) | exact HB.out))) : w.heap.size ≤ gb101)); have n3_ := Aside0.mk ((by rw [hg]; exact (below_size (by repeat (first | (with_reducible first | exact HB.out | apply ba | apply bd | apply be) | exact HB.out))) : w.heap.size ≤ gb101)); clear HB; have HB := n0_; have BK101 := n1_; have GW101 := n2_; have GE101 := n3_; clear n0_ n1_ n2_ n3_; clear hb hbox hg) | ((with_reducible refine gate_dst (N := 3) rfl ?_); refine box_event ?hg (N := 3) ?hd (cs := #[.int .i64 a1_0, .slice A1_1 l1_1.length c1_1]) (t := 39) ?hr ?_; (case hd => rfl); (case hg => rfl); (case hr => first | (go_simp; done) | (go_simp; rfl)); intro gb102 hg w17 hbox hb; have n0_ := Aside0.mk (blk_below (g := gb101) (o := .cells #[.int .i64 a0_0, .slice A0_1 l0_1.length c0_1] 39 (0, 0)) (by (with_reducible repeat (first | refine kN ?_ _ | refine kD ?_ | refine kA ?_ _)); exact BK101.out) hb); have n1_ := Aside0.mk (below_step (by repeat (first | (with_reducible first | exact HB.out | apply ba | apply bd | apply be | refine bs ?_ GE101.out) | exact HB.out)) hb); have n2_ := Aside0.mk (hbox); have n3_ := Aside0.mk ((by rw [hg]; exact (below_size (by repeat (first | (with_reducible first | exact HB.out | apply ba | apply bd | apply be | refine bs ?_ GE101.out) | exact HB.out))) : w.heap.size ≤ gb102)); have n4_ := Aside0.mk ((by rw [hg]; exact (below_size (by repeat (first | (with_reducible first | exact HB.out | apply ba | apply bd | apply be | refine bs ?_ GE101.out) | exact HB.out))) : w.heap.size ≤ gb102)); have n5_ := Aside0.mk ((by rw [hg]; exact Nat.ne_of_lt (blk_lt (g := gb101) (o := .cells #[.int .i64 a0_0, .slice A0_1 l0_1.length c0_1] 39 (0, 0)) (by (with_reducible repeat (first | refine kN ?_ _ | refine kD ?_ | refine kA ?_ _)); exact BK101.out)) : gb101 ≠ gb102)); have n6_ := Aside0.mk ((by rw [hg]; exact Nat.ne_of_gt (blk_lt (g := gb101) (o := .cells #[.int .i64 a0_0, .slice A0_1 l0_1.length c0_1] 39 (0, 0)) (by (with_reducible repeat (first | refine kN ?_ _ | refine kD ?_ | refine kA ?_ _)); exact BK101.out)) : gb102 ≠ gb101)); clear BK101; clear HB; have BK101 := n0_; have HB := n1_; have BK102 := n2_; have GW102 := n3_; have GE102 := n4_; have NB101_102 := n5_; have NB102_101 := n6_; clear n0_ n1_ n2_ n3_ n4_ n5_ n6_; clear hb hbox hg; have hnb18 := NB101_102.out; have hnc18 := NB102_101.out; have hcz19_0 : w17.cell? ⟨gb101, 0, none⟩ = some (.int .i64 a0_0) := (blk_cell BK101.out 0).trans rfl; have hcz19_1 : w17.cell? ⟨gb101, 1, none⟩ = some (.slice A0_1 l0_1.length c0_1) := (blk_cell BK101.out 1).trans rfl; have hfz19_0 := blk_frozen BK101.out 0; have hfz19_1 := blk_frozen BK101.out 1; have hcz20_0 : w17.cell? ⟨gb102, 0, none⟩ = some (.int .i64 a1_0) := (blk_cell BK102.out 0).trans rfl; have hcz20_1 : w17.cell? ⟨gb102, 1, none⟩ = some (.slice A1_1 l1_1.length c1_1) := (blk_cell BK102.out 1).trans rfl; have hfz20_0 := blk_frozen BK102.out 0; have hfz20_1 := blk_frozen BK102.out 1))
  go_ret
  exact ⟨by first | rfl | (simp <;> rfl) | (simp [*] <;> rfl), by repeat (first | (with_reducible first | exact HB.out | apply ba | apply bd | apply be | refine bs ?_ GE101.out | refine bs ?_ GE102.out) | exact HB.out)⟩

end Go.Proofs.Yticnoiflccbhcaa.Q

namespace Go.Proofs.Yticnoiflccbhcaa.Q
open Go.RowKit Go.Proofs.YticnoiflccbhcaaX Go.Proofs.YticnoiflccbhcaaW.PrintWords Go.Proofs.YticnoiflccbhcaaW.PrintLast Go.Proofs.YticnoiflccbhcaaW.PrintMore
attribute [local go_sem] max2_int min2_int max_two min_two max_three min_three max_four min_four   -- for this text's walks alone
set_option linter.unusedVariables false
set_option linter.unusedSimpArgs false

/-! ### laws_szIntSS: function 63 -/
def laws_szIntSS.l0 : Nat → List (List Int) → Int → Int → Option (Int)
 | 0, _, _, _ => none
 | k + 1, x0, x1, x5 => if x5 < (x0.length : Int) then (if 0 ≤ x5 then ((laws_szIntS.f (rd_L2 x0 x5) x1).bind fun t102 => (if t102 < 0 then (some (-1)) else (laws_szIntSS.l0 k x0 t102 (wrap64 (x5 + 1))))) else (none)) else (some x1)
def laws_szIntSS.f (k : Nat) (l0 : List (List Int)) (a1 : Int) : Option (Int) := if (wrap64 (a1 - (l0.length : Int))) < 0 then (some (-1)) else (laws_szIntSS.l0 k l0 (wrap64 (a1 - (l0.length : Int))) 0)
theorem laws_szIntSS.mono_l : ∀ k, (∀ y0 y1 y2, LeO (laws_szIntSS.l0 k y0 y1 y2) (laws_szIntSS.l0 (k + 1) y0 y1 y2))
 | 0 => fun _ _ _ r h => by simp [laws_szIntSS.l0] at h
 | k + 1 => by
  have ih0 := laws_szIntSS.mono_l k
  ·intro y0 y1 y2
   unfold laws_szIntSS.l0
   repeat' first
   | (with_reducible exact ih0 _ _ _)
   | (with_reducible exact LeO.refl _)
   | (with_reducible exact LeO.none _)
   | (with_reducible refine LeO.ite ?_ ?_)
   | (with_reducible refine LeO.bind ?_ (fun _ => ?_))
   | exact ih0 _ _ _
   | exact LeO.none _
   | refine LeO.ite ?_ ?_
   | refine LeO.bind ?_ (fun _ => ?_)
theorem laws_szIntSS.mono : ∀ a0 a1 k, LeO (laws_szIntSS.f k a0 a1) (laws_szIntSS.f (k + 1) a0 a1) := by
 intro a0 a1 k
 have ih0 := laws_szIntSS.mono_l k
 unfold laws_szIntSS.f
 repeat' first
   | (with_reducible exact ih0 _ _ _)
   | (with_reducible exact LeO.refl _)
   | (with_reducible exact LeO.none _)
   | (with_reducible refine LeO.ite ?_ ?_)
   | (with_reducible refine LeO.bind ?_ (fun _ => ?_))
   | exact ih0 _ _ _
   | exact LeO.none _
   | refine LeO.ite ?_ ?_
   | refine LeO.bind ?_ (fun _ => ?_)
set_option maxHeartbeats 8000000 in
set_option maxRecDepth 100000 in
theorem laws_szIntSS.calls (k : Nat) (A0 : Option Addr) (c0 : Nat) (l0 : List (List Int)) (a1 : Int) (r : Int) (w : World) (hr0 : Kd.C (Kd.slice 3 (Kd.int .i64)) w A0 l0.length l0) (hc0 : l0.length ≤ c0) (h : laws_szIntSS.f k l0 a1 = some r) :
  Calls Try.prog 63 #[.slice A0 l0.length c0, .int .i64 a1] w fun e w' => e = .returned (.int .i64 r) ∧ Drawn0 w w' := by
 have HR0 := Aside0.mk hr0
 have HC0 := Aside0.mk hc0
 clear hr0 hc0
 have H : (if (wrap64 (a1 - (l0.length : Int))) < 0 then (some (-1)) else (laws_szIntSS.l0 k l0 (wrap64 (a1 - (l0.length : Int))) 0)) = some r := h
 clear h
 by_cases c3 : (wrap64 (a1 - (l0.length : Int))) < 0
 ·rw [if_pos c3] at H
  have c3b0 : decide ((wrap64 (a1 - (l0.length : Int))) < 0) = true := decide_eq_true c3
  clear c3
  obtain rfl := Option.some.inj H
  go_enter Try.func63, Try.ntmps63
  go_wp2
  go_ret
  exact ⟨by first | rfl | (simp; done) | (simp [*]; done), by repeat (first | exact Drawn0.refl _ | apply Drawn0.step)⟩
 ·rw [if_neg c3] at H
  have c3b0 : decide ((wrap64 (a1 - (l0.length : Int))) < 0) = false := decide_eq_false c3
  clear c3
  have H' := Aside0.mk H
  clear H
  go_enter Try.func63, Try.ntmps63
  go_wp2
  go_loopg [1, 5] k (fun kq v1 v5 w' => ∃ (x1_1 : Int) (x5_1 : Int), v1 = .int .i64 x1_1 ∧ v5 = .int .i64 x5_1 ∧ Aside0 (laws_szIntSS.l0 kq l0 x1_1 x5_1 = some r) ∧ Aside0 (kq ≤ k) ∧ Drawn0 w w')
  case atStart => exact ⟨(wrap64 (a1 - (l0.length : Int))), (0), (by first | rfl | (simp; done) | (simp [*]; done)), (by first | rfl | (simp; done) | (simp [*]; done)), H', ⟨Nat.le_refl _⟩, by repeat (first | exact Drawn0.refl _ | apply Drawn0.step)⟩
  case round =>
   clear H'
   try clear p2
   try clear c3
   try clear c3b0
   obtain ⟨x1_1, x5_1, rfl, rfl, HA, HK1, ⟨m1, rfl⟩⟩ := hrel
   cases gk with
   | zero => exact absurd HA.out (by simp [laws_szIntSS.l0])
   | succ k1 =>
    have H := HA.out
    clear HA
    simp only [laws_szIntSS.l0] at H
    by_cases c4 : x5_1 < (l0.length : Int)
    ·rw [if_pos c4] at H
     have c4b0 : decide (x5_1 < (l0.length : Int)) = true := decide_eq_true c4
     clear c4
     by_cases c5 : 0 ≤ x5_1
     ·rw [if_pos c5] at H
      have c5b0 : decide (0 ≤ x5_1) = true := decide_eq_true c5
      clear c5
      replace H := oB H
      obtain ⟨t102, A60, H⟩ := H
      replace H : (if t102 < 0 then (some (-1)) else (laws_szIntSS.l0 k1 l0 t102 (wrap64 (x5_1 + 1)))) = some r := H
      have A6 := Aside0.mk A60
      clear A60
      by_cases c7 : t102 < 0
      ·rw [if_pos c7] at H
       have c7b0 : decide (t102 < 0) = true := decide_eq_true c7
       clear c7
       obtain rfl := Option.some.inj H
       have p101 : 0 ≤ (x5_1 : Int) := of_decide_eq_true (by first | (with_reducible assumption) | assumption)
       have q101 : x5_1 < (l0.length : Int) := of_decide_eq_true (by first | (with_reducible assumption) | assumption)
       obtain ⟨ad101, A101_0, c101_0, e101, hx101_0, hl101_0, hi101_0⟩ := at_L2 HR0.out x5_1 p101 q101
       cases e101
       have HR101_0 := Aside0.mk hi101_0
       have HC101_0 := Aside0.mk hl101_0
       clear hi101_0 hl101_0
       replace p101 := eq_true p101
       replace q101 := eq_true q101
       go_wp2_with (first | ((with_reducible refine gate_callee (f := 54) rfl ?_); refine goesL_ (some 23) rfl rfl Try.func54 (by kernel_rfl) rfl #[.slice A101_0 (rd_L2 l0 x5_1).length c101_0, .int .i64 x1_1] rfl (by (try simp only [mA, mC, mN]); first | done | rfl | (simp only [List.length_drop, List.length_take]; rfl)) ?_; (with_reducible refine (laws_szIntS.calls _ _ (rd_L2 l0 x5_1) x1_1 t102 _ ?side1 ?side2 A6.out).mono ?_); (case side1 => repeat (first | exact HR101_0.out | (with_reducible refine Kd.C_alloc ?_ _) | (with_reducible refine Kd.C_drewN ?_ _) | (with_reducible refine Kd.C_drew ?_))); (case side2 => exact HC101_0.out); rintro e w' ⟨rfl, ⟨nd, rfl⟩⟩; refine ⟨_, rfl, ?_⟩))
       go_ret
       exact ⟨by first | rfl | (simp; done) | (simp [*]; done), by repeat (first | exact Drawn0.refl _ | apply Drawn0.step)⟩
      ·rw [if_neg c7] at H
       have c7b0 : decide (t102 < 0) = false := decide_eq_false c7
       clear c7
       have H' := Aside0.mk H
       clear H
       have p101 : 0 ≤ (x5_1 : Int) := of_decide_eq_true (by first | (with_reducible assumption) | assumption)
       have q101 : x5_1 < (l0.length : Int) := of_decide_eq_true (by first | (with_reducible assumption) | assumption)
       obtain ⟨ad101, A101_0, c101_0, e101, hx101_0, hl101_0, hi101_0⟩ := at_L2 HR0.out x5_1 p101 q101
       cases e101
       have HR101_0 := Aside0.mk hi101_0
       have HC101_0 := Aside0.mk hl101_0
       clear hi101_0 hl101_0
       replace p101 := eq_true p101
       replace q101 := eq_true q101
       go_wp2_with (first | ((with_reducible refine gate_callee (f := 54) rfl ?_); refine goesL_ (some 23) rfl rfl Try.func54 (by kernel_rfl) rfl #[.slice A101_0 (rd_L2 l0 x5_1).length c101_0, .int .i64 x1_1] rfl (by (try simp only [mA, mC, mN]); first | done | rfl | (simp only [List.length_drop, List.length_take]; rfl)) ?_; (with_reducible refine (laws_szIntS.calls _ _ (rd_L2 l0 x5_1) x1_1 t102 _ ?side1 ?side2 A6.out).mono ?_); (case side1 => repeat (first | exact HR101_0.out | (with_reducible refine Kd.C_alloc ?_ _) | (with_reducible refine Kd.C_drewN ?_ _) | (with_reducible refine Kd.C_drew ?_))); (case side2 => exact HC101_0.out); rintro e w' ⟨rfl, ⟨nd, rfl⟩⟩; refine ⟨_, rfl, ?_⟩))
       go_roundg k1
       case measure => have := HK1.out; omega
       case rel => exact ⟨(t102), (wrap64 (x5_1 + 1)), (by first | rfl | (simp; done) | (simp [*]; done)), (by first | rfl | (simp; done) | (simp [*]; done)), H', ⟨by have := HK1.out; omega⟩, by repeat (first | exact Drawn0.refl _ | apply Drawn0.step)⟩
     ·rw [if_neg c5] at H
      exact absurd H (by simp)
    ·rw [if_neg c4] at H
     have c4b0 : decide (x5_1 < (l0.length : Int)) = false := decide_eq_false c4
     clear c4
     obtain rfl := Option.some.inj H
     go_wp2
     go_ret
     exact ⟨by first | rfl | (simp; done) | (simp [*]; done), by repeat (first | exact Drawn0.refl _ | apply Drawn0.step)⟩

end Go.Proofs.Yticnoiflccbhcaa.Q

namespace Go.Proofs.Yticnoiflccbhcaa.Q
open Go.RowKit Go.Proofs.YticnoiflccbhcaaX Go.Proofs.YticnoiflccbhcaaW.PrintWords Go.Proofs.YticnoiflccbhcaaW.PrintLast Go.Proofs.YticnoiflccbhcaaW.PrintMore
attribute [local go_sem] max2_int min2_int max_two min_two max_three min_three max_four min_four   -- for this text's walks alone
set_option linter.unusedVariables false
set_option linter.unusedSimpArgs false

/-! ### laws_szGame: function 22 -/
def laws_szGame.f (k : Nat) (a0_0 : Int) (l0_1 : List (List Int)) (a1 : Int) : Option (Int) := (laws_szIntSS.f k l0_1 a1).bind fun t102 => (if t102 < 0 then (some (-1)) else (some t102))
theorem laws_szGame.mono : ∀ a0 a1 a2 k, LeO (laws_szGame.f k a0 a1 a2) (laws_szGame.f (k + 1) a0 a1 a2) := by
 intro a0 a1 a2 k
 unfold laws_szGame.f
 repeat' first
   | (with_reducible exact laws_szIntSS.mono _ _ _)
   | (with_reducible exact LeO.refl _)
   | (with_reducible exact LeO.none _)
   | (with_reducible refine LeO.ite ?_ ?_)
   | (with_reducible refine LeO.bind ?_ (fun _ => ?_))
   | exact laws_szIntSS.mono _ _ _
   | exact LeO.none _
   | refine LeO.ite ?_ ?_
   | refine LeO.bind ?_ (fun _ => ?_)
set_option maxHeartbeats 8000000 in
set_option maxRecDepth 100000 in
theorem laws_szGame.calls (k : Nat) (a0_0 : Int) (A0_1 : Option Addr) (c0_1 : Nat) (l0_1 : List (List Int)) (a1 : Int) (r : Int) (w : World) (hr0_1 : Kd.C (Kd.slice 3 (Kd.int .i64)) w A0_1 l0_1.length l0_1) (hc0_1 : l0_1.length ≤ c0_1) (h : laws_szGame.f k a0_0 l0_1 a1 = some r) :
  Calls Try.prog 22 #[.agg #[.int .i64 a0_0, .slice A0_1 l0_1.length c0_1], .int .i64 a1] w fun e w' => e = .returned (.int .i64 r) ∧ Below w.heap.size w w' := by
 have hu35 := Try.underlying35
 have HR0_1 := Aside0.mk hr0_1
 have HC0_1 := Aside0.mk hc0_1
 clear hr0_1 hc0_1
 have HB := Aside0.mk (Below.refl w.heap.size w)
 have H : ((laws_szIntSS.f k l0_1 a1).bind fun t102 => (if t102 < 0 then (some (-1)) else (some t102))) = some r := h
 clear h
 replace H := oB H
 obtain ⟨t102, A30, H⟩ := H
 replace H : (if t102 < 0 then (some (-1)) else (some t102)) = some r := H
 have A3 := Aside0.mk A30
 clear A30
 by_cases c4 : t102 < 0
 ·rw [if_pos c4] at H
  have c4b0 : decide (t102 < 0) = true := decide_eq_true c4
  clear c4
  obtain rfl := Option.some.inj H
  go_enter Try.func22, Try.ntmps22
  go_wp2_with (first | ((with_reducible refine gate_dst (N := 2) rfl ?_); refine box_event ?hg (N := 2) ?hd (cs := #[.int .i64 a0_0, .slice A0_1 l0_1.length c0_1]) (t := 35) ?hr ?_; (case hd => rfl); (case hg => rfl); (case hr => first | (go_simp; done) | (go_simp; rfl)); intro gb101 hg w5 hbox hb; have n0_ := Aside0.mk (below_step (by repeat (first | (with_reducible first | exact HB.out | apply ba | apply bd | apply be) | exact HB.out)) hb); have n1_ := Aside0.mk (hbox); have n2_ := Aside0.mk ((by rw [hg]; exact (below_size (by repeat (first | (with_reducible first | exact HB.out | apply ba | apply bd | apply be) | exact HB.out))) : w.heap.size ≤ gb101)); have n3_ := Aside0.mk ((by rw [hg]; exact (below_size (by repeat (first | (with_reducible first | exact HB.out | apply ba | apply bd | apply be) | exact HB.out))) : w.heap.size ≤ gb101)); clear HB; have HB := n0_; have BK101 := n1_; have GW101 := n2_; have GE101 := n3_; clear n0_ n1_ n2_ n3_; clear hb hbox hg; have hcz6_0 : w5.cell? ⟨gb101, 0, none⟩ = some (.int .i64 a0_0) := (blk_cell BK101.out 0).trans rfl; have hcz6_1 : w5.cell? ⟨gb101, 1, none⟩ = some (.slice A0_1 l0_1.length c0_1) := (blk_cell BK101.out 1).trans rfl; have hfz6_0 := blk_frozen BK101.out 0; have hfz6_1 := blk_frozen BK101.out 1) | ((with_reducible refine gate_callee (f := 63) rfl ?_); refine goesL_ (some 8) rfl rfl Try.func63 (by kernel_rfl) rfl #[.slice A0_1 l0_1.length c0_1, .int .i64 a1] rfl (by (try simp only [mA, mC, mN]); first | done | rfl | (simp only [List.length_drop, List.length_take]; rfl)) ?_; (with_reducible refine (laws_szIntSS.calls k _ _ l0_1 a1 t102 _ ?side1 ?side2 A3.out).mono ?_); (case side1 => repeat (first | exact (Kd.C_below HR0_1.out HB.out) | (with_reducible refine Kd.C_alloc ?_ _) | (with_reducible refine Kd.C_drewN ?_ _) | (with_reducible refine Kd.C_drew ?_))); (case side2 => exact HC0_1.out); rintro e w' ⟨rfl, ⟨nd, rfl⟩⟩; refine ⟨_, rfl, ?_⟩))
  go_ret
  exact ⟨by first | rfl | (simp <;> rfl) | (simp [*] <;> rfl), by repeat (first | (with_reducible first | exact HB.out | apply ba | apply bd | apply be | refine bs ?_ GE101.out) | exact HB.out)⟩
 ·rw [if_neg c4] at H
  have c4b0 : decide (t102 < 0) = false := decide_eq_false c4
  clear c4
  obtain rfl := Option.some.inj H
  go_enter Try.func22, Try.ntmps22
  go_wp2_with (first | ((with_reducible refine gate_dst (N := 2) rfl ?_); refine box_event ?hg (N := 2) ?hd (cs := #[.int .i64 a0_0, .slice A0_1 l0_1.length c0_1]) (t := 35) ?hr ?_; (case hd => rfl); (case hg => rfl); (case hr => first | (go_simp; done) | (go_simp; rfl)); intro gb101 hg w7 hbox hb; have n0_ := Aside0.mk (below_step (by repeat (first | (with_reducible first | exact HB.out | apply ba | apply bd | apply be) | exact HB.out)) hb); have n1_ := Aside0.mk (hbox); have n2_ := Aside0.mk ((by rw [hg]; exact (below_size (by repeat (first | (with_reducible first | exact HB.out | apply ba | apply bd | apply be) | exact HB.out))) : w.heap.size ≤ gb101)); have n3_ := Aside0.mk ((by rw [hg]; exact (below_size (by repeat (first | (with_reducible first | exact HB.out | apply ba | apply bd | apply be) | exact HB.out))) : w.heap.size ≤ gb101)); clear HB; have HB := n0_; have BK101 := n1_; have GW101 := n2_; have GE101 := n3_; clear n0_ n1_ n2_ n3_; clear hb hbox hg; have hcz8_0 : w7.cell? ⟨gb101, 0, none⟩ = some (.int .i64 a0_0) := (blk_cell BK101.out 0).trans rfl; have hcz8_1 : w7.cell? ⟨gb101, 1, none⟩ = some (.slice A0_1 l0_1.length c0_1) := (blk_cell BK101.out 1).trans rfl; have hfz8_0 := blk_frozen BK101.out 0; have hfz8_1 := blk_frozen BK101.out 1) | ((with_reducible refine gate_callee (f := 63) rfl ?_); refine goesL_ (some 8) rfl rfl Try.func63 (by kernel_rfl) rfl #[.slice A0_1 l0_1.length c0_1, .int .i64 a1] rfl (by (try simp only [mA, mC, mN]); first | done | rfl | (simp only [List.length_drop, List.length_take]; rfl)) ?_; (with_reducible refine (laws_szIntSS.calls k _ _ l0_1 a1 t102 _ ?side1 ?side2 A3.out).mono ?_); (case side1 => repeat (first | exact (Kd.C_below HR0_1.out HB.out) | (with_reducible refine Kd.C_alloc ?_ _) | (with_reducible refine Kd.C_drewN ?_ _) | (with_reducible refine Kd.C_drew ?_))); (case side2 => exact HC0_1.out); rintro e w' ⟨rfl, ⟨nd, rfl⟩⟩; refine ⟨_, rfl, ?_⟩))
  go_ret
  exact ⟨by first | rfl | (simp <;> rfl) | (simp [*] <;> rfl), by repeat (first | (with_reducible first | exact HB.out | apply ba | apply bd | apply be | refine bs ?_ GE101.out) | exact HB.out)⟩

end Go.Proofs.Yticnoiflccbhcaa.Q

namespace Go.Proofs.Yticnoiflccbhcaa.Q
open Go.RowKit Go.Proofs.YticnoiflccbhcaaX Go.Proofs.YticnoiflccbhcaaW.PrintWords Go.Proofs.YticnoiflccbhcaaW.PrintLast Go.Proofs.YticnoiflccbhcaaW.PrintMore
attribute [local go_sem] max2_int min2_int max_two min_two max_three min_three max_four min_four   -- for this text's walks alone
set_option linter.unusedVariables false
set_option linter.unusedSimpArgs false

/-! ### laws_toIntSS: function 68 -/
def laws_toIntSS.l0 : Nat → List (List Int) → List (List Int) → Int → Option ((List (List Int)))
 | 0, _, _, _ => none
 | k + 1, x0, x3, x4 => if x4 < (x0.length : Int) then (if 0 ≤ x4 then ((laws_toIntS.f k (rd_L2 x0 x4)).bind fun t105 => (if x4 < (x3.length : Int) then (laws_toIntSS.l0 k x0 (x3.set (x4 : Int).toNat t105) (wrap64 (x4 + 1))) else (none))) else (none)) else (some x3)
def laws_toIntSS.f (k : Nat) (l0 : List (List Int)) : Option ((List (List Int))) := if 0 ≤ (l0.length : Int) then (if ((l0.length : Int) : Int).toNat ≤ 11728124029610 then (laws_toIntSS.l0 k l0 (List.replicate ((l0.length : Int) : Int).toNat []) 0) else (none)) else (none)
theorem laws_toIntSS.mono_l : ∀ k, (∀ y0 y1 y2, LeO (laws_toIntSS.l0 k y0 y1 y2) (laws_toIntSS.l0 (k + 1) y0 y1 y2))
 | 0 => fun _ _ _ r h => by simp [laws_toIntSS.l0] at h
 | k + 1 => by
  have ih0 := laws_toIntSS.mono_l k
  ·intro y0 y1 y2
   unfold laws_toIntSS.l0
   repeat' first
   | (with_reducible exact ih0 _ _ _)
   | (with_reducible exact laws_toIntS.mono _ _)
   | (with_reducible exact LeO.refl _)
   | (with_reducible exact LeO.none _)
   | (with_reducible refine LeO.ite ?_ ?_)
   | (with_reducible refine LeO.bind ?_ (fun _ => ?_))
   | exact ih0 _ _ _
   | exact laws_toIntS.mono _ _
   | exact LeO.none _
   | refine LeO.ite ?_ ?_
   | refine LeO.bind ?_ (fun _ => ?_)
theorem laws_toIntSS.mono : ∀ a0 k, LeO (laws_toIntSS.f k a0) (laws_toIntSS.f (k + 1) a0) := by
 intro a0 k
 have ih0 := laws_toIntSS.mono_l k
 unfold laws_toIntSS.f
 repeat' first
   | (with_reducible exact ih0 _ _ _)
   | (with_reducible exact laws_toIntS.mono _ _)
   | (with_reducible exact LeO.refl _)
   | (with_reducible exact LeO.none _)
   | (with_reducible refine LeO.ite ?_ ?_)
   | (with_reducible refine LeO.bind ?_ (fun _ => ?_))
   | exact ih0 _ _ _
   | exact laws_toIntS.mono _ _
   | exact LeO.none _
   | refine LeO.ite ?_ ?_
   | refine LeO.bind ?_ (fun _ => ?_)
set_option maxHeartbeats 8000000 in
set_option maxRecDepth 100000 in
theorem laws_toIntSS.calls (k : Nat) (A0 : Option Addr) (c0 : Nat) (l0 : List (List Int)) (r : List (List Int)) (w : World) (hr0 : Kd.C (Kd.slice 3 (Kd.int .i64)) w A0 l0.length l0) (hc0 : l0.length ≤ c0) (h : laws_toIntSS.f k l0 = some r) :
  Calls Try.prog 68 #[.slice A0 l0.length c0] w fun e w' => ∃ v0_ : Value, e = .returned (v0_) ∧ Kd.S (Kd.slice 3 (Kd.int .i64)) 22 w' w.heap.size (fun _ => True) v0_ r ∧ Below w.heap.size w w' := by
 have HR0 := Aside0.mk hr0
 have HC0 := Aside0.mk hc0
 clear hr0 hc0
 have HB := Aside0.mk (Below.refl w.heap.size w)
 have H : (if 0 ≤ (l0.length : Int) then (if ((l0.length : Int) : Int).toNat ≤ 11728124029610 then (laws_toIntSS.l0 k l0 (List.replicate ((l0.length : Int) : Int).toNat []) 0) else (none)) else (none)) = some r := h
 clear h
 by_cases c2 : 0 ≤ (l0.length : Int)
 ·rw [if_pos c2] at H
  have c2b0 := eq_true c2
  have c2b1 : decide (0 ≤ (l0.length : Int)) = true := decide_eq_true c2
  clear c2
  by_cases c3 : ((l0.length : Int) : Int).toNat ≤ 11728124029610
  ·rw [if_pos c3] at H
   have c3b0 := eq_true c3
   have c3b1 : decide (((l0.length : Int) : Int).toNat ≤ 11728124029610) = true := decide_eq_true c3
   clear c3
   obtain ⟨y101, hy101⟩ : ∃ y_ : List (List Int), y_ = (List.replicate ((l0.length : Int) : Int).toNat []) := ⟨_, rfl⟩
   replace H : (laws_toIntSS.l0 k l0 y101 0) = some r := by first | (rw [hy101]; with_reducible exact H) | (have H2_ := (Option.bind_some _ _).symm.trans H; rw [hy101]; with_reducible exact H2_) | (have H2_ := (Option.bind_some _ _).symm.trans H; with_reducible exact H2_) | with_reducible exact H | (rw [hy101]; exact H) | exact H
   have Ny101 := Aside0.mk hy101
   clear hy101
   have H' := Aside0.mk H
   clear H
   go_enter Try.func68, Try.ntmps68
   go_wp2_with (first | ((with_reducible refine gate_dst (N := 7) rfl ?_); refine Kd.S_make (Kd.slice 3 (Kd.int .i64)) _ 22 rfl (N := 7) rfl 33 _ _ rfl (l0.length : Int) rfl rfl Try.underlying33 (.slice none 0 0) 24 info22 rfl (by decide) (by omega) [] (ok := fun _ => True) (okp := fun _ => True) ⟨_, rfl, Kd.R_nil _ _ _ _ _⟩ (fun _ hk => hk) trivial (of_decide_eq_true (by first | (with_reducible assumption) | assumption)) (Nat.le_trans (Nat.mul_le_mul_right _ (of_decide_eq_true (by first | (with_reducible assumption) | assumption) : (l0.length : Int).toNat ≤ 11728124029610)) (by omega)) (Below.refl _ _) (Nat.le_refl _) ?_; intro v102 w4 ho5 hb hg_ hnew_; clear hg_ hnew_; (first | rw [← Ny101.out] at ho5 | (simp only [Int.reduceToNat] at ho5; rw [← Ny101.out] at ho5)); have n0_ := Aside0.mk (Kd.S_lower ho5 (below_size (by repeat (first | (with_reducible first | exact HB.out | apply ba | apply bd | apply be) | exact HB.out)))); have n1_ := Aside0.mk (below_step (by repeat (first | (with_reducible first | exact HB.out | apply ba | apply bd | apply be) | exact HB.out)) hb); clear HB; have HO103 := n0_; have HB := n1_; clear n0_ n1_; clear hb ho5))
   go_loopg [4] k (fun kq v4 w' => ∃ (x3_1 : List (List Int)) (x4_1 : Int), v4 = .int .i64 x4_1 ∧ Aside0 (laws_toIntSS.l0 kq l0 x3_1 x4_1 = some r) ∧ Aside0 (kq ≤ k) ∧ Aside0 (Kd.S (Kd.slice 3 (Kd.int .i64)) 22 w' w.heap.size (fun _ => True) v102 x3_1) ∧ Aside0 (Below w.heap.size w w'))
   case atStart => exact ⟨(y101), (0), (by first | rfl | (simp; done) | (simp [*]; done)), H', ⟨Nat.le_refl _⟩, ⟨by (with_reducible repeat (first | apply Kd.S_alloc | apply Kd.S_drewN | apply Kd.S_drew)); exact HO103.out⟩, ⟨by repeat (first | (with_reducible first | exact HB.out | apply ba | apply bd | apply be) | exact HB.out)⟩⟩
   case round =>
    clear H'
    try clear c2
    try clear c2b0
    try clear c2b1
    try clear p2
    try clear c3
    try clear c3b0
    try clear c3b1
    obtain ⟨x3_1, x4_1, rfl, HA, HK1, HO_3, HB⟩ := hrel
    cases gk with
    | zero => exact absurd HA.out (by simp [laws_toIntSS.l0])
    | succ k1 =>
     have H := HA.out
     clear HA
     simp only [laws_toIntSS.l0] at H
     by_cases c6 : x4_1 < (l0.length : Int)
     ·rw [if_pos c6] at H
      have c6b0 : decide (x4_1 < (l0.length : Int)) = true := decide_eq_true c6
      clear c6
      by_cases c7 : 0 ≤ x4_1
      ·rw [if_pos c7] at H
       have c7b0 : decide (0 ≤ x4_1) = true := decide_eq_true c7
       clear c7
       replace H := oB H
       obtain ⟨t105, A80, H⟩ := H
       replace H : (if x4_1 < (x3_1.length : Int) then (laws_toIntSS.l0 k1 l0 (x3_1.set (x4_1 : Int).toNat t105) (wrap64 (x4_1 + 1))) else (none)) = some r := H
       have A8 := Aside0.mk A80
       clear A80
       by_cases c9 : x4_1 < (x3_1.length : Int)
       ·rw [if_pos c9] at H
        have c9b0 : decide (x4_1 < (x3_1.length : Int)) = true := decide_eq_true c9
        clear c9
        obtain ⟨y108, hy108⟩ : ∃ y_ : List (List Int), y_ = (x3_1.set (x4_1 : Int).toNat t105) := ⟨_, rfl⟩
        replace H : (laws_toIntSS.l0 k1 l0 y108 (wrap64 (x4_1 + 1))) = some r := by first | (rw [hy108]; with_reducible exact H) | (have H2_ := (Option.bind_some _ _).symm.trans H; rw [hy108]; with_reducible exact H2_) | (have H2_ := (Option.bind_some _ _).symm.trans H; with_reducible exact H2_) | with_reducible exact H | (rw [hy108]; exact H) | exact H
        have Ny108 := Aside0.mk hy108
        clear hy108
        have H' := Aside0.mk H
        clear H
        have p104 : 0 ≤ (x4_1 : Int) := of_decide_eq_true (by first | (with_reducible assumption) | assumption)
        have q104 : x4_1 < (l0.length : Int) := of_decide_eq_true (by first | (with_reducible assumption) | assumption)
        obtain ⟨ad104, A104_0, c104_0, e104, hx104_0, hl104_0, hi104_0⟩ := at_L2 HR0.out x4_1 p104 q104
        cases e104
        replace hx104_0 := (HB.out.cell (World.block_lt_of_cell? w _ hx104_0)).trans hx104_0
        have HR104_0 := Aside0.mk hi104_0
        have HC104_0 := Aside0.mk hl104_0
        clear hi104_0 hl104_0
        replace p104 := eq_true p104
        replace q104 := eq_true q104
        go_wp2_with (first | ((with_reducible refine gate_callee (f := 25) rfl ?_); refine goesL_ (some 20) rfl rfl Try.func25 (by kernel_rfl) rfl #[.slice A104_0 (rd_L2 l0 x4_1).length c104_0] rfl (by (try simp only [mA, mC, mN]); first | done | rfl | (simp only [List.length_drop, List.length_take]; rfl)) ?_; (with_reducible refine (laws_toIntS.calls k1 _ _ (rd_L2 l0 x4_1) t105 _ ?side1 ?side2 A8.out).mono ?_); (case side1 => repeat (first | exact (Kd.C_below HR104_0.out HB.out) | (with_reducible refine Kd.C_alloc ?_ _) | (with_reducible refine Kd.C_drewN ?_ _) | (with_reducible refine Kd.C_drew ?_))); (case side2 => exact HC104_0.out); rintro e w11 ⟨v106, rfl, ho0, hb⟩; refine ⟨_, rfl, ?_⟩; obtain ⟨Av_, cv_, ev_⟩ := Kd.R_slice ho0; subst ev_; have n0_ := Aside0.mk (Kd.S_elder' (by (with_reducible repeat (first | apply Kd.S_alloc | apply Kd.S_drewN | apply Kd.S_drew)); exact HO_3.out) (Kd.R_base ho0) hb); have n1_ := Aside0.mk (Kd.R_lower ho0 (below_size (by repeat (first | (with_reducible first | exact HB.out | apply ba | apply bd | apply be) | exact HB.out)))); have n2_ := Aside0.mk (below_step (by repeat (first | (with_reducible first | exact HB.out | apply ba | apply bd | apply be) | exact HB.out)) hb); clear HO_3; clear HB; have HO_3 := n0_; have HO107 := n1_; have HB := n2_; clear n0_ n1_ n2_; (try clear hb); (try clear hb2); (try clear hk); (try clear hi); (try clear ho0); have p10 : 0 ≤ (x4_1 : Int) := of_decide_eq_true (by first | (with_reducible assumption) | assumption); have q10 : (x4_1 : Int) < ((x3_1.length : Int) : Int) := of_decide_eq_true (by first | (with_reducible assumption) | assumption); obtain ⟨go10, co10, eo10, gb10, gl10, cl10, HG10⟩ := Kd.S_form HO_3.out (by omega); (first | cases eo10 | (injection eo10 with ea_ en_ ec_; (first | subst ea_ | (injection ea_ with ea_; subst ea_)); subst ec_; clear en_)); have GB10 := Aside0.mk gb10; have GG10 := Aside0.mk HG10; clear gb10 gl10 HG10; obtain ⟨_, ce10, hcl10, hM10, hcc10, hfr10, _, _⟩ := Kd.S_elem HO_3.out [] (x4_1 : Int) p10 q10; obtain ⟨ve10_0, rfl, ge10_0⟩ := hM10; have hx10_0 := hcc10 0 _ rfl; have hf10_0 := hfr10 0; (try simp only [show ((Kd.slice 3 (Kd.int .i64))).sz = 1 from rfl, Nat.mul_one, Nat.add_zero] at hx10_0); (try simp only [show ((Kd.slice 3 (Kd.int .i64))).sz = 1 from rfl, Nat.mul_one, Nat.add_zero] at hf10_0); (try clear hM10); clear hcl10 hcc10 hfr10; replace p10 := eq_true p10; replace q10 := eq_true q10; have n_ := Aside0.mk (Kd.S_mono (ok' := (fun k_ => some k_ ≠ ((Value.slice Av_ t105.length cv_) : Value).ownBlock)) HO_3.out (fun k_ hk => hk.2)); clear HO_3; have HO_3 := n_; clear n_; have HX12 := Aside0.mk (show Kd.S (Kd.slice 3 (Kd.int .i64)) 22 w11 w.heap.size (fun k_ => ((fun _ => True)) k_ ∧ ¬ ((fun k_ => some k_ = ((Value.slice Av_ t105.length cv_) : Value).ownBlock)) k_) (.slice (some ⟨go10, 0, none⟩) x3_1.length co10) x3_1 from (by (with_reducible repeat (first | apply Kd.S_alloc | apply Kd.S_drewN | apply Kd.S_drew)); exact Kd.S_mono HO_3.out (fun k_ hk => ⟨trivial, fun e_ => hk e_⟩))); obtain ⟨oki12, ce12, hcl12, hM12, hcc12, hfr12, hoki12, hH12⟩ := Kd.S_elem HX12.out [] (x4_1 : Int) (of_decide_eq_true (by first | (with_reducible assumption) | assumption)) (by have h_ : (x4_1 : Int) < ((x3_1.length : Int) : Int) := of_decide_eq_true (by first | (with_reducible assumption) | assumption); first | exact h_ | (have e_ := (Kd.S_reads' HO_3.out).1; omega) | simpa using h_); obtain ⟨ve12_0, rfl, ge12_0⟩ := hM12; have HP12 := Kd.S_seg hH12 (of_decide_eq_true (by first | (with_reducible assumption) | assumption)) (by have h_ : (x4_1 : Int) < ((x3_1.length : Int) : Int) := of_decide_eq_true (by first | (with_reducible assumption) | assumption); first | exact h_ | (have e_ := (Kd.S_reads' HO_3.out).1; omega) | simpa using h_) (seg := [(Value.slice Av_ t105.length cv_)]) (j := 0) (show 1 ≤ 1 from by decide) (x' := t105) (Kd.M_row (Kd.R_mono (Kd.R_tight rfl (Kd.R_mono (ok' := fun k_ => ((fun _ => True)) k_ ∧ k_ ≠ go10) (Kd.R_apart' (HO107.out) (Kd.S_typed HO_3.out) (by decide)) (fun k_ hk => ⟨trivial, fun e_ => (hk.2) (by rw [e_]; rfl)⟩))) (fun _ h_ => Or.inr (h_)))) (fun _ hk => hk) (fun k_ hk_ => ((Kd.R_mono (ok' := fun k_ => ((fun _ => True)) k_ ∧ k_ ≠ go10) (Kd.R_apart' (HO107.out) (Kd.S_typed HO_3.out) (by decide)) (fun k_ hk => ⟨trivial, fun e_ => (hk.2) (by rw [e_]; rfl)⟩))).1 k_ hk_.symm); have hx12_0 := hcc12 0 _ rfl; (try simp only [show ((Kd.slice 3 (Kd.int .i64))).sz = 1 from rfl, Nat.mul_one, Nat.add_zero] at hx12_0); have hf12_0 := hfr12 0; (try simp only [show ((Kd.slice 3 (Kd.int .i64))).sz = 1 from rfl, Nat.mul_one, Nat.add_zero] at hf12_0); (try clear hM12); clear hcl12 hcc12 hfr12 hoki12 hH12; (try simp only [show ((Kd.slice 3 (Kd.int .i64))).sz = 1 from rfl, Nat.mul_one, Nat.add_zero] at HP12)) | ((with_reducible refine gate_store (t := 22) (p := 21) rfl ?_); refine store_event (t := 22) (p := 21) (v := ?vo_w13) (w1 := (w11.setCell ⟨go10, (x4_1 : Int).toNat, none⟩ ((Value.slice Av_ t105.length cv_)))) ?hg ?ho ?hn ?hr ?_; (case ho => rfl); (case hg => rfl); (case hn => rfl); (case hr => first | (go_simp; done) | (go_simp; rfl)); intro w13 hw; have hg : w11.grownBy w13 (some go10) := (by rw [hw]; exact HP12.2); have hp_ : Kd.S (Kd.slice 3 (Kd.int .i64)) 22 w13 w.heap.size (fun _ => True) (.slice (some ⟨go10, 0, none⟩) x3_1.length co10) y108 := (by rw [hw, Ny108.out]; exact HP12.1); clear HP12; have n0_ := Aside0.mk (hp_); have n1_ := Aside0.mk ((by rw [hw]; exact below_set (HB.out) GB10.out : Below w.heap.size w w13)); clear HO_3; clear HB; clear HO107; have HO_3 := n0_; have HB := n1_; clear n0_ n1_; clear hg hw hp_))
        go_roundg k1
        case measure => have := HK1.out; omega
        case rel => exact ⟨(y108), (wrap64 (x4_1 + 1)), (by first | rfl | (simp; done) | (simp [*]; done)), H', ⟨by have := HK1.out; omega⟩, ⟨by (with_reducible repeat (first | apply Kd.S_alloc | apply Kd.S_drewN | apply Kd.S_drew)); exact HO_3.out⟩, ⟨by repeat (first | (with_reducible first | exact HB.out | apply ba | apply bd | apply be) | exact HB.out)⟩⟩
       ·rw [if_neg c9] at H
        exact absurd H (by simp)
      ·rw [if_neg c7] at H
       exact absurd H (by simp)
     ·rw [if_neg c6] at H
      have c6b0 : decide (x4_1 < (l0.length : Int)) = false := decide_eq_false c6
      clear c6
      obtain rfl := Option.some.inj H
      go_wp2
      go_ret
      exact ⟨_, by first | rfl | (simp <;> rfl) | (simp [*] <;> rfl), by (with_reducible repeat (first | apply Kd.S_alloc | apply Kd.S_drewN | apply Kd.S_drew)); exact HO_3.out, by repeat (first | (with_reducible first | exact HB.out | apply ba | apply bd | apply be) | exact HB.out)⟩
  ·rw [if_neg c3] at H
   exact absurd H (by simp)
 ·rw [if_neg c2] at H
  exact absurd H (by simp)

end Go.Proofs.Yticnoiflccbhcaa.Q

namespace Go.Proofs.Yticnoiflccbhcaa.Q
open Go.RowKit Go.Proofs.YticnoiflccbhcaaX Go.Proofs.YticnoiflccbhcaaW.PrintWords Go.Proofs.YticnoiflccbhcaaW.PrintLast Go.Proofs.YticnoiflccbhcaaW.PrintMore
attribute [local go_sem] max2_int min2_int max_two min_two max_three min_three max_four min_four   -- for this text's walks alone
set_option linter.unusedVariables false
set_option linter.unusedSimpArgs false

/-! ### laws_toGame: function 24 -/
def laws_toGame.f (k : Nat) (a0_0 : Int) (l0_1 : List (List Int)) : Option (Int × (List (List Int))) := (laws_toIntSS.f k l0_1).bind fun t104 => (some (a0_0, t104))
theorem laws_toGame.mono : ∀ a0 a1 k, LeO (laws_toGame.f k a0 a1) (laws_toGame.f (k + 1) a0 a1) := by
 intro a0 a1 k
 unfold laws_toGame.f
 repeat' first
   | (with_reducible exact laws_toIntSS.mono _ _)
   | (with_reducible exact LeO.refl _)
   | (with_reducible exact LeO.none _)
   | (with_reducible refine LeO.ite ?_ ?_)
   | (with_reducible refine LeO.bind ?_ (fun _ => ?_))
   | exact laws_toIntSS.mono _ _
   | exact LeO.none _
   | refine LeO.ite ?_ ?_
   | refine LeO.bind ?_ (fun _ => ?_)
set_option maxHeartbeats 8000000 in
set_option maxRecDepth 100000 in
theorem laws_toGame.calls (k : Nat) (a0_0 : Int) (A0_1 : Option Addr) (c0_1 : Nat) (l0_1 : List (List Int)) (r1 : Int) (r2 : List (List Int)) (w : World) (hr0_1 : Kd.C (Kd.slice 3 (Kd.int .i64)) w A0_1 l0_1.length l0_1) (hc0_1 : l0_1.length ≤ c0_1) (h : laws_toGame.f k a0_0 l0_1 = some (r1, r2)) :
  Calls Try.prog 24 #[.agg #[.int .i64 a0_0, .slice A0_1 l0_1.length c0_1]] w fun e w' => ∃ v1_ : Value, e = .returned (.agg #[.int .i64 r1, v1_]) ∧ Kd.S (Kd.slice 3 (Kd.int .i64)) 22 w' w.heap.size (fun _ => True) v1_ r2 ∧ Below w.heap.size w w' := by
 have hu35 := Try.underlying35
 have hu39 := Try.underlying39
 have HR0_1 := Aside0.mk hr0_1
 have HC0_1 := Aside0.mk hc0_1
 clear hr0_1 hc0_1
 have HB := Aside0.mk (Below.refl w.heap.size w)
 have H : ((laws_toIntSS.f k l0_1).bind fun t104 => (some (a0_0, t104))) = some (r1, r2) := h
 clear h
 replace H := oB H
 obtain ⟨t104, A20, H⟩ := H
 replace H : (some (a0_0, t104)) = some (r1, r2) := H
 have A2 := Aside0.mk A20
 clear A20
 simp only [Option.some.injEq, Prod.mk.injEq] at H
 obtain ⟨rfl, rfl⟩ := H
 go_enter Try.func24, Try.ntmps24
 go_wp2_with (first | ((with_reducible refine gate_dst (N := 1) rfl ?_); refine box_event ?hg (N := 1) ?hd (cs := #[.int .i64 a0_0, .slice A0_1 l0_1.length c0_1]) (t := 35) ?hr ?_; (case hd => rfl); (case hg => rfl); (case hr => first | (go_simp; done) | (go_simp; rfl)); intro gb101 hg w3 hbox hb; have n0_ := Aside0.mk (below_step (by repeat (first | (with_reducible first | exact HB.out | apply ba | apply bd | apply be) | exact HB.out)) hb); have n1_ := Aside0.mk (hbox); have n2_ := Aside0.mk ((by rw [hg]; exact (below_size (by repeat (first | (with_reducible first | exact HB.out | apply ba | apply bd | apply be) | exact HB.out))) : w.heap.size ≤ gb101)); have n3_ := Aside0.mk ((by rw [hg]; exact (below_size (by repeat (first | (with_reducible first | exact HB.out | apply ba | apply bd | apply be) | exact HB.out))) : w.heap.size ≤ gb101)); clear HB; have HB := n0_; have BK101 := n1_; have GW101 := n2_; have GE101 := n3_; clear n0_ n1_ n2_ n3_; clear hb hbox hg) | ((with_reducible refine gate_dst (N := 2) rfl ?_); refine box_event ?hg (N := 2) ?hd (cs := #[.int .i64 0, .slice none 0 0]) (t := 39) ?hr ?_; (case hd => rfl); (case hg => rfl); (case hr => first | (go_simp; done) | (go_simp; rfl)); intro gb102 hg w4 hbox hb; have n0_ := Aside0.mk (blk_below (g := gb101) (o := .cells #[.int .i64 a0_0, .slice A0_1 l0_1.length c0_1] 35 (0, 0)) (by (with_reducible repeat (first | refine kN ?_ _ | refine kD ?_ | refine kA ?_ _)); exact BK101.out) hb); have n1_ := Aside0.mk (below_step (by repeat (first | (with_reducible first | exact HB.out | apply ba | apply bd | apply be | refine bs ?_ GE101.out) | exact HB.out)) hb); have n2_ := Aside0.mk (hbox); have n3_ := Aside0.mk ((by rw [hg]; exact (below_size (by repeat (first | (with_reducible first | exact HB.out | apply ba | apply bd | apply be | refine bs ?_ GE101.out) | exact HB.out))) : w.heap.size ≤ gb102)); have n4_ := Aside0.mk ((by rw [hg]; exact (below_size (by repeat (first | (with_reducible first | exact HB.out | apply ba | apply bd | apply be | refine bs ?_ GE101.out) | exact HB.out))) : w.heap.size ≤ gb102)); have n5_ := Aside0.mk ((by rw [hg]; exact Nat.ne_of_lt (blk_lt (g := gb101) (o := .cells #[.int .i64 a0_0, .slice A0_1 l0_1.length c0_1] 35 (0, 0)) (by (with_reducible repeat (first | refine kN ?_ _ | refine kD ?_ | refine kA ?_ _)); exact BK101.out)) : gb101 ≠ gb102)); have n6_ := Aside0.mk ((by rw [hg]; exact Nat.ne_of_gt (blk_lt (g := gb101) (o := .cells #[.int .i64 a0_0, .slice A0_1 l0_1.length c0_1] 35 (0, 0)) (by (with_reducible repeat (first | refine kN ?_ _ | refine kD ?_ | refine kA ?_ _)); exact BK101.out)) : gb102 ≠ gb101)); clear BK101; clear HB; have BK101 := n0_; have HB := n1_; have BK102 := n2_; have GW102 := n3_; have GE102 := n4_; have NB101_102 := n5_; have NB102_101 := n6_; clear n0_ n1_ n2_ n3_ n4_ n5_ n6_; clear hb hbox hg) | ((with_reducible refine gate_dst (N := 3) rfl ?_); refine box_event ?hg (N := 3) ?hd (cs := #[.int .i64 0, .slice none 0 0]) (t := 39) ?hr ?_; (case hd => rfl); (case hg => rfl); (case hr => first | (go_simp; done) | (go_simp; rfl)); intro gb103 hg w5 hbox hb; have n0_ := Aside0.mk (blk_below (g := gb101) (o := .cells #[.int .i64 a0_0, .slice A0_1 l0_1.length c0_1] 35 (0, 0)) (by (with_reducible repeat (first | refine kN ?_ _ | refine kD ?_ | refine kA ?_ _)); exact BK101.out) hb); have n1_ := Aside0.mk (blk_below (g := gb102) (o := .cells #[.int .i64 0, .slice none 0 0] 39 (0, 0)) (by (with_reducible repeat (first | refine kN ?_ _ | refine kD ?_ | refine kA ?_ _)); exact BK102.out) hb); have n2_ := Aside0.mk (below_step (by repeat (first | (with_reducible first | exact HB.out | apply ba | apply bd | apply be | refine bs ?_ GE101.out | refine bs ?_ GE102.out) | exact HB.out)) hb); have n3_ := Aside0.mk (hbox); have n4_ := Aside0.mk ((by rw [hg]; exact (below_size (by repeat (first | (with_reducible first | exact HB.out | apply ba | apply bd | apply be | refine bs ?_ GE101.out | refine bs ?_ GE102.out) | exact HB.out))) : w.heap.size ≤ gb103)); have n5_ := Aside0.mk ((by rw [hg]; exact (below_size (by repeat (first | (with_reducible first | exact HB.out | apply ba | apply bd | apply be | refine bs ?_ GE101.out | refine bs ?_ GE102.out) | exact HB.out))) : w.heap.size ≤ gb103)); have n6_ := Aside0.mk ((by rw [hg]; exact Nat.ne_of_lt (blk_lt (g := gb101) (o := .cells #[.int .i64 a0_0, .slice A0_1 l0_1.length c0_1] 35 (0, 0)) (by (with_reducible repeat (first | refine kN ?_ _ | refine kD ?_ | refine kA ?_ _)); exact BK101.out)) : gb101 ≠ gb103)); have n7_ := Aside0.mk ((by rw [hg]; exact Nat.ne_of_gt (blk_lt (g := gb101) (o := .cells #[.int .i64 a0_0, .slice A0_1 l0_1.length c0_1] 35 (0, 0)) (by (with_reducible repeat (first | refine kN ?_ _ | refine kD ?_ | refine kA ?_ _)); exact BK101.out)) : gb103 ≠ gb101)); have n8_ := Aside0.mk ((by rw [hg]; exact Nat.ne_of_lt (blk_lt (g := gb102) (o := .cells #[.int .i64 0, .slice none 0 0] 39 (0, 0)) (by (with_reducible repeat (first | refine kN ?_ _ | refine kD ?_ | refine kA ?_ _)); exact BK102.out)) : gb102 ≠ gb103)); have n9_ := Aside0.mk ((by rw [hg]; exact Nat.ne_of_gt (blk_lt (g := gb102) (o := .cells #[.int .i64 0, .slice none 0 0] 39 (0, 0)) (by (with_reducible repeat (first | refine kN ?_ _ | refine kD ?_ | refine kA ?_ _)); exact BK102.out)) : gb103 ≠ gb102)); clear BK101; clear BK102; clear HB; have BK101 := n0_; have BK102 := n1_; have HB := n2_; have BK103 := n3_; have GW103 := n4_; have GE103 := n5_; have NB101_103 := n6_; have NB103_101 := n7_; have NB102_103 := n8_; have NB103_102 := n9_; clear n0_ n1_ n2_ n3_ n4_ n5_ n6_ n7_ n8_ n9_; clear hb hbox hg; have hnb6 := NB101_102.out; have hnc6 := NB102_101.out; have hnb7 := NB101_103.out; have hnc7 := NB103_101.out; have hcz8_0 : w5.cell? ⟨gb101, 0, none⟩ = some (.int .i64 a0_0) := (blk_cell BK101.out 0).trans rfl; have hcz8_1 : w5.cell? ⟨gb101, 1, none⟩ = some (.slice A0_1 l0_1.length c0_1) := (blk_cell BK101.out 1).trans rfl; have hfz8_0 := blk_frozen BK101.out 0; have hfz8_1 := blk_frozen BK101.out 1; have hnb9 := NB103_102.out; have hnc9 := NB102_103.out; have hcz10_0 : w5.cell? ⟨gb103, 0, none⟩ = some (.int .i64 0) := (blk_cell BK103.out 0).trans rfl; have hcz10_1 : w5.cell? ⟨gb103, 1, none⟩ = some (.slice none 0 0) := (blk_cell BK103.out 1).trans rfl; have hfz10_0 := blk_frozen BK103.out 0; have hfz10_1 := blk_frozen BK103.out 1) | ((with_reducible refine gate_callee (f := 68) rfl ?_); refine goesL_ (some 9) rfl rfl Try.func68 (by kernel_rfl) rfl #[.slice A0_1 l0_1.length c0_1] rfl (by (try simp only [mA, mC, mN]); first | done | rfl | (simp only [List.length_drop, List.length_take]; rfl)) ?_; (with_reducible refine (laws_toIntSS.calls k _ _ l0_1 t104 _ ?side1 ?side2 A2.out).mono ?_); (case side1 => exact Kd.C_below HR0_1.out (by repeat (first | (with_reducible first | exact HB.out | apply ba | apply bd | apply be | refine bs ?_ GE101.out | refine bs ?_ GE102.out | refine bs ?_ GE103.out) | exact HB.out))); (case side2 => exact HC0_1.out); rintro e w11 ⟨v105, rfl, ho0, hb⟩; refine ⟨_, rfl, ?_⟩; have n0_ := Aside0.mk (Kd.S_lower ho0 (below_size (by repeat (first | (with_reducible first | exact HB.out | apply ba | apply bd | apply be | refine bs ?_ GE101.out | refine bs ?_ GE102.out | refine bs ?_ GE103.out) | exact HB.out)))); have n1_ := Aside0.mk (blk_below (g := gb101) (o := .cells #[.int .i64 a0_0, .slice A0_1 l0_1.length c0_1] 35 (0, 0)) (by (with_reducible repeat (first | refine kN ?_ _ | refine kD ?_ | refine kA ?_ _)); refine blk_far ?_ NB101_103.out _; (with_reducible repeat (first | refine kN ?_ _ | refine kD ?_ | refine kA ?_ _)); exact BK101.out) hb); have n2_ := Aside0.mk (blk_below (g := gb102) (o := .cells #[.int .i64 0, .slice none 0 0] 39 (0, 0)) (by (with_reducible repeat (first | refine kN ?_ _ | refine kD ?_ | refine kA ?_ _)); refine blk_far ?_ NB102_103.out _; (with_reducible repeat (first | refine kN ?_ _ | refine kD ?_ | refine kA ?_ _)); exact BK102.out) hb); have n3_ := Aside0.mk (blk_below (g := gb103) (o := .cells #[.int .i64 a0_0, .slice none 0 0] 39 (0, 0)) (by (with_reducible repeat (first | refine kN ?_ _ | refine kD ?_ | refine kA ?_ _)); refine blk_put (cs := #[.int .i64 0, .slice none 0 0]) ?_ 0 _ rfl; (with_reducible repeat (first | refine kN ?_ _ | refine kD ?_ | refine kA ?_ _)); exact BK103.out) hb); have n4_ := Aside0.mk (below_step (by repeat (first | (with_reducible first | exact HB.out | apply ba | apply bd | apply be | refine bs ?_ GE101.out | refine bs ?_ GE102.out | refine bs ?_ GE103.out) | exact HB.out)) hb); clear BK101; clear BK102; clear BK103; clear HB; have HO106 := n0_; have BK101 := n1_; have BK102 := n2_; have BK103 := n3_; have HB := n4_; clear n0_ n1_ n2_ n3_ n4_; (try clear hb); (try clear hb2); (try clear hk); (try clear hi); (try clear ho0); obtain ⟨Ao12, co12, eo12⟩ := Kd.S_slice HO106.out; subst eo12; have hcz13_0 : w11.cell? ⟨gb103, 0, none⟩ = some (.int .i64 a0_0) := (blk_cell BK103.out 0).trans rfl; have hcz13_1 : w11.cell? ⟨gb103, 1, none⟩ = some (.slice none 0 0) := (blk_cell BK103.out 1).trans rfl; have hfz13_0 := blk_frozen BK103.out 0; have hfz13_1 := blk_frozen BK103.out 1; have hcz14_0 : w11.cell? ⟨gb102, 0, none⟩ = some (.int .i64 0) := (blk_cell BK102.out 0).trans rfl; have hcz14_1 : w11.cell? ⟨gb102, 1, none⟩ = some (.slice none 0 0) := (blk_cell BK102.out 1).trans rfl; have hfz14_0 := blk_frozen BK102.out 0; have hfz14_1 := blk_frozen BK102.out 1))
 refine bodyPost_ret (results_cell_row rfl _ _ gb102 39 #[.int .i64 a0_0, .slice Ao12 t104.length co12] (0, 0) _ rfl (by (with_reducible repeat (first | refine kN ?_ _ | refine kD ?_ | refine kA ?_ _)); refine blk_put (cs := #[.int .i64 a0_0, .slice none 0 0]) ?_ 1 _ rfl; (with_reducible repeat (first | refine kN ?_ _ | refine kD ?_ | refine kA ?_ _)); refine blk_put (cs := #[.int .i64 0, .slice none 0 0]) ?_ 0 _ rfl; (with_reducible repeat (first | refine kN ?_ _ | refine kD ?_ | refine kA ?_ _)); refine blk_far ?_ NB102_103.out _; (with_reducible repeat (first | refine kN ?_ _ | refine kD ?_ | refine kA ?_ _)); exact BK102.out) Try.underlying39 rfl (by kernel_rfl)) rfl ?_
 exact ⟨_, by first | rfl | (simp <;> rfl) | (simp [*] <;> rfl), by (with_reducible repeat (first | apply Kd.S_alloc | apply Kd.S_drewN | apply Kd.S_drew)); exact Kd.S_mono (Kd.S_far (p := ⟨gb102, 1, none⟩) (Kd.S_far (p := ⟨gb102, 0, none⟩) (Kd.S_far (p := ⟨gb103, 1, none⟩) (Kd.S_types (Kd.S_types HO106.out BK103.out (by decide)) BK102.out (by decide)) (fun _ hk => hk.1.2) (.slice Ao12 t104.length co12)) (fun _ hk => hk.2) (.int .i64 a0_0)) (fun _ hk => hk.2) (.slice Ao12 t104.length co12)) (fun _ hk => trivial), by repeat (first | (with_reducible first | exact HB.out | apply ba | apply bd | apply be | refine bs ?_ GE101.out | refine bs ?_ GE102.out | refine bs ?_ GE103.out) | exact HB.out)⟩

end Go.Proofs.Yticnoiflccbhcaa.Q

namespace Go.Proofs.Yticnoiflccbhcaa.Q
open Go.RowKit Go.Proofs.YticnoiflccbhcaaW.PrintWords Go.Proofs.YticnoiflccbhcaaW.PrintLast Go.Proofs.YticnoiflccbhcaaW.PrintMore Go.Proofs.YticnoiflccbhcaaM
set_option linter.unusedVariables false
set_option linter.unusedSimpArgs false
theorem laws_toIntSS.ev_l (l : List (List Int)) (hl : l.length ≤ 11728124029610) (hx : ∀ x ∈ l, x.length ≤ 35184372088832) : ∀ (d i : Nat) (acc : List (List Int)), i + d = l.length → acc.length = l.length → acc.take i = l.take i → Ev (fun k => laws_toIntSS.l0 k l acc (i : Int)) l := by
  intro d
  induction d with
  | zero =>
    intro i acc h ha ht
    refine ev_step ?_
    simp only [laws_toIntSS.l0]
    rw [List.take_of_length_le (by omega), List.take_of_length_le (by omega)] at ht
    rw [ev_neg (by omega), ev_now, ht]
  | succ d ih =>
    intro i acc h ha ht
    refine ev_step ?_
    simp only [laws_toIntSS.l0]
    have hi : i < l.length := by omega
    rw [ev_pos (by omega), ev_pos (by omega), rd_L2_lt l i hi, ev_bind (laws_toIntS.ev l[i] (hx _ (List.getElem_mem hi))), ev_pos (by omega), w64i (n := l.length) (by omega) (by omega) (by omega), Int.toNat_natCast]
    refine ih (i + 1) _ (by omega) (by simpa using ha) ?_
    rw [List.take_succ_eq_append_getElem (by rw [List.length_set]; omega), List.take_succ_eq_append_getElem hi, List.take_set_of_le (by omega), ht, List.getElem_set_self]
theorem laws_toIntSS.ev (l : List (List Int)) (hl : l.length ≤ 11728124029610) (hx : ∀ x ∈ l, x.length ≤ 35184372088832) : Ev (fun k => laws_toIntSS.f k l) l := by
  simp only [laws_toIntSS.f]
  rw [ev_pos (by omega), ev_pos (by omega), Int.toNat_natCast]
  exact laws_toIntSS.ev_l l hl hx l.length 0 _ (by omega) (by simp) (by simp)
theorem laws_eqIntSS.ev_l (a b : List (List Int)) (hl : a.length ≤ 9223372036854775807) (hab : a.length = b.length) (hx : ∀ x ∈ a, x.length ≤ 9223372036854775807) : ∀ (d i : Nat), i + d = a.length → Ev (fun k => laws_eqIntSS.l0 k a b (i : Int)) (decide (a.drop i = b.drop i)) := by
  intro d
  induction d with
  | zero =>
    intro i h
    refine ev_step ?_
    simp only [laws_eqIntSS.l0]
    rw [ev_neg (by omega), ev_now, List.drop_of_length_le (by omega), List.drop_of_length_le (by omega)]
    rfl
  | succ d ih =>
    intro i h
    refine ev_step ?_
    simp only [laws_eqIntSS.l0]
    have hi : i < a.length := by omega
    have hib : i < b.length := by omega
    have e : decide (a.drop i = b.drop i) = (decide (a[i] = b[i]) && decide (a.drop (i + 1) = b.drop (i + 1))) := by
      rw [List.drop_eq_getElem_cons hi, List.drop_eq_getElem_cons hib, Bool.eq_iff_iff]
      simp only [Bool.and_eq_true, decide_eq_true_eq, List.cons.injEq]
    rw [ev_pos (by omega), ev_pos (by omega), ev_pos (by omega), rd_L2_lt a i hi, rd_L2_lt b i hib, ev_bind (laws_eqIntS.ev a[i] b[i] (hx _ (List.getElem_mem hi))), w64i (n := a.length) (by omega) (by omega) hl, e]
    by_cases c : a[i] = b[i]
    · rw [ev_pos (decide_eq_true c), decide_eq_true c, Bool.true_and]
      exact ih (i + 1) (by omega)
    · rw [ev_neg (by simp [c]), ev_now, decide_eq_false c]
      rfl
theorem laws_eqIntSS.ev (a b : List (List Int)) (hl : a.length ≤ 9223372036854775807) (hx : ∀ x ∈ a, x.length ≤ 9223372036854775807) : Ev (fun k => laws_eqIntSS.f k a b) (decide (a = b)) := by
  simp only [laws_eqIntSS.f]
  by_cases c : (a.length : Int) = (b.length : Int)
  · rw [ev_pos c]
    exact laws_eqIntSS.ev_l a b hl (by omega) hx a.length 0 (by omega)
  · rw [ev_neg c, ev_now, decide_eq_false (fun h => c (by rw [h]))]
theorem laws_szIntSS.ev_l (l : List (List Int)) (hl : l.length ≤ 9223372036854775807) (hx : ∀ x ∈ l, x.length ≤ 9223372036854775807) : ∀ (d i : Nat) (c : Int), i + d = l.length → 0 ≤ c → c ≤ 1048576 → ∃ r : Int, r ≤ 1048576 ∧ Ev (fun k => laws_szIntSS.l0 k l c (i : Int)) r ∧ (0 ≤ r → ∀ j (h : j < l.length), i ≤ j → l[j].length ≤ 1048576) := by
  intro d
  induction d with
  | zero =>
    intro i c h h0 h1
    refine ⟨c, h1, ev_step ?_, fun _ j hj hij => by omega⟩
    simp only [laws_szIntSS.l0]
    rw [ev_neg (by omega), ev_now]
  | succ d ih =>
    intro i c h h0 h1
    have hi : i < l.length := by omega
    have hxi := hx _ (List.getElem_mem hi)
    by_cases hc : c - (l[i].length : Int) < 0
    · refine ⟨-1, by omega, ev_step ?_, fun h => by omega⟩
      simp only [laws_szIntSS.l0]
      rw [ev_pos (by omega), ev_pos (by omega), rd_L2_lt l i hi, ev_bind (ev_of (laws_szIntS.v l[i] c (by omega) (by omega))), if_pos hc, ev_pos (by omega), ev_now]
    · obtain ⟨r, hr1, hr2, hr3⟩ := ih (i + 1) (c - (l[i].length : Int)) (by omega) (by omega) (by omega)
      refine ⟨r, hr1, ev_step ?_, fun h0 j hj hij => ?_⟩
      · simp only [laws_szIntSS.l0]
        rw [ev_pos (by omega), ev_pos (by omega), rd_L2_lt l i hi, ev_bind (ev_of (laws_szIntS.v l[i] c (by omega) (by omega))), if_neg hc, ev_neg hc, w64i (n := l.length) (by omega) (by omega) hl]
        exact hr2
      · by_cases e : j = i
        · subst e
          omega
        · exact hr3 h0 j hj (by omega)
/-- What szIntSS answers of rows that came in: too much, or all rows are short. -/
theorem laws_szIntSS.ev (l : List (List Int)) (c : Int) (hl : l.length ≤ 9223372036854775807) (hx : ∀ x ∈ l, x.length ≤ 9223372036854775807) (h0 : 0 ≤ c) (h1 : c ≤ 1048576) : ∃ r : Int, r ≤ 1048576 ∧ Ev (fun k => laws_szIntSS.f k l c) r ∧ (0 ≤ r → l.length ≤ 1048576 ∧ ∀ x ∈ l, x.length ≤ 1048576) := by
  simp only [laws_szIntSS.f]
  rw [w64 (by omega) (by omega)]
  by_cases hc : c - (l.length : Int) < 0
  · exact ⟨-1, by omega, by rw [ev_pos hc, ev_now], fun h => by omega⟩
  · obtain ⟨r, hr1, hr2, hr3⟩ := laws_szIntSS.ev_l l hl hx l.length 0 (c - (l.length : Int)) (by omega) (by omega) (by omega)
    refine ⟨r, hr1, by rw [ev_neg hc]; exact hr2, fun h => ⟨by omega, fun x hx' => ?_⟩⟩
    obtain ⟨j, hj, rfl⟩ := List.getElem_of_mem hx'
    exact hr3 h j hj (by omega)
theorem laws_szGame.ev (n : Int) (l : List (List Int)) (c : Int) (hl : l.length ≤ 9223372036854775807) (hx : ∀ x ∈ l, x.length ≤ 9223372036854775807) (h0 : 0 ≤ c) (h1 : c ≤ 1048576) : ∃ r : Int, r ≤ 1048576 ∧ Ev (fun k => laws_szGame.f k n l c) r ∧ (0 ≤ r → l.length ≤ 1048576 ∧ ∀ x ∈ l, x.length ≤ 1048576) := by
  obtain ⟨r, hr1, hr2, hr3⟩ := laws_szIntSS.ev l c hl hx h0 h1
  simp only [laws_szGame.f]
  by_cases hc : r < 0
  · exact ⟨-1, by omega, by rw [ev_bind hr2, ev_pos hc, ev_now], fun h => by omega⟩
  · exact ⟨r, hr1, by rw [ev_bind hr2, ev_neg hc, ev_now], hr3⟩
theorem laws_toGame.ev (n : Int) (l : List (List Int)) (hl : l.length ≤ 11728124029610) (hx : ∀ x ∈ l, x.length ≤ 35184372088832) : Ev (fun k => laws_toGame.f k n l) (n, l) := by
  simp only [laws_toGame.f]
  rw [ev_bind (laws_toIntSS.ev l hl hx), ev_now]
theorem laws_eqGame.ev_same (n : Int) (l : List (List Int)) (hl : l.length ≤ 9223372036854775807) (hx : ∀ x ∈ l, x.length ≤ 9223372036854775807) : Ev (fun k => laws_eqGame.f k n l n l) true := by
  simp only [laws_eqGame.f]
  rw [ev_pos trivial, ev_bind (laws_eqIntSS.ev l l hl hx), ev_pos (by simp), ev_now]
end Go.Proofs.Yticnoiflccbhcaa.Q

namespace Go.Proofs.Yticnoiflccbhcaa.Q
open Go.RowKit Go.Proofs.YticnoiflccbhcaaW.PrintWords Go.Proofs.YticnoiflccbhcaaW.PrintLast Go.Proofs.YticnoiflccbhcaaW.PrintMore Go.Proofs.YticnoiflccbhcaaM
set_option linter.unusedVariables false
set_option linter.unusedSimpArgs false
def marksSS : Int → List (List Int) → List (List Int)
  | _, [] => []
  | c, s :: L => marks c s.length :: marksSS (c + (s.length : Int)) L
def totSS : List (List Int) → Int
  | [] => 0
  | s :: L => (s.length : Int) + totSS L
theorem marksSS_len : ∀ (L : List (List Int)) (c : Int), (marksSS c L).length = L.length
  | [], _ => rfl
  | s :: L, c => by
    show (marksSS _ L).length + 1 = L.length + 1
    rw [marksSS_len L]
theorem totSS_nonneg : ∀ L : List (List Int), 0 ≤ totSS L
  | [] => Int.le_refl _
  | s :: L => by
    have := totSS_nonneg L
    show 0 ≤ (s.length : Int) + totSS L
    omega
theorem totSS_le : ∀ (L : List (List Int)) (n : Nat), (∀ s ∈ L, s.length ≤ n) → totSS L ≤ (n : Int) * (L.length : Int)
  | [], n, _ => by simp [totSS]
  | s :: L, n, h => by
    have h1 := h s List.mem_cons_self
    have h2 := totSS_le L n (fun t ht => h t (List.mem_cons_of_mem _ ht))
    show (s.length : Int) + totSS L ≤ (n : Int) * ((L.length + 1 : Nat) : Int)
    rw [Int.natCast_add, Int.mul_add]
    simp only [Int.natCast_one, Int.mul_one]
    omega
theorem laws_markIntSS.ev_l : ∀ (L done : List (List Int)) (c : Int), (done ++ L).length ≤ 9223372036854775807 → 0 ≤ c → c + totSS L ≤ 9223372036854775807 → Ev (fun k => laws_markIntSS.l0 k (done ++ L) c (done.length : Int)) (c + totSS L, done ++ marksSS c L)
  | [], done, c, hl, h0, hc => by
    refine ev_step ?_
    simp only [laws_markIntSS.l0]
    rw [ev_neg (by simp), ev_now]
    simp [totSS, marksSS]
  | s :: L, done, c, hl, h0, hc => by
    refine ev_step ?_
    simp only [laws_markIntSS.l0]
    have ht := totSS_nonneg L
    have hc' : c + ((s.length : Int) + totSS L) ≤ 9223372036854775807 := hc
    have hll : (done ++ s :: L).length = done.length + (L.length + 1) := by simp
    have hget : rdOf [] (done ++ s :: L) (done.length : Int) = s := by simp [rdOf]
    have hset : (done ++ s :: L).set ((done.length : Int)).toNat (marks c s.length) = (done ++ [marks c s.length]) ++ L := by simp
    rw [ev_pos (by rw [hll]; omega), ev_pos (by omega), hget, ev_bind (laws_markIntS.ev s c h0 (by omega)), hset, w64 (by omega) (by omega)]
    have := laws_markIntSS.ev_l L (done ++ [marks c s.length]) (c + (s.length : Int)) (by simp at hl ⊢; omega) (by omega) (by omega)
    rw [List.length_append, List.length_singleton] at this
    show Ev _ (c + ((s.length : Int) + totSS L), done ++ (marks c s.length :: marksSS (c + (s.length : Int)) L))
    rw [← Int.add_assoc, show done ++ (marks c s.length :: marksSS (c + (s.length : Int)) L) = (done ++ [marks c s.length]) ++ marksSS (c + (s.length : Int)) L by simp]
    exact this
theorem laws_markIntSS.ev (L : List (List Int)) (c : Int) (hl : L.length ≤ 9223372036854775807) (h0 : 0 ≤ c) (hc : c + totSS L ≤ 9223372036854775807) : Ev (fun k => laws_markIntSS.f k L c) (c + totSS L, marksSS c L) := laws_markIntSS.ev_l L [] c (by simpa using hl) h0 hc
theorem laws_heldIntSS.ev_l (M : List (List Int)) (hM : M.length ≤ 9223372036854775807) : ∀ (L : List (List Int)) (i : Nat) (c : Int), M.drop i = marksSS c L → 0 ≤ c → c + totSS L ≤ 9223372036854775807 → Ev (fun k => laws_heldIntSS.l0 k M c (i : Int)) (c + totSS L)
  | [], i, c, h, h0, hc => by
    refine ev_step ?_
    simp only [laws_heldIntSS.l0]
    have : M.length ≤ i := by
      have h1 : (M.drop i).length = 0 := by rw [h]; rfl
      rw [List.length_drop] at h1
      omega
    rw [ev_neg (by omega), ev_now]
    simp [totSS]
  | s :: L, i, c, h, h0, hc => by
    refine ev_step ?_
    simp only [laws_heldIntSS.l0]
    have ht := totSS_nonneg L
    have hc' : c + ((s.length : Int) + totSS L) ≤ 9223372036854775807 := hc
    have hi : i < M.length := by
      rcases Nat.lt_or_ge i M.length with h1 | h1
      · exact h1
      · rw [List.drop_of_length_le h1] at h
        cases h
    rw [List.drop_eq_getElem_cons hi] at h
    have h1 : M[i] = marks c s.length := (List.cons.inj h).1
    have h2 : M.drop (i + 1) = marksSS (c + (s.length : Int)) L := (List.cons.inj h).2
    rw [ev_pos (by omega), ev_pos (by omega), rd_L2_lt M i hi, h1, ev_bind (laws_heldIntS.ev s.length c h0 (by omega)), ev_neg (by omega), w64i (n := M.length) (by omega) (by omega) hM]
    have := laws_heldIntSS.ev_l M hM L (i + 1) (c + (s.length : Int)) h2 (by omega) (by omega)
    show Ev _ (c + ((s.length : Int) + totSS L))
    rw [← Int.add_assoc]
    exact this
theorem laws_heldIntSS.ev (L : List (List Int)) (c : Int) (hl : L.length ≤ 9223372036854775807) (h0 : 0 ≤ c) (hc : c + totSS L ≤ 9223372036854775807) : Ev (fun k => laws_heldIntSS.f k (marksSS c L) c) (c + totSS L) := laws_heldIntSS.ev_l (marksSS c L) (by rw [marksSS_len]; exact hl) L 0 c (by simp) h0 hc
end Go.Proofs.Yticnoiflccbhcaa.Q

namespace Go.Proofs.Yticnoiflccbhcaa.Q
open Go.RowKit Go.Proofs.YticnoiflccbhcaaW.PrintWords Go.Proofs.YticnoiflccbhcaaW.PrintLast Go.Proofs.YticnoiflccbhcaaW.PrintMore Go.Proofs.YticnoiflccbhcaaM
set_option linter.unusedVariables false
set_option linter.unusedSimpArgs false
theorem impl_votesOf.at_l (n N : Nat) (hN : N ≤ 1000000) (P : Int → Option Bool) (p : Nat → Bool) (hP : ∀ m, m < N → P (m : Int) = some (p m)) : ∀ (d m k : Nat) (acc : List Bool), m + d = N → d < k → acc.length = N → acc.take m = ((List.range N).map p).take m → impl_votesOf.l0 k P (N : Int) (m : Int) (n : Int) acc = some ((n : Int), (List.range N).map p) := by
  intro d
  induction d with
  | zero =>
    intro m k acc h hk hlen ht
    obtain ⟨k, rfl⟩ : ∃ j, k = j + 1 := ⟨k - 1, by omega⟩
    simp only [impl_votesOf.l0]
    rw [List.take_of_length_le (by omega), List.take_of_length_le (by simp; omega)] at ht
    rw [if_neg (by omega), ht]
  | succ d ih =>
    intro m k acc h hk hlen ht
    obtain ⟨k, rfl⟩ : ∃ j, k = j + 1 := ⟨k - 1, by omega⟩
    have hm : m < N := by omega
    simp only [impl_votesOf.l0]
    rw [if_pos (by omega), hP m hm, Option.bind_some, if_pos (by omega), if_pos (by omega), w64i (n := N) (by omega) (by omega) (by omega), Int.toNat_natCast]
    refine ih (m + 1) k (acc.set m (p m)) (by omega) (by omega) (by simpa using hlen) ?_
    rw [List.take_succ_eq_append_getElem (by simp; omega), List.take_succ_eq_append_getElem (by simp; omega), List.take_set_of_le (by omega), ht]
    simp
theorem impl_votesOf.ev (n : Nat) (hn : n ≤ 19) (g : Nat → Int → Option Bool) (p : Nat → Bool) (hg : ∀ m : Nat, m < 2 ^ n → Ev (fun k => g k (m : Int)) (p m)) : Ev (fun k => impl_votesOf.f k (n : Int) (g k)) ((n : Int), (List.range (2 ^ n)).map p) := by
  have hp : 2 ^ n ≤ 2 ^ 19 := Nat.pow_le_pow_right (by omega) hn
  have h0 : 0 < 2 ^ n := Nat.two_pow_pos n
  generalize hN : 2 ^ n = N at *
  obtain ⟨K, hK⟩ := ev_all N (fun k m => g k (m : Int)) p hg
  refine ⟨max K (N + 1), fun k hk => ?_⟩
  simp only [impl_votesOf.f]
  rw [if_pos (by omega), shl_one n (by omega), hN, if_pos (by omega), Int.toNat_natCast, if_pos (by omega), Option.bind_some, List.length_replicate]
  exact impl_votesOf.at_l n N (by omega) (g k) p (fun m hm => hK k (by omega) m hm) N 0 k _ (by omega) (by omega) (by simp) (by simp)
end Go.Proofs.Yticnoiflccbhcaa.Q

namespace Go.Proofs.Yticnoiflccbhcaa.Q
open Go.RowKit Go.Proofs.YticnoiflccbhcaaW.PrintWords Go.Proofs.YticnoiflccbhcaaW.PrintLast Go.Proofs.YticnoiflccbhcaaW.PrintMore Go.Proofs.YticnoiflccbhcaaM
set_option linter.unusedVariables false
set_option linter.unusedSimpArgs false
theorem impl_has.v (m i : Nat) (hm : m < 2 ^ 62) (hi : i ≤ 62) : impl_has.f (m : Int) (i : Int) = some (decide (m / 2 ^ i % 2 = 1)) := by
  unfold impl_has.f
  have hlt : m / 2 ^ i < 2 ^ 62 := Nat.lt_of_le_of_lt (Nat.div_le_self _ _) hm
  rw [if_pos (by omega), shr_nat m i (by omega), and_one _ hlt]
  congr 1
  by_cases h : m / 2 ^ i % 2 = 1
  · simp [h]
  · have : m / 2 ^ i % 2 = 0 := by omega
    simp [this]
theorem impl_Committee_weight.ev_l (q : Int) (ws : List Int) (m : Nat) (hm : m < 2 ^ 62) (hl : ws.length ≤ 60) (hw : ∀ x ∈ ws, 0 ≤ x ∧ x ≤ 1000000000) : ∀ (d i : Nat) (s : Int), i + d = ws.length → 0 ≤ s → s + wsum (ws.drop i) (m / 2 ^ i) ≤ 1000000000000 → Ev (fun k => impl_Committee_weight.l0 k (m : Int) s ws (ws.length : Int) (i : Int)) (s + wsum (ws.drop i) (m / 2 ^ i)) := by
  intro d
  induction d with
  | zero =>
    intro i s h _ _
    refine ev_step ?_
    simp only [impl_Committee_weight.l0]
    rw [ev_neg (by omega), ev_now, List.drop_of_length_le (by omega)]
    simp [wsum]
  | succ d ih =>
    intro i s h h0 h1
    refine ev_step ?_
    simp only [impl_Committee_weight.l0]
    have hi : i < ws.length := by omega
    have hx := hw ws[i] (List.getElem_mem hi)
    have hd : wsum (ws.drop i) (m / 2 ^ i) = (if m / 2 ^ i % 2 = 1 then ws[i] else 0) + wsum (ws.drop (i + 1)) (m / 2 ^ (i + 1)) := by
      rw [wsum_drop ws i _ hi, Nat.div_div_eq_div_mul, ← Nat.pow_succ]
    have hb := wsum_bounds (ws.drop (i + 1)) (fun x hx => (hw x (List.mem_of_mem_drop hx)).1) (m / 2 ^ (i + 1))
    rw [ev_pos (by omega), ev_pos (by omega), ev_pos (by omega), ev_bind (ev_of (impl_has.v m i hm (by omega))), w64i (n := ws.length) (by omega) (by omega) (by omega), rd_lt ws i hi, hd]
    rw [hd] at h1
    by_cases hbit : m / 2 ^ i % 2 = 1
    · rw [if_pos hbit] at h1 ⊢
      rw [ev_pos (by simpa using hbit), w64 (by omega) (by omega), ← Int.add_assoc]
      exact ih (i + 1) (s + ws[i]) (by omega) (by omega) (by omega)
    · rw [if_neg hbit] at h1 ⊢
      rw [ev_neg (by simpa using hbit), Int.zero_add]
      exact ih (i + 1) s (by omega) h0 (by omega)
theorem impl_Committee_weight.ev (q : Int) (ws : List Int) (m : Nat) (hm : m < 2 ^ 62) (hl : ws.length ≤ 60) (hw : ∀ x ∈ ws, 0 ≤ x ∧ x ≤ 1000000000) : Ev (fun k => impl_Committee_weight.f k q ws (m : Int)) (wsum ws m) := by
  have hb := wsum_bounds ws (fun x hx => (hw x hx).1) m
  have hs := sum_bounds ws 1000000000 hw
  have := impl_Committee_weight.ev_l q ws m hm hl hw ws.length 0 0 (by omega) (by omega) (by simp; omega)
  simpa [impl_Committee_weight.f] using this
end Go.Proofs.Yticnoiflccbhcaa.Q

namespace Go.Proofs.Yticnoiflccbhcaa.Q
open Go.RowKit Go.Proofs.YticnoiflccbhcaaW.PrintWords Go.Proofs.YticnoiflccbhcaaW.PrintLast Go.Proofs.YticnoiflccbhcaaW.PrintMore Go.Proofs.YticnoiflccbhcaaM
set_option linter.unusedVariables false
set_option linter.unusedSimpArgs false
theorem impl_Committee_votes.ev (q : Int) (ws : List Int) (hl : ws.length ≤ 9) (hw : ∀ x ∈ ws, 0 ≤ x ∧ x ≤ 1000000000) : Ev (fun k => impl_Committee_votes.f k q ws) ((ws.length : Int), winsL q ws) := by
  have hp : 2 ^ ws.length ≤ 2 ^ 9 := Nat.pow_le_pow_right (by omega) hl
  refine impl_votesOf.ev ws.length (by omega) (fun k => impl_Committee_votes_1.f k q ws) (fun m => decide (q ≤ wsum ws m)) (fun m hm => ?_)
  simp only [impl_Committee_votes_1.f]
  rw [ev_bind (impl_Committee_weight.ev q ws m (by omega) (by omega) hw), ev_now]
end Go.Proofs.Yticnoiflccbhcaa.Q

namespace Go.Proofs.Yticnoiflccbhcaa.Q
open Go.RowKit Go.Proofs.YticnoiflccbhcaaW.PrintWords Go.Proofs.YticnoiflccbhcaaW.PrintLast Go.Proofs.YticnoiflccbhcaaW.PrintMore Go.Proofs.YticnoiflccbhcaaM
set_option linter.unusedVariables false
set_option linter.unusedSimpArgs false
theorem impl_sumOf.ev_l (l : List Int) (hl : l.length ≤ 9223372036854775807) : ∀ (d i : Nat) (s : Int), i + d = l.length → Ev (fun k => impl_sumOf.l0 k s l (l.length : Int) (i : Int)) (wfold (l.drop i) s) := by
  intro d
  induction d with
  | zero =>
    intro i s h
    refine ev_step ?_
    simp only [impl_sumOf.l0]
    rw [ev_neg (by omega), ev_now, List.drop_of_length_le (by omega)]
    rfl
  | succ d ih =>
    intro i s h
    refine ev_step ?_
    simp only [impl_sumOf.l0]
    have hi : i < l.length := by omega
    rw [ev_pos (by omega), ev_pos (by omega), ev_pos (by omega), w64i (n := l.length) (by omega) (by omega) hl, rd_lt l i hi, wfold_take l i hi]
    exact ih (i + 1) _ (by omega)
theorem impl_sumOf.ev (l : List Int) (hl : l.length ≤ 9223372036854775807) : Ev (fun k => impl_sumOf.f k l) (wfold l 0) := impl_sumOf.ev_l l hl l.length 0 0 (by omega)
end Go.Proofs.Yticnoiflccbhcaa.Q

namespace Go.Proofs.Yticnoiflccbhcaa.Q
open Go.RowKit Go.Proofs.YticnoiflccbhcaaW.PrintWords Go.Proofs.YticnoiflccbhcaaW.PrintLast Go.Proofs.YticnoiflccbhcaaW.PrintMore Go.Proofs.YticnoiflccbhcaaM
set_option linter.unusedVariables false
set_option linter.unusedSimpArgs false
theorem impl_within.v (a b c : Int) : impl_within.f a b c = some (decide (b ≤ a) && decide (a ≤ c)) := by
  unfold impl_within.f
  by_cases h : b ≤ a
  · rw [if_pos h]; simp [h]
  · rw [if_neg h]; simp [h]
theorem impl_IsCommittee.ev (q : Int) (l : List Int) (hl : l.length ≤ 9223372036854775807) : Ev (fun k => impl_IsCommittee.f k q l) (goodB q l) := by
  simp only [impl_IsCommittee.f]
  unfold goodB
  by_cases h1 : 1 ≤ l.length
  · rw [ev_pos (by omega)]
    by_cases h2 : l.length ≤ 9
    · rw [ev_pos (by omega), ev_bind (ev_of (show impl_areIn.f l 0 1000 = some _ from rfl))]
      cases hb : (l.all fun x => decide (0 ≤ x) && decide (x ≤ 1000)) with
      | true =>
        rw [ev_pos rfl, ev_bind (impl_sumOf.ev l hl), ev_bind (ev_of (impl_within.v _ _ _)), ev_now, wfold_w l h2 hb]
        simp [h1, h2]
      | false =>
        rw [ev_neg (by simp), ev_now]
        simp
    · rw [ev_neg (by omega), ev_now]
      simp [h2]
  · rw [ev_neg (by omega), ev_now]
    simp [h1]
end Go.Proofs.Yticnoiflccbhcaa.Q

namespace Go.Proofs.Yticnoiflccbhcaa.Q
open Go.RowKit Go.Proofs.YticnoiflccbhcaaW.PrintWords Go.Proofs.YticnoiflccbhcaaW.PrintLast Go.Proofs.YticnoiflccbhcaaW.PrintMore Go.Proofs.YticnoiflccbhcaaM
set_option linter.unusedVariables false
set_option linter.unusedSimpArgs false
def bitB (m i : Nat) : Bool := decide (m / 2 ^ i % 2 = 1)
def setN (m : Nat) : List Int := ((List.range 62).filter (bitB m)).map fun (i : Nat) => (i : Int)
def setTo (m i : Nat) : List Int := ((List.range i).filter (bitB m)).map fun (i : Nat) => (i : Int)
theorem bitB_high {m i j : Nat} (h : m / 2 ^ i = 0) (hij : i ≤ j) : bitB m j = false := by
  unfold bitB
  have : m < 2 ^ i := by
    rcases Nat.lt_or_ge m (2 ^ i) with h1 | h1
    · exact h1
    · have := Nat.div_pos h1 (Nat.two_pow_pos i)
      omega
  have h2 : 2 ^ i ≤ 2 ^ j := Nat.pow_le_pow_right (by omega) hij
  rw [Nat.div_eq_of_lt (by omega)]
  rfl
theorem setTo_done {m i : Nat} (h : m / 2 ^ i = 0) (hi : i ≤ 62) : setTo m i = setN m := by
  unfold setTo setN
  rw [show List.range 62 = List.range i ++ (List.range (62 - i)).map (i + ·) by rw [← List.range_add]; congr 1; omega, List.filter_append]
  have : ((List.range (62 - i)).map (i + ·)).filter (bitB m) = [] := by
    rw [List.filter_eq_nil_iff]
    intro j hj
    obtain ⟨a, _, rfl⟩ := List.mem_map.1 hj
    rw [bitB_high h (by omega)]
    decide
  rw [this, List.append_nil]
theorem setTo_succ (m i : Nat) : setTo m (i + 1) = if bitB m i = true then setTo m i ++ [(i : Int)] else setTo m i := by
  unfold setTo
  rw [List.range_succ, List.filter_append, List.map_append]
  by_cases h : bitB m i = true
  · rw [if_pos h]
    simp [h]
  · rw [if_neg h]
    simp [h]
theorem setTo_len (m i : Nat) : (setTo m i).length ≤ i := by
  unfold setTo
  rw [List.length_map]
  have := List.length_filter_le (bitB m) (List.range i)
  rw [List.length_range] at this
  exact this
theorem setN_to {m n : Nat} (h : m < 2 ^ n) (hn : n ≤ 62) : setN m = setTo m n := (setTo_done (Nat.div_eq_of_lt h) hn).symm
theorem setTo_in {m n : Nat} : ∀ x ∈ setTo m n, 0 ≤ x ∧ x < (n : Int) ∧ bitB m x.toNat = true := by
  intro x hx
  obtain ⟨i, hi, rfl⟩ := List.mem_map.1 hx
  rw [List.mem_filter, List.mem_range] at hi
  exact ⟨by omega, by omega, by rw [Int.toNat_natCast]; exact hi.2⟩
theorem setTo_all (m n : Nat) (q : Nat → Bool) : ((setTo m n).all fun x => q x.toNat) = (List.range n).all fun i => !(bitB m i) || q i := by
  unfold setTo
  rw [List.all_map, List.all_filter]
  rfl
/-- A set that wins, but loses without any one member. -/
def leastB (W : List Bool) (n m : Nat) : Bool := W.getD m false && (List.range n).all fun i => !(bitB m i) || !(W.getD (m - 2 ^ i) false)
/-- What is taken of the numbers below a bound, one by one. -/
def takeL (P : Nat → Bool) (i : Nat) : List (List Int) := ((List.range i).filter P).map setN
theorem takeL_succ (P : Nat → Bool) (i : Nat) : takeL P (i + 1) = if P i = true then takeL P i ++ [setN i] else takeL P i := by
  unfold takeL
  rw [List.range_succ, List.filter_append, List.map_append]
  by_cases h : P i = true
  · rw [if_pos h]
    simp [h]
  · rw [if_neg h]
    simp [h]
theorem takeL_len (P : Nat → Bool) (i : Nat) : (takeL P i).length ≤ i := by
  unfold takeL
  rw [List.length_map]
  have := List.length_filter_le P (List.range i)
  rw [List.length_range] at this
  exact this
theorem takeL_mem {P : Nat → Bool} {i : Nat} : ∀ x ∈ takeL P i, ∃ m, m < i ∧ P m = true ∧ x = setN m := by
  intro x hx
  obtain ⟨m, hm, rfl⟩ := List.mem_map.1 hx
  rw [List.mem_filter, List.mem_range] at hm
  exact ⟨m, hm.1, hm.2, rfl⟩
end Go.Proofs.Yticnoiflccbhcaa.Q

namespace Go.Proofs.Yticnoiflccbhcaa.Q
open Go.RowKit Go.Proofs.YticnoiflccbhcaaW.PrintWords Go.Proofs.YticnoiflccbhcaaW.PrintLast Go.Proofs.YticnoiflccbhcaaW.PrintMore Go.Proofs.YticnoiflccbhcaaM
set_option linter.unusedVariables false
set_option linter.unusedSimpArgs false
theorem andNot_pow (m i : Nat) (hm : m < 2 ^ 62) (hi : i ≤ 61) (h : bitB m i = true) : Go.bits .andNot .i64 (m : Int) ((2 ^ i : Nat) : Int) = ((m - 2 ^ i : Nat) : Int) := by
  have hp : 2 ^ i ≤ 2 ^ 61 := Nat.pow_le_pow_right (by omega) hi
  have hb : m / 2 ^ i % 2 = 1 := by simpa [bitB] using h
  have hmi : m - 2 ^ i < 2 ^ 62 := Nat.lt_of_le_of_lt (Nat.sub_le _ _) hm
  have key : m &&& (2 ^ 64 - 1 - 2 ^ i) = m - 2 ^ i := by
    have hge : 2 ^ i ≤ m := by
      rcases Nat.lt_or_ge m (2 ^ i) with h1 | h1
      · rw [Nat.div_eq_of_lt h1] at hb; omega
      · exact h1
    have h0 : (m - 2 ^ i) / 2 ^ i % 2 = 0 := by
      have e : m = (m - 2 ^ i) + 2 ^ i := by omega
      have e2 : m / 2 ^ i = (m - 2 ^ i) / 2 ^ i + 1 := by
        conv => lhs; rw [e]
        exact Nat.add_div_right _ (Nat.two_pow_pos i)
      omega
    have hor := or_pow i (m - 2 ^ i) h0
    rw [Nat.sub_add_cancel hge] at hor
    apply Nat.eq_of_testBit_eq
    intro j
    rw [Nat.testBit_and, show 2 ^ 64 - 1 - 2 ^ i = 2 ^ 64 - (2 ^ i + 1) by omega, Nat.testBit_two_pow_sub_succ (by omega : 2 ^ i < 2 ^ 64)]
    have hmj : m.testBit j = ((m - 2 ^ i).testBit j || (2 ^ i).testBit j) := by rw [← Nat.testBit_or, hor]
    by_cases e : j = i
    · subst e
      have : (m - 2 ^ j).testBit j = false := by
        rw [Nat.testBit_eq_decide_div_mod_eq, h0]
        rfl
      rw [this, Nat.testBit_two_pow_self]
      simp
    · have h2 : (2 ^ i).testBit j = false := Nat.testBit_two_pow_of_ne (fun h => e h.symm)
      rw [hmj, h2]
      by_cases hj : j < 64
      · simp [hj]
      · have : (m - 2 ^ i).testBit j = false := Nat.testBit_lt_two_pow (Nat.lt_of_lt_of_le hmi (Nat.pow_le_pow_right (by omega) (by omega)))
        rw [this]
        simp
  have hbv : ((BitVec.ofInt 64 (m : Int)) &&& ~~~(BitVec.ofInt 64 ((2 ^ i : Nat) : Int))).toNat = m - 2 ^ i := by
    rw [BitVec.toNat_and, BitVec.toNat_not, BitVec.ofInt_natCast, BitVec.ofInt_natCast, BitVec.toNat_ofNat, BitVec.toNat_ofNat, Nat.mod_eq_of_lt (by omega : m < 2 ^ 64), Nat.mod_eq_of_lt (by omega : 2 ^ i < 2 ^ 64)]
    exact key
  show IntKind.i64.wrap (((BitVec.ofInt 64 (m : Int)) &&& ~~~(BitVec.ofInt 64 ((2 ^ i : Nat) : Int))).toNat : Int) = _
  rw [hbv]
  exact (fun (x : Nat) (hx : x < 2 ^ 62) => i64_wrap (x := (x : Int)) (by omega) (by omega)) (m - 2 ^ i) hmi
end Go.Proofs.Yticnoiflccbhcaa.Q

namespace Go.Proofs.Yticnoiflccbhcaa.Q
open Go.RowKit Go.Proofs.YticnoiflccbhcaaW.PrintWords Go.Proofs.YticnoiflccbhcaaW.PrintLast Go.Proofs.YticnoiflccbhcaaW.PrintMore Go.Proofs.YticnoiflccbhcaaM
set_option linter.unusedVariables false
set_option linter.unusedSimpArgs false
theorem impl_setOf.ev_l (m : Nat) (hm : m < 2 ^ 62) : ∀ (d i : Nat), i + d = 62 → Ev (fun k => impl_setOf.l0 k (m : Int) (setTo m i) (i : Int)) (setN m) := by
  intro d
  induction d with
  | zero =>
    intro i h
    refine ev_step ?_
    simp only [impl_setOf.l0]
    have e : m / 2 ^ i = 0 := by rw [show i = 62 by omega]; exact Nat.div_eq_of_lt hm
    rw [ev_pos (by omega), shr_nat m i (by omega), e, ev_neg (by omega), ev_now, setTo_done e (by omega)]
  | succ d ih =>
    intro i h
    refine ev_step ?_
    simp only [impl_setOf.l0]
    have hlt : m / 2 ^ i < 2 ^ 62 := Nat.lt_of_le_of_lt (Nat.div_le_self _ _) hm
    have hl := setTo_len m i
    rw [ev_pos (by omega), shr_nat m i (by omega), w64 (by omega) (by omega)]
    by_cases e : m / 2 ^ i = 0
    · rw [ev_neg (by omega), ev_now, setTo_done e (by omega)]
    · rw [ev_pos (Int.natCast_pos.2 (Nat.pos_of_ne_zero e)), and_one _ hlt]
      have := ih (i + 1) (by omega)
      rw [setTo_succ] at this
      by_cases hb : m / 2 ^ i % 2 = 1
      · rw [if_pos (by simp [bitB, hb])] at this
        rw [ev_pos (by rw [hb]; rfl), ev_pos (by omega)]
        exact this
      · rw [if_neg (by simp [bitB]; omega)] at this
        rw [ev_neg (c := ((m / 2 ^ i % 2 : Nat) : Int) = 1) (fun h_ => hb (Int.ofNat_inj.1 h_))]
        exact this
theorem impl_setOf.ev (m : Nat) (hm : m < 2 ^ 62) : Ev (fun k => impl_setOf.f k (m : Int)) (setN m) := impl_setOf.ev_l m hm 62 0 (by omega)
end Go.Proofs.Yticnoiflccbhcaa.Q

namespace Go.Proofs.Yticnoiflccbhcaa.Q
open Go.RowKit Go.Proofs.YticnoiflccbhcaaX Go.Proofs.YticnoiflccbhcaaW.PrintWords Go.Proofs.YticnoiflccbhcaaW.PrintLast Go.Proofs.YticnoiflccbhcaaW.PrintMore
attribute [local go_sem] max2_int min2_int max_two min_two max_three min_three max_four min_four   -- for this text's walks alone
set_option linter.unusedVariables false
set_option linter.unusedSimpArgs false

/-! ### impl_votes_isLeast: function 120 -/
def impl_votes_isLeast.l0 : Nat → Int → Int → Int → Int → List Bool → Option (Bool)
 | 0, _, _, _, _, _ => none
 | k + 1, x1, x13, x14, x102000, x102001 => if x14 < x13 then ((impl_has.f x1 x14).bind fun t103 => (if t103 = true then (if 0 ≤ x14 then (if 0 ≤ (Go.bits .andNot .i64 x1 (shl .i64 1 x14)) then (if (Go.bits .andNot .i64 x1 (shl .i64 1 x14)) < (x102001.length : Int) then (if rdOf false x102001 (Go.bits .andNot .i64 x1 (shl .i64 1 x14)) = true then (some false) else (impl_votes_isLeast.l0 k x1 x13 (wrap64 (x14 + 1)) x102000 x102001)) else (none)) else (none)) else (none)) else (impl_votes_isLeast.l0 k x1 x13 (wrap64 (x14 + 1)) x102000 x102001))) else (some true)
def impl_votes_isLeast.f (k : Nat) (a0_0 : Int) (l0_1 : List Bool) (a1 : Int) : Option (Bool) := if 0 ≤ a1 then (if a1 < (l0_1.length : Int) then (if rdOf false l0_1 a1 = true then (impl_votes_isLeast.l0 k a1 a0_0 0 a0_0 l0_1) else (some false)) else (none)) else (none)
theorem impl_votes_isLeast.mono_l : ∀ k, (∀ y0 y1 y2 y3 y4, LeO (impl_votes_isLeast.l0 k y0 y1 y2 y3 y4) (impl_votes_isLeast.l0 (k + 1) y0 y1 y2 y3 y4))
 | 0 => fun _ _ _ _ _ r h => by simp [impl_votes_isLeast.l0] at h
 | k + 1 => by
  have ih0 := impl_votes_isLeast.mono_l k
  ·intro y0 y1 y2 y3 y4
   unfold impl_votes_isLeast.l0
   repeat' first
   | (with_reducible exact ih0 _ _ _ _ _)
   | (with_reducible exact LeO.refl _)
   | (with_reducible exact LeO.none _)
   | (with_reducible refine LeO.ite ?_ ?_)
   | (with_reducible refine LeO.bind ?_ (fun _ => ?_))
   | exact ih0 _ _ _ _ _
   | exact LeO.none _
   | refine LeO.ite ?_ ?_
   | refine LeO.bind ?_ (fun _ => ?_)
theorem impl_votes_isLeast.mono : ∀ a0 a1 a2 k, LeO (impl_votes_isLeast.f k a0 a1 a2) (impl_votes_isLeast.f (k + 1) a0 a1 a2) := by
 intro a0 a1 a2 k
 have ih0 := impl_votes_isLeast.mono_l k
 unfold impl_votes_isLeast.f
 repeat' first
   | (with_reducible exact ih0 _ _ _ _ _)
   | (with_reducible exact LeO.refl _)
   | (with_reducible exact LeO.none _)
   | (with_reducible refine LeO.ite ?_ ?_)
   | (with_reducible refine LeO.bind ?_ (fun _ => ?_))
   | exact ih0 _ _ _ _ _
   | exact LeO.none _
   | refine LeO.ite ?_ ?_
   | refine LeO.bind ?_ (fun _ => ?_)
set_option maxHeartbeats 8000000 in
set_option maxRecDepth 100000 in
theorem impl_votes_isLeast.calls (k : Nat) (a0_0 : Int) (A0_1 : Option Addr) (c0_1 : Nat) (l0_1 : List Bool) (a1 : Int) (r : Bool) (w : World) (hr0_1 : Kd.C Kd.bool w A0_1 l0_1.length l0_1) (hc0_1 : l0_1.length ≤ c0_1) (h : impl_votes_isLeast.f k a0_0 l0_1 a1 = some r) :
  Calls Try.prog 120 #[.agg #[.int .i64 a0_0, .slice A0_1 l0_1.length c0_1], .int .i64 a1] w fun e w' => e = .returned (.bool r) ∧ Below w.heap.size w w' := by
 have hu65 := Try.underlying65
 have HR0_1 := Aside0.mk hr0_1
 have HC0_1 := Aside0.mk hc0_1
 clear hr0_1 hc0_1
 have HB := Aside0.mk (Below.refl w.heap.size w)
 have H : (if 0 ≤ a1 then (if a1 < (l0_1.length : Int) then (if rdOf false l0_1 a1 = true then (impl_votes_isLeast.l0 k a1 a0_0 0 a0_0 l0_1) else (some false)) else (none)) else (none)) = some r := h
 clear h
 by_cases c3 : 0 ≤ a1
 ·rw [if_pos c3] at H
  have c3b0 : decide (0 ≤ a1) = true := decide_eq_true c3
  clear c3
  by_cases c4 : a1 < (l0_1.length : Int)
  ·rw [if_pos c4] at H
   have c4b0 : decide (a1 < (l0_1.length : Int)) = true := decide_eq_true c4
   clear c4
   obtain ⟨bq5, hbq5⟩ : ∃ b_ : Bool, b_ = (rdOf false l0_1 a1) := ⟨_, rfl⟩
   replace H : (if bq5 = true then (impl_votes_isLeast.l0 k a1 a0_0 0 a0_0 l0_1) else (some false)) = some r := by rw [← hbq5] at H; exact H
   have Nbq5 := Aside0.mk hbq5
   clear hbq5
   by_cases c6 : bq5 = true
   ·subst c6
    have H1 : (impl_votes_isLeast.l0 k a1 a0_0 0 a0_0 l0_1) = some r := by rw [if_pos rfl] at H; exact H
    clear H
    have H := H1
    clear H1
    have H' := Aside0.mk H
    clear H
    go_enter Try.func120, Try.ntmps120
    go_wp2_with (first | ((with_reducible refine gate_dst (N := 2) rfl ?_); refine box_event ?hg (N := 2) ?hd (cs := #[.int .i64 a0_0, .slice A0_1 l0_1.length c0_1]) (t := 65) ?hr ?_; (case hd => rfl); (case hg => rfl); (case hr => first | (go_simp; done) | (go_simp; rfl)); intro gb101 hg w7 hbox hb; have n0_ := Aside0.mk (below_step (by repeat (first | (with_reducible first | exact HB.out | apply ba | apply bd | apply be) | exact HB.out)) hb); have n1_ := Aside0.mk (hbox); have n2_ := Aside0.mk ((by rw [hg]; exact (below_size (by repeat (first | (with_reducible first | exact HB.out | apply ba | apply bd | apply be) | exact HB.out))) : w.heap.size ≤ gb101)); have n3_ := Aside0.mk ((by rw [hg]; exact (below_size (by repeat (first | (with_reducible first | exact HB.out | apply ba | apply bd | apply be) | exact HB.out))) : w.heap.size ≤ gb101)); clear HB; have HB := n0_; have BK101 := n1_; have GW101 := n2_; have GE101 := n3_; clear n0_ n1_ n2_ n3_; clear hb hbox hg; have hcz8_0 : w7.cell? ⟨gb101, 0, none⟩ = some (.int .i64 a0_0) := (blk_cell BK101.out 0).trans rfl; have hcz8_1 : w7.cell? ⟨gb101, 1, none⟩ = some (.slice A0_1 l0_1.length c0_1) := (blk_cell BK101.out 1).trans rfl; have hfz8_0 := blk_frozen BK101.out 0; have hfz8_1 := blk_frozen BK101.out 1; have p102 : 0 ≤ (a1 : Int) := of_decide_eq_true (by first | (with_reducible assumption) | assumption); have q102 : a1 < (l0_1.length : Int) := of_decide_eq_true (by first | (with_reducible assumption) | assumption); obtain ⟨ad102, e102, hx102_0⟩ := Kd.at_bool HR0_1.out a1 p102 q102; (try rw [← Nbq5.out] at hx102_0); cases e102; replace hx102_0 := (HB.out.cell (World.block_lt_of_cell? w _ hx102_0)).trans hx102_0; replace p102 := eq_true p102; replace q102 := eq_true q102))
    repeat (go_quiet (first | ((with_reducible refine gate_dst (N := 2) rfl ?_); refine box_event ?hg (N := 2) ?hd (cs := #[.int .i64 a0_0, .slice A0_1 l0_1.length c0_1]) (t := 65) ?hr ?_; (case hd => rfl); (case hg => rfl); (case hr => first | (go_simp; done) | (go_simp; rfl)); intro gb101 hg w7 hbox hb; have n0_ := Aside0.mk (below_step (by repeat (first | (with_reducible first | exact HB.out | apply ba | apply bd | apply be) | exact HB.out)) hb); have n1_ := Aside0.mk (hbox); have n2_ := Aside0.mk ((by rw [hg]; exact (below_size (by repeat (first | (with_reducible first | exact HB.out | apply ba | apply bd | apply be) | exact HB.out))) : w.heap.size ≤ gb101)); have n3_ := Aside0.mk ((by rw [hg]; exact (below_size (by repeat (first | (with_reducible first | exact HB.out | apply ba | apply bd | apply be) | exact HB.out))) : w.heap.size ≤ gb101)); clear HB; have HB := n0_; have BK101 := n1_; have GW101 := n2_; have GE101 := n3_; clear n0_ n1_ n2_ n3_; clear hb hbox hg; have hcz8_0 : w7.cell? ⟨gb101, 0, none⟩ = some (.int .i64 a0_0) := (blk_cell BK101.out 0).trans rfl; have hcz8_1 : w7.cell? ⟨gb101, 1, none⟩ = some (.slice A0_1 l0_1.length c0_1) := (blk_cell BK101.out 1).trans rfl; have hfz8_0 := blk_frozen BK101.out 0; have hfz8_1 := blk_frozen BK101.out 1; have p102 : 0 ≤ (a1 : Int) := of_decide_eq_true (by first | (with_reducible assumption) | assumption); have q102 : a1 < (l0_1.length : Int) := of_decide_eq_true (by first | (with_reducible assumption) | assumption); obtain ⟨ad102, e102, hx102_0⟩ := Kd.at_bool HR0_1.out a1 p102 q102; (try rw [← Nbq5.out] at hx102_0); cases e102; replace hx102_0 := (HB.out.cell (World.block_lt_of_cell? w _ hx102_0)).trans hx102_0; replace p102 := eq_true p102; replace q102 := eq_true q102)); try go_wp2_with (first | ((with_reducible refine gate_dst (N := 2) rfl ?_); refine box_event ?hg (N := 2) ?hd (cs := #[.int .i64 a0_0, .slice A0_1 l0_1.length c0_1]) (t := 65) ?hr ?_; (case hd => rfl); (case hg => rfl); (case hr => first | (go_simp; done) | (go_simp; rfl)); intro gb101 hg w7 hbox hb; have n0_ := Aside0.mk (below_step (by repeat (first | (with_reducible first | exact HB.out | apply ba | apply bd | apply be) | exact HB.out)) hb); have n1_ := Aside0.mk (hbox); have n2_ := Aside0.mk ((by rw [hg]; exact (below_size (by repeat (first | (with_reducible first | exact HB.out | apply ba | apply bd | apply be) | exact HB.out))) : w.heap.size ≤ gb101)); have n3_ := Aside0.mk ((by rw [hg]; exact (below_size (by repeat (first | (with_reducible first | exact HB.out | apply ba | apply bd | apply be) | exact HB.out))) : w.heap.size ≤ gb101)); clear HB; have HB := n0_; have BK101 := n1_; have GW101 := n2_; have GE101 := n3_; clear n0_ n1_ n2_ n3_; clear hb hbox hg; have hcz8_0 : w7.cell? ⟨gb101, 0, none⟩ = some (.int .i64 a0_0) := (blk_cell BK101.out 0).trans rfl; have hcz8_1 : w7.cell? ⟨gb101, 1, none⟩ = some (.slice A0_1 l0_1.length c0_1) := (blk_cell BK101.out 1).trans rfl; have hfz8_0 := blk_frozen BK101.out 0; have hfz8_1 := blk_frozen BK101.out 1; have p102 : 0 ≤ (a1 : Int) := of_decide_eq_true (by first | (with_reducible assumption) | assumption); have q102 : a1 < (l0_1.length : Int) := of_decide_eq_true (by first | (with_reducible assumption) | assumption); obtain ⟨ad102, e102, hx102_0⟩ := Kd.at_bool HR0_1.out a1 p102 q102; (try rw [← Nbq5.out] at hx102_0); cases e102; replace hx102_0 := (HB.out.cell (World.block_lt_of_cell? w _ hx102_0)).trans hx102_0; replace p102 := eq_true p102; replace q102 := eq_true q102)))
    go_loopg [14] k (fun kq v14 w' => ∃ (x14_1 : Int), v14 = .int .i64 x14_1 ∧ Aside0 (impl_votes_isLeast.l0 kq a1 a0_0 x14_1 a0_0 l0_1 = some r) ∧ Aside0 (kq ≤ k) ∧ Aside0 (w'.heap[gb101]? = some (.cells #[.int .i64 a0_0, (.slice (some ad102) l0_1.length c0_1)] 65 (0, 0))) ∧ Aside0 (Below w.heap.size w w'))
    case atStart => exact ⟨(0), (by first | rfl | (simp; done) | (simp [*]; done)), H', ⟨Nat.le_refl _⟩, ⟨by (first | exact bp BK101.out | exact BK101.out)⟩, ⟨by repeat (first | (with_reducible first | exact HB.out | apply ba | apply bd | apply be | refine bs ?_ GE101.out) | exact HB.out)⟩⟩
    case round =>
     clear H'
     try clear c1
     try clear p1
     try clear q1
     try clear hx1
     try clear p2
     try clear c3
     try clear c3b0
     try clear c4
     try clear c4b0
     try clear q5
     try clear c6
     try clear hcz8_0
     try clear hcz8_1
     try clear hfz8_0
     try clear hfz8_1
     try clear hx102_0
     try clear p102
     try clear q102
     obtain ⟨x14_1, rfl, HA, HK1, BK101, HB⟩ := hrel
     cases gk with
     | zero => exact absurd HA.out (by simp [impl_votes_isLeast.l0])
     | succ k1 =>
      have H := HA.out
      clear HA
      simp only [impl_votes_isLeast.l0] at H
      by_cases c9 : x14_1 < a0_0
      ·rw [if_pos c9] at H
       have c9b0 : decide (x14_1 < a0_0) = true := decide_eq_true c9
       clear c9
       replace H := oB H
       obtain ⟨t103, A100, H⟩ := H
       replace H : (if t103 = true then (if 0 ≤ x14_1 then (if 0 ≤ (Go.bits .andNot .i64 a1 (shl .i64 1 x14_1)) then (if (Go.bits .andNot .i64 a1 (shl .i64 1 x14_1)) < (l0_1.length : Int) then (if rdOf false l0_1 (Go.bits .andNot .i64 a1 (shl .i64 1 x14_1)) = true then (some false) else (impl_votes_isLeast.l0 k1 a1 a0_0 (wrap64 (x14_1 + 1)) a0_0 l0_1)) else (none)) else (none)) else (none)) else (impl_votes_isLeast.l0 k1 a1 a0_0 (wrap64 (x14_1 + 1)) a0_0 l0_1)) = some r := H
       have A10 := Aside0.mk A100
       clear A100
       by_cases c11 : t103 = true
       ·subst c11
        have H1 : (if 0 ≤ x14_1 then (if 0 ≤ (Go.bits .andNot .i64 a1 (shl .i64 1 x14_1)) then (if (Go.bits .andNot .i64 a1 (shl .i64 1 x14_1)) < (l0_1.length : Int) then (if rdOf false l0_1 (Go.bits .andNot .i64 a1 (shl .i64 1 x14_1)) = true then (some false) else (impl_votes_isLeast.l0 k1 a1 a0_0 (wrap64 (x14_1 + 1)) a0_0 l0_1)) else (none)) else (none)) else (none)) = some r := by rw [if_pos rfl] at H; exact H
        clear H
        have H := H1
        clear H1
        by_cases c12 : 0 ≤ x14_1
        ·rw [if_pos c12] at H
         have c12b0 := eq_true c12
         have c12b1 : decide (0 ≤ x14_1) = true := decide_eq_true c12
         clear c12
         obtain ⟨ji13, hji13⟩ : ∃ j_ : Int, (shl .i64 1 x14_1) = j_ := ⟨_, rfl⟩
         replace H : (if 0 ≤ (Go.bits .andNot .i64 a1 (ji13)) then (if (Go.bits .andNot .i64 a1 (ji13)) < (l0_1.length : Int) then (if rdOf false l0_1 (Go.bits .andNot .i64 a1 (ji13)) = true then (some false) else (impl_votes_isLeast.l0 k1 a1 a0_0 (wrap64 (x14_1 + 1)) a0_0 l0_1)) else (none)) else (none)) = some r := by first | (rw [hji13] at H; exact H) | (simp only [hji13] at H ⊢; exact H)
         (try rw [hji13] at A10)
         have hji13_ : (IntKind.i64.wrap (1 * 2 ^ min x14_1.toNat 64)) = ji13 := hji13
         have hji13z : x14_1 ≤ 64 → (IntKind.i64.wrap (1 * 2 ^ x14_1.toNat)) = ji13 := shl_small hji13
         have hji13u : (IntKind.i64.wrap (2 ^ min x14_1.toNat 64)) = ji13 := by have h_ := hji13_; rw [Int.one_mul] at h_; exact h_
         have hji13v : x14_1 ≤ 64 → (IntKind.i64.wrap (2 ^ x14_1.toNat)) = ji13 := fun hle_ => by have h_ := hji13z hle_; rw [Int.one_mul] at h_; exact h_
         have hji13y : (wrap64 (1 * 2 ^ min x14_1.toNat 64)) = ji13 := (i64_w _).symm.trans hji13_
         have hji13x : x14_1 ≤ 64 → (wrap64 (1 * 2 ^ x14_1.toNat)) = ji13 := fun h_ => (i64_w _).symm.trans (hji13z h_)
         by_cases c14 : 0 ≤ (Go.bits .andNot .i64 a1 (ji13))
         ·rw [if_pos c14] at H
          have c14b0 : decide (0 ≤ (Go.bits .andNot .i64 a1 (ji13))) = true := decide_eq_true c14
          clear c14
          by_cases c15 : (Go.bits .andNot .i64 a1 (ji13)) < (l0_1.length : Int)
          ·rw [if_pos c15] at H
           have c15b0 : decide ((Go.bits .andNot .i64 a1 (ji13)) < (l0_1.length : Int)) = true := decide_eq_true c15
           clear c15
           obtain ⟨bq16, hbq16⟩ : ∃ b_ : Bool, b_ = (rdOf false l0_1 (Go.bits .andNot .i64 a1 (ji13))) := ⟨_, rfl⟩
           replace H : (if bq16 = true then (some false) else (impl_votes_isLeast.l0 k1 a1 a0_0 (wrap64 (x14_1 + 1)) a0_0 l0_1)) = some r := by rw [← hbq16] at H; exact H
           have Nbq16 := Aside0.mk hbq16
           clear hbq16
           by_cases c17 : bq16 = true
           ·subst c17
            have H1 : (some false) = some r := by rw [if_pos rfl] at H; exact H
            clear H
            have H := H1
            clear H1
            obtain rfl := Option.some.inj H
            go_wp2_with (first | (go_at_call 123; (with_reducible refine (impl_has.calls a1 x14_1 true _ A10.out).mono ?_); rintro e w' ⟨rfl, ⟨nd, rfl⟩⟩; (try first | exact ⟨rfl, _, World.drewN_drewN _ _ _⟩ | exact ⟨rfl, _, Eq.trans (World.drewN_drewN _ _ _) (congrArg (World.drewN _) (Nat.add_assoc _ _ _))⟩); have hcz18_0 : wr.cell? ⟨gb101, 0, none⟩ = some (.int .i64 a0_0) := (blk_cell BK101.out 0).trans rfl; have hcz18_1 : wr.cell? ⟨gb101, 1, none⟩ = some (.slice (some ad102) l0_1.length c0_1) := (blk_cell BK101.out 1).trans rfl; have hfz18_0 := blk_frozen BK101.out 0; have hfz18_1 := blk_frozen BK101.out 1; have p104 : 0 ≤ ((Go.bits .andNot .i64 a1 (ji13)) : Int) := of_decide_eq_true (by first | (with_reducible assumption) | assumption); have q104 : (Go.bits .andNot .i64 a1 (ji13)) < (l0_1.length : Int) := of_decide_eq_true (by first | (with_reducible assumption) | assumption); obtain ⟨ad104, e104, hx104_0⟩ := Kd.at_bool HR0_1.out (Go.bits .andNot .i64 a1 (ji13)) p104 q104; (try rw [← Nbq5.out] at hx104_0); (try rw [← Nbq16.out] at hx104_0); obtain rfl : ad102 = ad104 := (by injection e104); replace hx104_0 := (HB.out.cell (World.block_lt_of_cell? w _ hx104_0)).trans hx104_0; replace p104 := eq_true p104; replace q104 := eq_true q104))
            repeat (go_quiet (first | (go_at_call 123; (with_reducible refine (impl_has.calls a1 x14_1 true _ A10.out).mono ?_); rintro e w' ⟨rfl, ⟨nd, rfl⟩⟩; (try first | exact ⟨rfl, _, World.drewN_drewN _ _ _⟩ | exact ⟨rfl, _, Eq.trans (World.drewN_drewN _ _ _) (congrArg (World.drewN _) (Nat.add_assoc _ _ _))⟩); have hcz18_0 : wr.cell? ⟨gb101, 0, none⟩ = some (.int .i64 a0_0) := (blk_cell BK101.out 0).trans rfl; have hcz18_1 : wr.cell? ⟨gb101, 1, none⟩ = some (.slice (some ad102) l0_1.length c0_1) := (blk_cell BK101.out 1).trans rfl; have hfz18_0 := blk_frozen BK101.out 0; have hfz18_1 := blk_frozen BK101.out 1; have p104 : 0 ≤ ((Go.bits .andNot .i64 a1 (ji13)) : Int) := of_decide_eq_true (by first | (with_reducible assumption) | assumption); have q104 : (Go.bits .andNot .i64 a1 (ji13)) < (l0_1.length : Int) := of_decide_eq_true (by first | (with_reducible assumption) | assumption); obtain ⟨ad104, e104, hx104_0⟩ := Kd.at_bool HR0_1.out (Go.bits .andNot .i64 a1 (ji13)) p104 q104; (try rw [← Nbq5.out] at hx104_0); (try rw [← Nbq16.out] at hx104_0); obtain rfl : ad102 = ad104 := (by injection e104); replace hx104_0 := (HB.out.cell (World.block_lt_of_cell? w _ hx104_0)).trans hx104_0; replace p104 := eq_true p104; replace q104 := eq_true q104)); try go_wp2_with (first | (go_at_call 123; (with_reducible refine (impl_has.calls a1 x14_1 true _ A10.out).mono ?_); rintro e w' ⟨rfl, ⟨nd, rfl⟩⟩; (try first | exact ⟨rfl, _, World.drewN_drewN _ _ _⟩ | exact ⟨rfl, _, Eq.trans (World.drewN_drewN _ _ _) (congrArg (World.drewN _) (Nat.add_assoc _ _ _))⟩); have hcz18_0 : wr.cell? ⟨gb101, 0, none⟩ = some (.int .i64 a0_0) := (blk_cell BK101.out 0).trans rfl; have hcz18_1 : wr.cell? ⟨gb101, 1, none⟩ = some (.slice (some ad102) l0_1.length c0_1) := (blk_cell BK101.out 1).trans rfl; have hfz18_0 := blk_frozen BK101.out 0; have hfz18_1 := blk_frozen BK101.out 1; have p104 : 0 ≤ ((Go.bits .andNot .i64 a1 (ji13)) : Int) := of_decide_eq_true (by first | (with_reducible assumption) | assumption); have q104 : (Go.bits .andNot .i64 a1 (ji13)) < (l0_1.length : Int) := of_decide_eq_true (by first | (with_reducible assumption) | assumption); obtain ⟨ad104, e104, hx104_0⟩ := Kd.at_bool HR0_1.out (Go.bits .andNot .i64 a1 (ji13)) p104 q104; (try rw [← Nbq5.out] at hx104_0); (try rw [← Nbq16.out] at hx104_0); obtain rfl : ad102 = ad104 := (by injection e104); replace hx104_0 := (HB.out.cell (World.block_lt_of_cell? w _ hx104_0)).trans hx104_0; replace p104 := eq_true p104; replace q104 := eq_true q104)))
            go_ret
            exact ⟨by first | rfl | (simp <;> rfl) | (simp only [← hji13]; first | rfl | (simp <;> rfl)) | (simp [*] <;> rfl), by repeat (first | (with_reducible first | exact HB.out | apply ba | apply bd | apply be | refine bs ?_ GE101.out) | exact HB.out)⟩
           ·replace c17 := Bool.eq_false_iff.mpr c17
            subst c17
            have H1 : (impl_votes_isLeast.l0 k1 a1 a0_0 (wrap64 (x14_1 + 1)) a0_0 l0_1) = some r := by rw [if_neg (show ¬ (false = true) by decide)] at H; exact H
            clear H
            have H := H1
            clear H1
            have H' := Aside0.mk H
            clear H
            go_wp2_with (first | (go_at_call 123; (with_reducible refine (impl_has.calls a1 x14_1 true _ A10.out).mono ?_); rintro e w' ⟨rfl, ⟨nd, rfl⟩⟩; (try first | exact ⟨rfl, _, World.drewN_drewN _ _ _⟩ | exact ⟨rfl, _, Eq.trans (World.drewN_drewN _ _ _) (congrArg (World.drewN _) (Nat.add_assoc _ _ _))⟩); have hcz19_0 : wr.cell? ⟨gb101, 0, none⟩ = some (.int .i64 a0_0) := (blk_cell BK101.out 0).trans rfl; have hcz19_1 : wr.cell? ⟨gb101, 1, none⟩ = some (.slice (some ad102) l0_1.length c0_1) := (blk_cell BK101.out 1).trans rfl; have hfz19_0 := blk_frozen BK101.out 0; have hfz19_1 := blk_frozen BK101.out 1; have p104 : 0 ≤ ((Go.bits .andNot .i64 a1 (ji13)) : Int) := of_decide_eq_true (by first | (with_reducible assumption) | assumption); have q104 : (Go.bits .andNot .i64 a1 (ji13)) < (l0_1.length : Int) := of_decide_eq_true (by first | (with_reducible assumption) | assumption); obtain ⟨ad104, e104, hx104_0⟩ := Kd.at_bool HR0_1.out (Go.bits .andNot .i64 a1 (ji13)) p104 q104; (try rw [← Nbq5.out] at hx104_0); (try rw [← Nbq16.out] at hx104_0); obtain rfl : ad102 = ad104 := (by injection e104); replace hx104_0 := (HB.out.cell (World.block_lt_of_cell? w _ hx104_0)).trans hx104_0; replace p104 := eq_true p104; replace q104 := eq_true q104))
            repeat (go_quiet (first | (go_at_call 123; (with_reducible refine (impl_has.calls a1 x14_1 true _ A10.out).mono ?_); rintro e w' ⟨rfl, ⟨nd, rfl⟩⟩; (try first | exact ⟨rfl, _, World.drewN_drewN _ _ _⟩ | exact ⟨rfl, _, Eq.trans (World.drewN_drewN _ _ _) (congrArg (World.drewN _) (Nat.add_assoc _ _ _))⟩); have hcz19_0 : wr.cell? ⟨gb101, 0, none⟩ = some (.int .i64 a0_0) := (blk_cell BK101.out 0).trans rfl; have hcz19_1 : wr.cell? ⟨gb101, 1, none⟩ = some (.slice (some ad102) l0_1.length c0_1) := (blk_cell BK101.out 1).trans rfl; have hfz19_0 := blk_frozen BK101.out 0; have hfz19_1 := blk_frozen BK101.out 1; have p104 : 0 ≤ ((Go.bits .andNot .i64 a1 (ji13)) : Int) := of_decide_eq_true (by first | (with_reducible assumption) | assumption); have q104 : (Go.bits .andNot .i64 a1 (ji13)) < (l0_1.length : Int) := of_decide_eq_true (by first | (with_reducible assumption) | assumption); obtain ⟨ad104, e104, hx104_0⟩ := Kd.at_bool HR0_1.out (Go.bits .andNot .i64 a1 (ji13)) p104 q104; (try rw [← Nbq5.out] at hx104_0); (try rw [← Nbq16.out] at hx104_0); obtain rfl : ad102 = ad104 := (by injection e104); replace hx104_0 := (HB.out.cell (World.block_lt_of_cell? w _ hx104_0)).trans hx104_0; replace p104 := eq_true p104; replace q104 := eq_true q104)); try go_wp2_with (first | (go_at_call 123; (with_reducible refine (impl_has.calls a1 x14_1 true _ A10.out).mono ?_); rintro e w' ⟨rfl, ⟨nd, rfl⟩⟩; (try first | exact ⟨rfl, _, World.drewN_drewN _ _ _⟩ | exact ⟨rfl, _, Eq.trans (World.drewN_drewN _ _ _) (congrArg (World.drewN _) (Nat.add_assoc _ _ _))⟩); have hcz19_0 : wr.cell? ⟨gb101, 0, none⟩ = some (.int .i64 a0_0) := (blk_cell BK101.out 0).trans rfl; have hcz19_1 : wr.cell? ⟨gb101, 1, none⟩ = some (.slice (some ad102) l0_1.length c0_1) := (blk_cell BK101.out 1).trans rfl; have hfz19_0 := blk_frozen BK101.out 0; have hfz19_1 := blk_frozen BK101.out 1; have p104 : 0 ≤ ((Go.bits .andNot .i64 a1 (ji13)) : Int) := of_decide_eq_true (by first | (with_reducible assumption) | assumption); have q104 : (Go.bits .andNot .i64 a1 (ji13)) < (l0_1.length : Int) := of_decide_eq_true (by first | (with_reducible assumption) | assumption); obtain ⟨ad104, e104, hx104_0⟩ := Kd.at_bool HR0_1.out (Go.bits .andNot .i64 a1 (ji13)) p104 q104; (try rw [← Nbq5.out] at hx104_0); (try rw [← Nbq16.out] at hx104_0); obtain rfl : ad102 = ad104 := (by injection e104); replace hx104_0 := (HB.out.cell (World.block_lt_of_cell? w _ hx104_0)).trans hx104_0; replace p104 := eq_true p104; replace q104 := eq_true q104)))
            go_roundg k1
            case measure => have := HK1.out; omega
            case rel => exact ⟨(wrap64 (x14_1 + 1)), (by first | rfl | (simp; done) | (simp [*]; done)), H', ⟨by have := HK1.out; omega⟩, ⟨by (first | exact bp BK101.out | exact BK101.out)⟩, ⟨by repeat (first | (with_reducible first | exact HB.out | apply ba | apply bd | apply be | refine bs ?_ GE101.out) | exact HB.out)⟩⟩
          ·rw [if_neg c15] at H
           exact absurd H (by simp)
         ·rw [if_neg c14] at H
          exact absurd H (by simp)
        ·rw [if_neg c12] at H
         exact absurd H (by simp)
       ·replace c11 := Bool.eq_false_iff.mpr c11
        subst c11
        have H1 : (impl_votes_isLeast.l0 k1 a1 a0_0 (wrap64 (x14_1 + 1)) a0_0 l0_1) = some r := by rw [if_neg (show ¬ (false = true) by decide)] at H; exact H
        clear H
        have H := H1
        clear H1
        have H' := Aside0.mk H
        clear H
        go_wp2_with (first | (go_at_call 123; (with_reducible refine (impl_has.calls a1 x14_1 false _ A10.out).mono ?_); rintro e w' ⟨rfl, ⟨nd, rfl⟩⟩; (try first | exact ⟨rfl, _, World.drewN_drewN _ _ _⟩ | exact ⟨rfl, _, Eq.trans (World.drewN_drewN _ _ _) (congrArg (World.drewN _) (Nat.add_assoc _ _ _))⟩)))
        repeat (go_quiet (first | (go_at_call 123; (with_reducible refine (impl_has.calls a1 x14_1 false _ A10.out).mono ?_); rintro e w' ⟨rfl, ⟨nd, rfl⟩⟩; (try first | exact ⟨rfl, _, World.drewN_drewN _ _ _⟩ | exact ⟨rfl, _, Eq.trans (World.drewN_drewN _ _ _) (congrArg (World.drewN _) (Nat.add_assoc _ _ _))⟩))); try go_wp2_with (first | (go_at_call 123; (with_reducible refine (impl_has.calls a1 x14_1 false _ A10.out).mono ?_); rintro e w' ⟨rfl, ⟨nd, rfl⟩⟩; (try first | exact ⟨rfl, _, World.drewN_drewN _ _ _⟩ | exact ⟨rfl, _, Eq.trans (World.drewN_drewN _ _ _) (congrArg (World.drewN _) (Nat.add_assoc _ _ _))⟩))))
        go_roundg k1
        case measure => have := HK1.out; omega
        case rel => exact ⟨(wrap64 (x14_1 + 1)), (by first | rfl | (simp; done) | (simp [*]; done)), H', ⟨by have := HK1.out; omega⟩, ⟨by (first | exact bp BK101.out | exact BK101.out)⟩, ⟨by repeat (first | (with_reducible first | exact HB.out | apply ba | apply bd | apply be | refine bs ?_ GE101.out) | exact HB.out)⟩⟩
      ·rw [if_neg c9] at H
       have c9b0 : decide (x14_1 < a0_0) = false := decide_eq_false c9
       clear c9
       obtain rfl := Option.some.inj H
       go_wp2
       repeat (go_quiet (fail); try go_wp2)
       go_ret
       exact ⟨by first | rfl | (simp <;> rfl) | (simp [*] <;> rfl), by repeat (first | (with_reducible first | exact HB.out | apply ba | apply bd | apply be | refine bs ?_ GE101.out) | exact HB.out)⟩
   ·replace c6 := Bool.eq_false_iff.mpr c6
    subst c6
    have H1 : (some false) = some r := by rw [if_neg (show ¬ (false = true) by decide)] at H; exact H
    clear H
    have H := H1
    clear H1
    obtain rfl := Option.some.inj H
    go_enter Try.func120, Try.ntmps120
    go_wp2_with (first | ((with_reducible refine gate_dst (N := 2) rfl ?_); refine box_event ?hg (N := 2) ?hd (cs := #[.int .i64 a0_0, .slice A0_1 l0_1.length c0_1]) (t := 65) ?hr ?_; (case hd => rfl); (case hg => rfl); (case hr => first | (go_simp; done) | (go_simp; rfl)); intro gb101 hg w20 hbox hb; have n0_ := Aside0.mk (below_step (by repeat (first | (with_reducible first | exact HB.out | apply ba | apply bd | apply be) | exact HB.out)) hb); have n1_ := Aside0.mk (hbox); have n2_ := Aside0.mk ((by rw [hg]; exact (below_size (by repeat (first | (with_reducible first | exact HB.out | apply ba | apply bd | apply be) | exact HB.out))) : w.heap.size ≤ gb101)); have n3_ := Aside0.mk ((by rw [hg]; exact (below_size (by repeat (first | (with_reducible first | exact HB.out | apply ba | apply bd | apply be) | exact HB.out))) : w.heap.size ≤ gb101)); clear HB; have HB := n0_; have BK101 := n1_; have GW101 := n2_; have GE101 := n3_; clear n0_ n1_ n2_ n3_; clear hb hbox hg; have hcz21_0 : w20.cell? ⟨gb101, 0, none⟩ = some (.int .i64 a0_0) := (blk_cell BK101.out 0).trans rfl; have hcz21_1 : w20.cell? ⟨gb101, 1, none⟩ = some (.slice A0_1 l0_1.length c0_1) := (blk_cell BK101.out 1).trans rfl; have hfz21_0 := blk_frozen BK101.out 0; have hfz21_1 := blk_frozen BK101.out 1; have p102 : 0 ≤ (a1 : Int) := of_decide_eq_true (by first | (with_reducible assumption) | assumption); have q102 : a1 < (l0_1.length : Int) := of_decide_eq_true (by first | (with_reducible assumption) | assumption); obtain ⟨ad102, e102, hx102_0⟩ := Kd.at_bool HR0_1.out a1 p102 q102; (try rw [← Nbq5.out] at hx102_0); cases e102; replace hx102_0 := (HB.out.cell (World.block_lt_of_cell? w _ hx102_0)).trans hx102_0; replace p102 := eq_true p102; replace q102 := eq_true q102))
    repeat (go_quiet (first | ((with_reducible refine gate_dst (N := 2) rfl ?_); refine box_event ?hg (N := 2) ?hd (cs := #[.int .i64 a0_0, .slice A0_1 l0_1.length c0_1]) (t := 65) ?hr ?_; (case hd => rfl); (case hg => rfl); (case hr => first | (go_simp; done) | (go_simp; rfl)); intro gb101 hg w20 hbox hb; have n0_ := Aside0.mk (below_step (by repeat (first | (with_reducible first | exact HB.out | apply ba | apply bd | apply be) | exact HB.out)) hb); have n1_ := Aside0.mk (hbox); have n2_ := Aside0.mk ((by rw [hg]; exact (below_size (by repeat (first | (with_reducible first | exact HB.out | apply ba | apply bd | apply be) | exact HB.out))) : w.heap.size ≤ gb101)); have n3_ := Aside0.mk ((by rw [hg]; exact (below_size (by repeat (first | (with_reducible first | exact HB.out | apply ba | apply bd | apply be) | exact HB.out))) : w.heap.size ≤ gb101)); clear HB; have HB := n0_; have BK101 := n1_; have GW101 := n2_; have GE101 := n3_; clear n0_ n1_ n2_ n3_; clear hb hbox hg; have hcz21_0 : w20.cell? ⟨gb101, 0, none⟩ = some (.int .i64 a0_0) := (blk_cell BK101.out 0).trans rfl; have hcz21_1 : w20.cell? ⟨gb101, 1, none⟩ = some (.slice A0_1 l0_1.length c0_1) := (blk_cell BK101.out 1).trans rfl; have hfz21_0 := blk_frozen BK101.out 0; have hfz21_1 := blk_frozen BK101.out 1; have p102 : 0 ≤ (a1 : Int) := of_decide_eq_true (by first | (with_reducible assumption) | assumption); have q102 : a1 < (l0_1.length : Int) := of_decide_eq_true (by first | (with_reducible assumption) | assumption); obtain ⟨ad102, e102, hx102_0⟩ := Kd.at_bool HR0_1.out a1 p102 q102; (try rw [← Nbq5.out] at hx102_0); cases e102; replace hx102_0 := (HB.out.cell (World.block_lt_of_cell? w _ hx102_0)).trans hx102_0; replace p102 := eq_true p102; replace q102 := eq_true q102)); try go_wp2_with (first | ((with_reducible refine gate_dst (N := 2) rfl ?_); refine box_event ?hg (N := 2) ?hd (cs := #[.int .i64 a0_0, .slice A0_1 l0_1.length c0_1]) (t := 65) ?hr ?_; (case hd => rfl); (case hg => rfl); (case hr => first | (go_simp; done) | (go_simp; rfl)); intro gb101 hg w20 hbox hb; have n0_ := Aside0.mk (below_step (by repeat (first | (with_reducible first | exact HB.out | apply ba | apply bd | apply be) | exact HB.out)) hb); have n1_ := Aside0.mk (hbox); have n2_ := Aside0.mk ((by rw [hg]; exact (below_size (by repeat (first | (with_reducible first | exact HB.out | apply ba | apply bd | apply be) | exact HB.out))) : w.heap.size ≤ gb101)); have n3_ := Aside0.mk ((by rw [hg]; exact (below_size (by repeat (first | (with_reducible first | exact HB.out | apply ba | apply bd | apply be) | exact HB.out))) : w.heap.size ≤ gb101)); clear HB; have HB := n0_; have BK101 := n1_; have GW101 := n2_; have GE101 := n3_; clear n0_ n1_ n2_ n3_; clear hb hbox hg; have hcz21_0 : w20.cell? ⟨gb101, 0, none⟩ = some (.int .i64 a0_0) := (blk_cell BK101.out 0).trans rfl; have hcz21_1 : w20.cell? ⟨gb101, 1, none⟩ = some (.slice A0_1 l0_1.length c0_1) := (blk_cell BK101.out 1).trans rfl; have hfz21_0 := blk_frozen BK101.out 0; have hfz21_1 := blk_frozen BK101.out 1; have p102 : 0 ≤ (a1 : Int) := of_decide_eq_true (by first | (with_reducible assumption) | assumption); have q102 : a1 < (l0_1.length : Int) := of_decide_eq_true (by first | (with_reducible assumption) | assumption); obtain ⟨ad102, e102, hx102_0⟩ := Kd.at_bool HR0_1.out a1 p102 q102; (try rw [← Nbq5.out] at hx102_0); cases e102; replace hx102_0 := (HB.out.cell (World.block_lt_of_cell? w _ hx102_0)).trans hx102_0; replace p102 := eq_true p102; replace q102 := eq_true q102)))
    go_ret
    exact ⟨by first | rfl | (simp <;> rfl) | (simp [*] <;> rfl), by repeat (first | (with_reducible first | exact HB.out | apply ba | apply bd | apply be | refine bs ?_ GE101.out) | exact HB.out)⟩
  ·rw [if_neg c4] at H
   exact absurd H (by simp)
 ·rw [if_neg c3] at H
  exact absurd H (by simp)

end Go.Proofs.Yticnoiflccbhcaa.Q

namespace Go.Proofs.Yticnoiflccbhcaa.Q
open Go.RowKit Go.Proofs.YticnoiflccbhcaaW.PrintWords Go.Proofs.YticnoiflccbhcaaW.PrintLast Go.Proofs.YticnoiflccbhcaaW.PrintMore
attribute [local go_sem] max2_int min2_int max_two min_two max_three min_three max_four min_four   -- for this text's walks alone
set_option linter.unusedVariables false
set_option linter.unusedSimpArgs false

/-! ### impl_votes_least: function 84 (given) -/
def impl_votes_least.f (k : Nat) (a0_0 : Int) (l0_1 : List Bool) : Option (List (List Int)) := impl_votes_sets.g k l0_1 (fun x => impl_votes_isLeast.f k a0_0 l0_1 x)
theorem impl_votes_least.mono : ∀ a0 a1 k, LeO (impl_votes_least.f k a0 a1) (impl_votes_least.f (k + 1) a0 a1) := by
  intro a0 a1 k
  exact impl_votes_sets.mono_p (fun x => impl_votes_isLeast.mono _ _ _ _) _ _
set_option maxHeartbeats 8000000 in
set_option maxRecDepth 100000 in
theorem impl_votes_least.calls (k : Nat) (a0_0 : Int) (A0_1 : Option Addr) (c0_1 : Nat) (l0_1 : List Bool) (r : List (List Int)) (w : World) (hr0_1 : Kd.C Kd.bool w A0_1 l0_1.length l0_1) (hc0_1 : l0_1.length ≤ c0_1) (h : impl_votes_least.f k a0_0 l0_1 = some r) :
    Calls Try.prog 84 #[.agg #[.int .i64 a0_0, .slice A0_1 l0_1.length c0_1]] w fun e w' => ∃ v0_ : Value, e = .returned (v0_) ∧ Kd.S (Kd.slice 3 (Kd.int .i64)) 22 w' w.heap.size (fun _ => True) v0_ r ∧ Below w.heap.size w w' := by
  have eg : ∀ args w, (callFunc 120 args).run Try.prog w = .ok (.enter 120 args) w := enters_of Try.func120 (by kernel_rfl) rfl
  have hmf : ∀ (fn : Fn) (first cap : Array Value) (w : World), (Instr.makeFunc fn first cap).run Try.prog w = .ok (.func fn first cap) w := fun _ _ _ _ => rfl
  have huV := Try.underlying65
  have HR := Aside0.mk hr0_1
  have HC := Aside0.mk hc0_1
  have H := Aside0.mk h
  clear hr0_1 hc0_1 h
  go_enter Try.func84, Try.ntmps84
  go_wp2_with fail
  have hB1 : Below w.heap.size w (w.alloc (.cells #[.int .i64 a0_0, .slice A0_1 l0_1.length c0_1] 65)) := (Below.refl _ _).alloc (Nat.le_refl _) _
  refine (impl_votes_sets.hof k a0_0 A0_1 c0_1 l0_1 (fun x => impl_votes_isLeast.f k a0_0 l0_1 x) 120 #[.agg #[.int .i64 a0_0, .slice A0_1 l0_1.length c0_1]] #[] r _ (Kd.C_below HR.out hB1) eg ?_ H.out).mono ?_
  · intro W x b hb _ _ hx
    exact impl_votes_isLeast.calls k a0_0 A0_1 c0_1 l0_1 x b W (Kd.C_below HR.out (hB1.trans (hb.mono hB1.size))) HC.out hx
  · rintro e w' ⟨v1, rfl, hS, hb⟩
    have HS := Aside0.mk (Kd.S_lower hS hB1.size)
    have HBN := Aside0.mk (hB1.trans (hb.mono hB1.size))
    clear hS hb hB1
    go_wp2
    go_ret
    exact ⟨_, rfl, HS.out, HBN.out⟩

end Go.Proofs.Yticnoiflccbhcaa.Q

namespace Go.Proofs.Yticnoiflccbhcaa.Q
open Go.RowKit Go.Proofs.YticnoiflccbhcaaW.PrintWords Go.Proofs.YticnoiflccbhcaaW.PrintLast Go.Proofs.YticnoiflccbhcaaW.PrintMore Go.Proofs.YticnoiflccbhcaaM
set_option linter.unusedVariables false
set_option linter.unusedSimpArgs false
theorem impl_votes_isLeast.ev_l (W : List Bool) (n m : Nat) (hW : W.length = 2 ^ n) (hn : n ≤ 18) (hm : m < 2 ^ n) : ∀ (d i : Nat), i + d = n → Ev (fun k => impl_votes_isLeast.l0 k (m : Int) (n : Int) (i : Int) (n : Int) W) ((List.range' i d).all fun i => !(bitB m i) || !(W.getD (m - 2 ^ i) false)) := by
  have hp : 2 ^ n ≤ 2 ^ 18 := Nat.pow_le_pow_right (by omega) hn
  intro d
  induction d with
  | zero =>
    intro i h
    refine ev_step ?_
    simp only [impl_votes_isLeast.l0]
    rw [ev_neg (by omega), ev_now]
    rfl
  | succ d ih =>
    intro i h
    refine ev_step ?_
    simp only [impl_votes_isLeast.l0]
    have hih := ih (i + 1) (by omega)
    rw [ev_pos (by omega), ev_bind (ev_of (show impl_has.f (m : Int) (i : Int) = some (bitB m i) from impl_has.v m i (by omega) (by omega))), w64 (by omega) (by omega), List.range'_succ, List.all_cons]
    by_cases hb : bitB m i = true
    · have hpi : 2 ^ i ≤ 2 ^ n := Nat.pow_le_pow_right (by omega) (by omega)
      have hsub : m - 2 ^ i < W.length := by rw [hW]; exact Nat.lt_of_le_of_lt (Nat.sub_le _ _) hm
      rw [ev_pos hb, ev_pos (by omega), shl_one i (by omega), andNot_pow m i (by omega) (by omega) hb, ev_pos (Int.natCast_nonneg _), ev_pos (Int.ofNat_lt.2 hsub), rdOf_nat, hb]
      cases hw : W.getD (m - 2 ^ i) false with
      | true =>
        rw [ev_pos rfl, ev_now]
        rfl
      | false =>
        rw [ev_neg (by decide)]
        exact hih
    · rw [ev_neg hb, Bool.eq_false_iff.2 hb]
      exact hih
theorem impl_votes_isLeast.ev (W : List Bool) (n m : Nat) (hW : W.length = 2 ^ n) (hn : n ≤ 18) (hm : m < 2 ^ n) : Ev (fun k => impl_votes_isLeast.f k (n : Int) W (m : Int)) (leastB W n m) := by
  simp only [impl_votes_isLeast.f]
  rw [ev_pos (by omega), ev_pos (by omega), rdOf_nat, leastB]
  cases hw : W.getD m false with
  | true =>
    rw [ev_pos rfl, Bool.true_and, List.range_eq_range']
    exact impl_votes_isLeast.ev_l W n m hW hn hm n 0 (by omega)
  | false =>
    rw [ev_neg (by decide), ev_now]
    rfl
theorem impl_votes_sets.at_l (W : List Bool) (hW : W.length ≤ 1000000) (P : Int → Option Bool) (p : Nat → Bool) (K : Nat) (hP : ∀ m, m < W.length → P (m : Int) = some (p m)) (hS : ∀ k, K ≤ k → ∀ m, m < W.length → impl_setOf.f k (m : Int) = some (setN m)) : ∀ (d i k : Nat), i + d = W.length → K + d < k → impl_votes_sets.l0 k P W (takeL p i) (i : Int) = some (takeL p W.length) := by
  intro d
  induction d with
  | zero =>
    intro i k h hk
    obtain ⟨k, rfl⟩ : ∃ j, k = j + 1 := ⟨k - 1, by omega⟩
    simp only [impl_votes_sets.l0]
    rw [if_neg (by omega), show i = W.length by omega]
  | succ d ih =>
    intro i k h hk
    obtain ⟨k, rfl⟩ : ∃ j, k = j + 1 := ⟨k - 1, by omega⟩
    have hi : i < W.length := by omega
    have hl := takeL_len p i
    have hih := ih (i + 1) k (by omega) (by omega)
    rw [takeL_succ] at hih
    simp only [impl_votes_sets.l0]
    rw [if_pos (by omega), hP i hi, Option.bind_some, w64 (by omega) (by omega), hS k (by omega) i hi, Option.bind_some]
    cases hp : p i with
    | true =>
      rw [hp, if_pos rfl] at hih
      rw [if_pos rfl, if_pos (by omega)]
      exact hih
    | false =>
      rw [hp, if_neg (by decide)] at hih
      rw [if_neg (by decide)]
      exact hih
theorem impl_votes_sets.ev (W : List Bool) (hW : W.length ≤ 1000000) (P : Nat → Int → Option Bool) (p : Nat → Bool) (hP : ∀ m, m < W.length → Ev (fun k => P k (m : Int)) (p m)) : Ev (fun k => impl_votes_sets.g k W (P k)) (Go.Proofs.YticnoiflccbhcaaS.sortL (takeL p W.length)) := by
  obtain ⟨K1, h1⟩ := ev_all W.length (fun k m => P k (m : Int)) p hP
  obtain ⟨K2, h2⟩ := ev_all W.length (fun k m => impl_setOf.f k (m : Int)) setN (fun m hm => impl_setOf.ev m (by omega))
  refine ⟨max K1 (K2 + W.length + 1), fun k hk => ?_⟩
  have hl := takeL_len p W.length
  simp only [impl_votes_sets.g]
  rw [show impl_votes_sets.l0 k (P k) W [] 0 = some (takeL p W.length) from impl_votes_sets.at_l W hW (P k) p K2 (fun m hm => h1 k (by omega) m hm) h2 W.length 0 k (by omega) (by omega), Option.bind_some, if_pos (by omega)]
theorem impl_votes_least.ev (W : List Bool) (n : Nat) (hW : W.length = 2 ^ n) (hn : n ≤ 18) : Ev (fun k => impl_votes_least.f k (n : Int) W) (Go.Proofs.YticnoiflccbhcaaS.sortL (takeL (leastB W n) W.length)) := by
  have hp : 2 ^ n ≤ 2 ^ 18 := Nat.pow_le_pow_right (by omega) hn
  exact impl_votes_sets.ev W (by omega) (fun k x => impl_votes_isLeast.f k (n : Int) W x) (leastB W n) (fun m hm => impl_votes_isLeast.ev W n m hW hn (by omega))
theorem sortL_in {P : Nat → Bool} {n N : Nat} (hN : N ≤ 2 ^ n) (hn : n ≤ 62) : ∀ x ∈ Go.Proofs.YticnoiflccbhcaaS.sortL (takeL P N), x.length ≤ n ∧ ∀ y ∈ x, 0 ≤ y ∧ y < (n : Int) := by
  intro x hx
  obtain ⟨a, ha, _, rfl⟩ := takeL_mem x ((Go.Proofs.YticnoiflccbhcaaS.sortL_perm _).mem_iff.1 hx)
  rw [setN_to (m := a) (n := n) (by omega) hn]
  exact ⟨setTo_len a n, fun y hy => by have := setTo_in y hy; omega⟩
theorem sortL_len (xs : List (List Int)) : (Go.Proofs.YticnoiflccbhcaaS.sortL xs).length = xs.length := (Go.Proofs.YticnoiflccbhcaaS.sortL_perm xs).length_eq
end Go.Proofs.Yticnoiflccbhcaa.Q

namespace Go.Proofs.Yticnoiflccbhcaa.Q
open Go.RowKit Go.Proofs.YticnoiflccbhcaaW.PrintWords Go.Proofs.YticnoiflccbhcaaW.PrintLast Go.Proofs.YticnoiflccbhcaaW.PrintMore Go.Proofs.YticnoiflccbhcaaM
set_option linter.unusedVariables false
set_option linter.unusedSimpArgs false
theorem sortL_few {P : Nat → Bool} {q : Int} {ws : List Int} (h : GoodC q ws) {N : Nat} (hN : N = 2 ^ ws.length) : (Go.Proofs.YticnoiflccbhcaaS.sortL (takeL P N)).length ≤ 512 ∧ ∀ s ∈ Go.Proofs.YticnoiflccbhcaaS.sortL (takeL P N), s.length ≤ 9 := by
  have hp := h.pow
  have h9 := h.l9
  have hlen := takeL_len P N
  exact ⟨by rw [sortL_len]; omega, fun s hs => by have := (sortL_in (n := ws.length) (by omega) (by omega) s hs).1; omega⟩
end Go.Proofs.Yticnoiflccbhcaa.Q

namespace Go.Proofs.Yticnoiflccbhcaa.Q
open Go.RowKit Go.Proofs.YticnoiflccbhcaaW.PrintWords Go.Proofs.YticnoiflccbhcaaW.PrintLast Go.Proofs.YticnoiflccbhcaaW.PrintMore Go.Proofs.YticnoiflccbhcaaM
set_option linter.unusedVariables false
set_option linter.unusedSimpArgs false
theorem spec_voSum.ev_l (l : List Int) (hl : l.length ≤ 9223372036854775807) : ∀ (d i : Nat) (s : Int), i + d = l.length → Ev (fun k => spec_voSum.l0 k s l (l.length : Int) (i : Int)) (wfold (l.drop i) s) := by
  intro d
  induction d with
  | zero =>
    intro i s h
    refine ev_step ?_
    simp only [spec_voSum.l0]
    rw [ev_neg (by omega), ev_now, List.drop_of_length_le (by omega)]
    rfl
  | succ d ih =>
    intro i s h
    refine ev_step ?_
    simp only [spec_voSum.l0]
    have hi : i < l.length := by omega
    rw [ev_pos (by omega), ev_pos (by omega), ev_pos (by omega), w64i (n := l.length) (by omega) (by omega) hl, rd_lt l i hi, wfold_take l i hi]
    exact ih (i + 1) _ (by omega)
theorem spec_voSum.ev (l : List Int) (hl : l.length ≤ 9223372036854775807) : Ev (fun k => spec_voSum.f k l) (wfold l 0) := spec_voSum.ev_l l hl l.length 0 0 (by omega)
end Go.Proofs.Yticnoiflccbhcaa.Q

namespace Go.Proofs.Yticnoiflccbhcaa.Q
open Go.RowKit Go.Proofs.YticnoiflccbhcaaW.PrintWords Go.Proofs.YticnoiflccbhcaaW.PrintLast Go.Proofs.YticnoiflccbhcaaW.PrintMore Go.Proofs.YticnoiflccbhcaaM
set_option linter.unusedVariables false
set_option linter.unusedSimpArgs false
theorem spec_l1In.v (a b c : Int) : spec_l1In.f a b c = some (decide (b ≤ a) && decide (a ≤ c)) := by
  unfold spec_l1In.f
  by_cases h : b ≤ a
  · rw [if_pos h]; simp [h]
  · rw [if_neg h]; simp [h]
theorem spec_l1All.ev_l (l : List Int) (lo hi : Int) (hl : l.length ≤ 9223372036854775807) : ∀ (d i : Nat), i + d = l.length → Ev (fun k => spec_l1All.l0 k lo hi l (l.length : Int) (i : Int)) ((l.drop i).all fun x => decide (lo ≤ x) && decide (x ≤ hi)) := by
  intro d
  induction d with
  | zero =>
    intro i h
    refine ev_step ?_
    simp only [spec_l1All.l0]
    rw [ev_neg (by omega), ev_now, List.drop_of_length_le (by omega)]
    rfl
  | succ d ih =>
    intro i h
    refine ev_step ?_
    simp only [spec_l1All.l0]
    have hi' : i < l.length := by omega
    rw [ev_pos (by omega), ev_pos (by omega), ev_pos (by omega), w64i (n := l.length) (by omega) (by omega) hl, rd_lt l i hi', List.drop_eq_getElem_cons hi', List.all_cons, ev_bind (ev_of (spec_l1In.v _ _ _))]
    cases hb : (decide (lo ≤ l[i]) && decide (l[i] ≤ hi)) with
    | true =>
      rw [ev_pos rfl, Bool.true_and]
      exact ih (i + 1) (by omega)
    | false =>
      rw [ev_neg (by decide), ev_now]
      rfl
theorem spec_l1All.ev (l : List Int) (lo hi : Int) (hl : l.length ≤ 9223372036854775807) : Ev (fun k => spec_l1All.f k l lo hi) (l.all fun x => decide (lo ≤ x) && decide (x ≤ hi)) := spec_l1All.ev_l l lo hi hl l.length 0 (by omega)
theorem spec_voGood.ev (q : Int) (l : List Int) (hl : l.length ≤ 9223372036854775807) : Ev (fun k => spec_voGood.f k q l) (goodB q l) := by
  simp only [spec_voGood.f]
  rw [ev_bind (ev_of (spec_l1In.v _ _ _))]
  unfold goodB
  by_cases h1 : 1 ≤ (l.length : Int) ∧ (l.length : Int) ≤ 9
  · rw [ev_pos (by simp [h1]), ev_bind (spec_l1All.ev l 0 1000 hl)]
    refine ev_step ?_
    simp only [spec_voGood.j0]
    cases hb : (l.all fun x => decide (0 ≤ x) && decide (x ≤ 1000)) with
    | true =>
      rw [ev_neg (by simp), ev_bind (spec_voSum.ev l hl), ev_bind (ev_of (spec_l1In.v _ _ _)), ev_now, wfold_w l (by omega) hb]
      have e1 : 1 ≤ l.length := by omega
      have e2 : l.length ≤ 9 := by omega
      simp [e1, e2]
    | false =>
      rw [ev_pos (by simp), ev_now]
      simp
  · rw [ev_neg (by simpa using h1)]
    refine ev_step ?_
    simp only [spec_voGood.j0]
    rw [ev_pos (by simp), ev_now]
    have : ¬ (1 ≤ l.length ∧ l.length ≤ 9) := by omega
    by_cases e1 : 1 ≤ l.length
    · have e2 : ¬ l.length ≤ 9 := by omega
      simp [e2]
    · simp [e1]
end Go.Proofs.Yticnoiflccbhcaa.Q

namespace Go.Proofs.Yticnoiflccbhcaa.Q
open Go.RowKit Go.Proofs.YticnoiflccbhcaaW.PrintWords Go.Proofs.YticnoiflccbhcaaW.PrintLast Go.Proofs.YticnoiflccbhcaaW.PrintMore Go.Proofs.YticnoiflccbhcaaM
set_option linter.unusedVariables false
set_option linter.unusedSimpArgs false
theorem spec_voList.ev_l (m : Nat) (hm : m < 2 ^ 62) : ∀ (d i : Nat), i + d = 62 → Ev (fun k => spec_voList.l0 k (m : Int) (setTo m i) (i : Int)) (setN m) := by
  intro d
  induction d with
  | zero =>
    intro i h
    refine ev_step ?_
    simp only [spec_voList.l0]
    have e : m / 2 ^ i = 0 := by rw [show i = 62 by omega]; exact Nat.div_eq_of_lt hm
    rw [ev_pos (by omega), shr_nat m i (by omega), e, ev_neg (by omega), ev_now, setTo_done e (by omega)]
  | succ d ih =>
    intro i h
    refine ev_step ?_
    simp only [spec_voList.l0]
    have hl := setTo_len m i
    have et : Int.tmod ((m / 2 ^ i : Nat) : Int) 2 = ((m / 2 ^ i % 2 : Nat) : Int) := (Int.ofNat_tmod (m / 2 ^ i) 2).symm
    rw [ev_pos (by omega), shr_nat m i (by omega), w64 (by omega) (by omega)]
    by_cases e : m / 2 ^ i = 0
    · rw [ev_neg (by omega), ev_now, setTo_done e (by omega)]
    · rw [ev_pos (Int.natCast_pos.2 (Nat.pos_of_ne_zero e)), et]
      have := ih (i + 1) (by omega)
      rw [setTo_succ] at this
      by_cases hb : m / 2 ^ i % 2 = 1
      · rw [if_pos (by simp [bitB, hb])] at this
        rw [ev_pos (by rw [hb]; rfl), ev_pos (by omega)]
        exact this
      · rw [if_neg (by simp [bitB]; omega)] at this
        rw [ev_neg (c := ((m / 2 ^ i % 2 : Nat) : Int) = 1) (fun h_ => hb (Int.ofNat_inj.1 h_))]
        exact this
theorem spec_voList.ev (m : Nat) (hm : m < 2 ^ 62) : Ev (fun k => spec_voList.f k (m : Int)) (setN m) := spec_voList.ev_l m hm 62 0 (by omega)
end Go.Proofs.Yticnoiflccbhcaa.Q

namespace Go.Proofs.Yticnoiflccbhcaa.Q
open Go.RowKit Go.Proofs.YticnoiflccbhcaaW.PrintWords Go.Proofs.YticnoiflccbhcaaW.PrintLast Go.Proofs.YticnoiflccbhcaaW.PrintMore Go.Proofs.YticnoiflccbhcaaM
set_option linter.unusedVariables false
set_option linter.unusedSimpArgs false
theorem spec_voBefore.ev_l (a b : List Int) (ha : a.length ≤ 9223372036854775807) : ∀ (d i : Nat), i + d = a.length → i ≤ b.length → Ev (fun k => spec_voBefore.l0 k a b (i : Int)) (decide (cmpL (a.drop i) (b.drop i) < 0)) := by
  intro d
  induction d with
  | zero =>
    intro i h hb
    refine ev_step ?_
    simp only [spec_voBefore.l0]
    rw [ev_neg (by omega)]
    refine ev_step ?_
    simp only [spec_voBefore.j1]
    rw [ev_neg (by simp), ev_now, List.drop_of_length_le (by omega)]
    by_cases hc : (a.length : Int) < (b.length : Int)
    · rw [decide_eq_true hc, List.drop_eq_getElem_cons (by omega)]
      rfl
    · rw [decide_eq_false hc, List.drop_of_length_le (by omega)]
      rfl
  | succ d ih =>
    intro i h hb
    refine ev_step ?_
    simp only [spec_voBefore.l0]
    have hi : i < a.length := by omega
    rw [ev_pos (by omega)]
    refine ev_step ?_
    simp only [spec_voBefore.j1]
    by_cases hc : (i : Int) < (b.length : Int)
    · have hib : i < b.length := by omega
      rw [ev_pos (decide_eq_true hc), ev_pos (by omega), ev_pos (by omega), ev_pos (by omega), rd_lt a i hi, rd_lt b i hib, w64i (n := a.length) (by omega) (by omega) ha, List.drop_eq_getElem_cons hi, List.drop_eq_getElem_cons hib]
      by_cases h1 : a[i] = b[i]
      · have e : cmpL (a[i] :: a.drop (i + 1)) (b[i] :: b.drop (i + 1)) = cmpL (a.drop (i + 1)) (b.drop (i + 1)) := by simp only [cmpL]; rw [if_neg (by omega), if_neg (by omega)]
        rw [ev_pos h1, e]
        exact ih (i + 1) (by omega) (by omega)
      · rw [ev_neg h1, ev_now]
        by_cases h2 : a[i] < b[i]
        · have e : cmpL (a[i] :: a.drop (i + 1)) (b[i] :: b.drop (i + 1)) = -1 := by simp only [cmpL]; rw [if_pos h2]
          rw [e, decide_eq_true h2]; rfl
        · have e : cmpL (a[i] :: a.drop (i + 1)) (b[i] :: b.drop (i + 1)) = 1 := by simp only [cmpL]; rw [if_neg h2, if_pos (by omega)]
          rw [e, decide_eq_false h2]; rfl
    · rw [ev_neg (by simp; omega), ev_now, List.drop_eq_getElem_cons hi, List.drop_of_length_le (by omega : b.length ≤ i), decide_eq_false (by omega)]
      rfl
theorem spec_voBefore.ev (a b : List Int) (ha : a.length ≤ 9223372036854775807) : Ev (fun k => spec_voBefore.f k a b) (decide (cmpL a b < 0)) := spec_voBefore.ev_l a b ha a.length 0 (by omega) (by omega)
end Go.Proofs.Yticnoiflccbhcaa.Q

namespace Go.Proofs.Yticnoiflccbhcaa.Q
open Go.RowKit Go.Proofs.YticnoiflccbhcaaW.PrintWords Go.Proofs.YticnoiflccbhcaaW.PrintLast Go.Proofs.YticnoiflccbhcaaW.PrintMore Go.Proofs.YticnoiflccbhcaaM
set_option linter.unusedVariables false
set_option linter.unusedSimpArgs false
def upL (xs : List (List Int)) : Prop := xs.Pairwise fun a b => cmpL a b ≤ 0
theorem upL_sorted {xs ys : List (List Int)} (hp : ys.Perm xs) (h : upL ys) : ys = Go.Proofs.YticnoiflccbhcaaS.sortL xs := by
  refine Go.Proofs.YticnoiflccbhcaaS.sortL_of hp (List.Pairwise.imp (fun {a b} hab => ?_) h)
  have := cmpL_swap a b
  show decide (cmpL b a < 0) = false
  exact decide_eq_false (by omega)
theorem upL_insert {xs : List (List Int)} {s : List Int} {y : Nat} (h : upL xs) (h1 : ∀ j (hj : j < xs.length), j < y → cmpL xs[j] s < 0) (h2 : ∀ hy : y < xs.length, ¬ (cmpL xs[y] s < 0)) : upL (xs.take y ++ s :: xs.drop y) := by
  have hp := h
  rw [← List.take_append_drop y xs, upL, List.pairwise_append] at hp
  rw [upL, List.pairwise_append, List.pairwise_cons]
  have hd : ∀ b ∈ xs.drop y, cmpL s b ≤ 0 := by
    intro b hb
    obtain ⟨j, hj, rfl⟩ := List.getElem_of_mem hb
    rw [List.length_drop] at hj
    have hy : y < xs.length := by omega
    rw [List.getElem_drop]
    have h3 := h2 hy
    have h4 := cmpL_swap s xs[y]
    have h5 : cmpL xs[y] xs[y + j] ≤ 0 := by
      rcases Nat.eq_zero_or_pos j with e | e
      · subst e
        simp only [Nat.add_zero]
        rw [cmpL_self]
        omega
      · rw [upL, List.pairwise_iff_getElem] at h
        exact h y (y + j) hy (by omega) (by omega)
    exact cmpL_le_trans s xs[y] xs[y + j] (by omega) h5
  refine ⟨hp.1, ⟨hd, hp.2.1⟩, fun a ha b hb => ?_⟩
  obtain ⟨j, hj, rfl⟩ := List.getElem_of_mem ha
  rw [List.length_take] at hj
  rw [List.getElem_take]
  have h3 := h1 j (by omega) (by omega)
  rcases List.mem_cons.1 hb with rfl | hb
  · omega
  · exact cmpL_le_trans _ s b (by omega) (hd b hb)
theorem spec_voSorted.ev_l1 (l : List (List Int)) (hl : l.length < 1000000) (hx : ∀ x ∈ l, x.length ≤ 9223372036854775807) (i : Nat) (hi : i < l.length) (out : List (List Int)) (ho : out.length = i) (hup : upL out) (hpm : out.Perm (l.take i)) (hnext : ∀ out' : List (List Int), out'.length = i + 1 → upL out' → out'.Perm (l.take (i + 1)) → Ev (fun k => spec_voSorted.l0 k out' l ((i : Int) + 1)) (Go.Proofs.YticnoiflccbhcaaS.sortL l)) : ∀ (d y : Nat), y + d = out.length → (∀ j (hj : j < out.length), j < y → cmpL out[j] l[i] < 0) → Ev (fun k => spec_voSorted.l1 k out l (i : Int) l[i] (y : Int)) (Go.Proofs.YticnoiflccbhcaaS.sortL l) := by
  have hgo : ∀ y : Nat, y ≤ out.length → (∀ j (hj : j < out.length), j < y → cmpL out[j] l[i] < 0) → (∀ hy : y < out.length, ¬ (cmpL out[y] l[i] < 0)) → Ev (fun k => if out.length < 5000000000000 then spec_voSorted.l0 k (out.take ((y : Int)).toNat ++ l[i] :: out.drop ((y : Int)).toNat) l (wrap64 ((i : Int) + 1)) else none) (Go.Proofs.YticnoiflccbhcaaS.sortL l) := by
    intro y hy h1 h2
    rw [ev_pos (by omega), Int.toNat_natCast, w64 (by omega) (by omega)]
    refine hnext _ ?_ (upL_insert hup h1 h2) ?_
    · rw [List.length_append, List.length_cons, List.length_take, List.length_drop]
      omega
    · refine List.perm_middle.trans ?_
      rw [List.take_append_drop, List.take_succ_eq_append_getElem hi]
      exact (List.Perm.cons _ hpm).trans (List.perm_append_singleton _ _).symm
  intro d
  induction d with
  | zero =>
    intro y hy h1
    refine ev_step ?_
    simp only [spec_voSorted.l1]
    rw [ev_neg (by omega)]
    exact hgo y (by omega) h1 (fun h => by omega)
  | succ d ih =>
    intro y hy h1
    refine ev_step ?_
    simp only [spec_voSorted.l1]
    have hyl : y < out.length := by omega
    have hmem : out[y] ∈ l := List.mem_of_mem_take (hpm.mem_iff.1 (List.getElem_mem hyl))
    rw [ev_pos (by omega), rdOf_lt [] out y hyl, ev_bind (spec_voBefore.ev out[y] l[i] (hx _ hmem))]
    by_cases c : cmpL out[y] l[i] < 0
    · rw [ev_pos (decide_eq_true c), w64 (by omega) (by omega)]
      refine ih (y + 1) (by omega) (fun j hj hjy => ?_)
      rcases Nat.lt_or_ge j y with e | e
      · exact h1 j hj e
      · have : j = y := by omega
        subst this
        exact c
    · rw [ev_neg (by simp [c])]
      exact hgo y (by omega) h1 (fun _ => c)
theorem spec_voSorted.ev_l0 (l : List (List Int)) (hl : l.length < 1000000) (hx : ∀ x ∈ l, x.length ≤ 9223372036854775807) : ∀ (d i : Nat) (out : List (List Int)), i + d = l.length → out.length = i → upL out → out.Perm (l.take i) → Ev (fun k => spec_voSorted.l0 k out l (i : Int)) (Go.Proofs.YticnoiflccbhcaaS.sortL l) := by
  intro d
  induction d with
  | zero =>
    intro i out h ho hup hpm
    refine ev_step ?_
    simp only [spec_voSorted.l0]
    rw [List.take_of_length_le (by omega)] at hpm
    rw [ev_neg (by omega), ev_now]
    exact upL_sorted hpm hup
  | succ d ih =>
    intro i out h ho hup hpm
    refine ev_step ?_
    simp only [spec_voSorted.l0]
    have hi : i < l.length := by omega
    rw [ev_pos (by omega), ev_pos (by omega), rdOf_lt [] l i hi]
    exact spec_voSorted.ev_l1 l hl hx i hi out ho hup hpm (fun out' h1 h2 h3 => ih (i + 1) out' (by omega) h1 h2 h3) out.length 0 (by omega) (fun j _ hj => by omega)
theorem spec_voSorted.ev (l : List (List Int)) (hl : l.length < 1000000) (hx : ∀ x ∈ l, x.length ≤ 9223372036854775807) : Ev (fun k => spec_voSorted.f k l) (Go.Proofs.YticnoiflccbhcaaS.sortL l) := spec_voSorted.ev_l0 l hl hx l.length 0 [] (by omega) rfl List.Pairwise.nil (by simp)
end Go.Proofs.Yticnoiflccbhcaa.Q

namespace Go.Proofs.Yticnoiflccbhcaa.Q
open Go.RowKit Go.Proofs.YticnoiflccbhcaaW.PrintWords Go.Proofs.YticnoiflccbhcaaW.PrintLast Go.Proofs.YticnoiflccbhcaaW.PrintMore Go.Proofs.YticnoiflccbhcaaM
set_option linter.unusedVariables false
set_option linter.unusedSimpArgs false
theorem spec_bit (m i : Nat) (hm : m < 2 ^ 62) (hi : i ≤ 62) : Int.tmod (shr .i64 (m : Int) (i : Int)) 2 = ((m / 2 ^ i % 2 : Nat) : Int) := by
  rw [shr_nat m i (by omega)]
  generalize m / 2 ^ i = x
  rw [Int.tmod_eq_emod_of_nonneg (by omega)]
  omega
theorem spec_voWeight.ev_l (q : Int) (ws : List Int) (m : Nat) (hm : m < 2 ^ 62) (hl : ws.length ≤ 60) (hw : ∀ x ∈ ws, 0 ≤ x ∧ x ≤ 1000000000) : ∀ (d i : Nat) (s : Int), i + d = ws.length → 0 ≤ s → s + wsum (ws.drop i) (m / 2 ^ i) ≤ 1000000000000 → Ev (fun k => spec_voWeight.l0 k (m : Int) s ws (ws.length : Int) (i : Int)) (s + wsum (ws.drop i) (m / 2 ^ i)) := by
  intro d
  induction d with
  | zero =>
    intro i s h _ _
    refine ev_step ?_
    simp only [spec_voWeight.l0]
    rw [ev_neg (by omega), ev_now, List.drop_of_length_le (by omega)]
    simp [wsum]
  | succ d ih =>
    intro i s h h0 h1
    refine ev_step ?_
    simp only [spec_voWeight.l0]
    have hi : i < ws.length := by omega
    have hx := hw ws[i] (List.getElem_mem hi)
    have hd : wsum (ws.drop i) (m / 2 ^ i) = (if m / 2 ^ i % 2 = 1 then ws[i] else 0) + wsum (ws.drop (i + 1)) (m / 2 ^ (i + 1)) := by
      rw [wsum_drop ws i _ hi, Nat.div_div_eq_div_mul, ← Nat.pow_succ]
    have hb := wsum_bounds (ws.drop (i + 1)) (fun x hx => (hw x (List.mem_of_mem_drop hx)).1) (m / 2 ^ (i + 1))
    rw [ev_pos (by omega), ev_pos (by omega), ev_pos (by omega), spec_bit m i hm (by omega), w64i (n := ws.length) (by omega) (by omega) (by omega), rd_lt ws i hi, hd]
    rw [hd] at h1
    by_cases hbit : m / 2 ^ i % 2 = 1
    · rw [if_pos hbit] at h1 ⊢
      rw [ev_pos (by rw [hbit]; rfl), w64 (by omega) (by omega), ← Int.add_assoc]
      exact ih (i + 1) (s + ws[i]) (by omega) (by omega) (by omega)
    · rw [if_neg hbit] at h1 ⊢
      rw [ev_neg (by omega), Int.zero_add]
      exact ih (i + 1) s (by omega) h0 (by omega)
theorem spec_voWeight.ev (q : Int) (ws : List Int) (m : Nat) (hm : m < 2 ^ 62) (hl : ws.length ≤ 60) (hw : ∀ x ∈ ws, 0 ≤ x ∧ x ≤ 1000000000) : Ev (fun k => spec_voWeight.f k q ws (m : Int)) (wsum ws m) := by
  have hb := wsum_bounds ws (fun x hx => (hw x hx).1) m
  have hs := sum_bounds ws 1000000000 hw
  have := spec_voWeight.ev_l q ws m hm hl hw ws.length 0 0 (by omega) (by omega) (by simp; omega)
  simpa [spec_voWeight.f] using this
end Go.Proofs.Yticnoiflccbhcaa.Q

namespace Go.Proofs.Yticnoiflccbhcaa.Q
open Go.RowKit Go.Proofs.YticnoiflccbhcaaW.PrintWords Go.Proofs.YticnoiflccbhcaaW.PrintLast Go.Proofs.YticnoiflccbhcaaW.PrintMore Go.Proofs.YticnoiflccbhcaaM
set_option linter.unusedVariables false
set_option linter.unusedSimpArgs false
theorem spec_voAll.v (n : Nat) (hn : n ≤ 60) : spec_voAll.f (n : Int) = some ((2 ^ n - 1 : Nat) : Int) := by
  unfold spec_voAll.f
  have h0 : 0 < 2 ^ n := Nat.two_pow_pos n
  have h : 2 ^ n ≤ 2 ^ 60 := Nat.pow_le_pow_right (by omega) hn
  rw [if_pos (by omega), shl_one n (by omega), w64 (by omega) (by omega)]
  congr 1
  omega
theorem winsL_take (q : Int) (ws : List Int) (m : Nat) (h : m < 2 ^ ws.length) : (winsL q ws).take (m + 1) = (winsL q ws).take m ++ [decide (q ≤ wsum ws m)] := by
  rw [List.take_succ_eq_append_getElem (by rw [winsL_length]; exact h), winsL_get]
theorem spec_voWins.ev_l (q : Int) (ws : List Int) (hl : ws.length ≤ 9) (hw : ∀ x ∈ ws, 0 ≤ x ∧ x ≤ 1000000000) : ∀ (d m : Nat), m + d = 2 ^ ws.length → Ev (fun k => spec_voWins.l0 k ((winsL q ws).take m) (m : Int) q ws) (winsL q ws) := by
  have hp : 2 ^ ws.length ≤ 2 ^ 9 := Nat.pow_le_pow_right (by omega) hl
  have h0 : 0 < 2 ^ ws.length := Nat.two_pow_pos _
  intro d
  induction d with
  | zero =>
    intro m h
    refine ev_step ?_
    simp only [spec_voWins.l0]
    rw [ev_bind (ev_of (spec_voAll.v ws.length (by omega))), ev_neg (by omega), ev_now, List.take_of_length_le (by rw [winsL_length]; omega)]
  | succ d ih =>
    intro m h
    refine ev_step ?_
    simp only [spec_voWins.l0]
    rw [ev_bind (ev_of (spec_voAll.v ws.length (by omega))), ev_pos (by omega), ev_bind (spec_voWeight.ev q ws m (by omega) (by omega) hw), ev_pos (by simp; omega), w64i (n := 512) (by omega) (by omega) (by omega)]
    have := ih (m + 1) (by omega)
    rw [winsL_take q ws m (by omega)] at this
    exact this
theorem spec_voWins.ev (q : Int) (ws : List Int) (hl : ws.length ≤ 9) (hw : ∀ x ∈ ws, 0 ≤ x ∧ x ≤ 1000000000) : Ev (fun k => spec_voWins.f k q ws) (winsL q ws) := by
  have := spec_voWins.ev_l q ws hl hw (2 ^ ws.length) 0 (by omega)
  simpa [spec_voWins.f] using this
end Go.Proofs.Yticnoiflccbhcaa.Q

namespace Go.Proofs.Yticnoiflccbhcaa.Q
open Go.RowKit Go.Proofs.YticnoiflccbhcaaX Go.Proofs.YticnoiflccbhcaaW.PrintWords Go.Proofs.YticnoiflccbhcaaW.PrintLast Go.Proofs.YticnoiflccbhcaaW.PrintMore
attribute [local go_sem] max2_int min2_int max_two min_two max_three min_three max_four min_four   -- for this text's walks alone
set_option linter.unusedVariables false
set_option linter.unusedSimpArgs false

/-! ### impl_votes_isGreatest: function 95 -/
def impl_votes_isGreatest.l0 : Nat → Int → Int → Int → Int → List Bool → Option (Bool)
 | 0, _, _, _, _, _ => none
 | k + 1, x1, x12, x13, x102000, x102001 => if x13 < x12 then ((impl_has.f x1 x13).bind fun t103 => (if t103 = true then (impl_votes_isGreatest.l0 k x1 x12 (wrap64 (x13 + 1)) x102000 x102001) else (if 0 ≤ x13 then (if 0 ≤ (Go.bits .or .i64 x1 (shl .i64 1 x13)) then (if (Go.bits .or .i64 x1 (shl .i64 1 x13)) < (x102001.length : Int) then (if (rdOf false x102001 (Go.bits .or .i64 x1 (shl .i64 1 x13)) = true) then (impl_votes_isGreatest.l0 k x1 x12 (wrap64 (x13 + 1)) x102000 x102001) else (some false)) else (none)) else (none)) else (none)))) else (some true)
def impl_votes_isGreatest.f (k : Nat) (a0_0 : Int) (l0_1 : List Bool) (a1 : Int) : Option (Bool) := if 0 ≤ a1 then (if a1 < (l0_1.length : Int) then (if rdOf false l0_1 a1 = true then (some false) else (impl_votes_isGreatest.l0 k a1 a0_0 0 a0_0 l0_1)) else (none)) else (none)
theorem impl_votes_isGreatest.mono_l : ∀ k, (∀ y0 y1 y2 y3 y4, LeO (impl_votes_isGreatest.l0 k y0 y1 y2 y3 y4) (impl_votes_isGreatest.l0 (k + 1) y0 y1 y2 y3 y4))
 | 0 => fun _ _ _ _ _ r h => by simp [impl_votes_isGreatest.l0] at h
 | k + 1 => by
  have ih0 := impl_votes_isGreatest.mono_l k
  ·intro y0 y1 y2 y3 y4
   unfold impl_votes_isGreatest.l0
   repeat' first
   | (with_reducible exact ih0 _ _ _ _ _)
   | (with_reducible exact LeO.refl _)
   | (with_reducible exact LeO.none _)
   | (with_reducible refine LeO.ite ?_ ?_)
   | (with_reducible refine LeO.bind ?_ (fun _ => ?_))
   | exact ih0 _ _ _ _ _
   | exact LeO.none _
   | refine LeO.ite ?_ ?_
   | refine LeO.bind ?_ (fun _ => ?_)
theorem impl_votes_isGreatest.mono : ∀ a0 a1 a2 k, LeO (impl_votes_isGreatest.f k a0 a1 a2) (impl_votes_isGreatest.f (k + 1) a0 a1 a2) := by
 intro a0 a1 a2 k
 have ih0 := impl_votes_isGreatest.mono_l k
 unfold impl_votes_isGreatest.f
 repeat' first
   | (with_reducible exact ih0 _ _ _ _ _)
   | (with_reducible exact LeO.refl _)
   | (with_reducible exact LeO.none _)
   | (with_reducible refine LeO.ite ?_ ?_)
   | (with_reducible refine LeO.bind ?_ (fun _ => ?_))
   | exact ih0 _ _ _ _ _
   | exact LeO.none _
   | refine LeO.ite ?_ ?_
   | refine LeO.bind ?_ (fun _ => ?_)
set_option maxHeartbeats 8000000 in
set_option maxRecDepth 100000 in
theorem impl_votes_isGreatest.calls (k : Nat) (a0_0 : Int) (A0_1 : Option Addr) (c0_1 : Nat) (l0_1 : List Bool) (a1 : Int) (r : Bool) (w : World) (hr0_1 : Kd.C Kd.bool w A0_1 l0_1.length l0_1) (hc0_1 : l0_1.length ≤ c0_1) (h : impl_votes_isGreatest.f k a0_0 l0_1 a1 = some r) :
  Calls Try.prog 95 #[.agg #[.int .i64 a0_0, .slice A0_1 l0_1.length c0_1], .int .i64 a1] w fun e w' => e = .returned (.bool r) ∧ Below w.heap.size w w' := by
 have hu65 := Try.underlying65
 have HR0_1 := Aside0.mk hr0_1
 have HC0_1 := Aside0.mk hc0_1
 clear hr0_1 hc0_1
 have HB := Aside0.mk (Below.refl w.heap.size w)
 have H : (if 0 ≤ a1 then (if a1 < (l0_1.length : Int) then (if rdOf false l0_1 a1 = true then (some false) else (impl_votes_isGreatest.l0 k a1 a0_0 0 a0_0 l0_1)) else (none)) else (none)) = some r := h
 clear h
 by_cases c3 : 0 ≤ a1
 ·rw [if_pos c3] at H
  have c3b0 : decide (0 ≤ a1) = true := decide_eq_true c3
  clear c3
  by_cases c4 : a1 < (l0_1.length : Int)
  ·rw [if_pos c4] at H
   have c4b0 : decide (a1 < (l0_1.length : Int)) = true := decide_eq_true c4
   clear c4
   obtain ⟨bq5, hbq5⟩ : ∃ b_ : Bool, b_ = (rdOf false l0_1 a1) := ⟨_, rfl⟩
   replace H : (if bq5 = true then (some false) else (impl_votes_isGreatest.l0 k a1 a0_0 0 a0_0 l0_1)) = some r := by rw [← hbq5] at H; exact H
   have Nbq5 := Aside0.mk hbq5
   clear hbq5
   by_cases c6 : bq5 = true
   ·subst c6
    have H1 : (some false) = some r := by rw [if_pos rfl] at H; exact H
    clear H
    have H := H1
    clear H1
    obtain rfl := Option.some.inj H
    go_enter Try.func95, Try.ntmps95
    go_wp2_with (first | ((with_reducible refine gate_dst (N := 2) rfl ?_); refine box_event ?hg (N := 2) ?hd (cs := #[.int .i64 a0_0, .slice A0_1 l0_1.length c0_1]) (t := 65) ?hr ?_; (case hd => rfl); (case hg => rfl); (case hr => first | (go_simp; done) | (go_simp; rfl)); intro gb101 hg w7 hbox hb; have n0_ := Aside0.mk (below_step (by repeat (first | (with_reducible first | exact HB.out | apply ba | apply bd | apply be) | exact HB.out)) hb); have n1_ := Aside0.mk (hbox); have n2_ := Aside0.mk ((by rw [hg]; exact (below_size (by repeat (first | (with_reducible first | exact HB.out | apply ba | apply bd | apply be) | exact HB.out))) : w.heap.size ≤ gb101)); have n3_ := Aside0.mk ((by rw [hg]; exact (below_size (by repeat (first | (with_reducible first | exact HB.out | apply ba | apply bd | apply be) | exact HB.out))) : w.heap.size ≤ gb101)); clear HB; have HB := n0_; have BK101 := n1_; have GW101 := n2_; have GE101 := n3_; clear n0_ n1_ n2_ n3_; clear hb hbox hg; have hcz8_0 : w7.cell? ⟨gb101, 0, none⟩ = some (.int .i64 a0_0) := (blk_cell BK101.out 0).trans rfl; have hcz8_1 : w7.cell? ⟨gb101, 1, none⟩ = some (.slice A0_1 l0_1.length c0_1) := (blk_cell BK101.out 1).trans rfl; have hfz8_0 := blk_frozen BK101.out 0; have hfz8_1 := blk_frozen BK101.out 1; have p102 : 0 ≤ (a1 : Int) := of_decide_eq_true (by first | (with_reducible assumption) | assumption); have q102 : a1 < (l0_1.length : Int) := of_decide_eq_true (by first | (with_reducible assumption) | assumption); obtain ⟨ad102, e102, hx102_0⟩ := Kd.at_bool HR0_1.out a1 p102 q102; (try rw [← Nbq5.out] at hx102_0); cases e102; replace hx102_0 := (HB.out.cell (World.block_lt_of_cell? w _ hx102_0)).trans hx102_0; replace p102 := eq_true p102; replace q102 := eq_true q102))
    repeat (go_quiet (first | ((with_reducible refine gate_dst (N := 2) rfl ?_); refine box_event ?hg (N := 2) ?hd (cs := #[.int .i64 a0_0, .slice A0_1 l0_1.length c0_1]) (t := 65) ?hr ?_; (case hd => rfl); (case hg => rfl); (case hr => first | (go_simp; done) | (go_simp; rfl)); intro gb101 hg w7 hbox hb; have n0_ := Aside0.mk (below_step (by repeat (first | (with_reducible first | exact HB.out | apply ba | apply bd | apply be) | exact HB.out)) hb); have n1_ := Aside0.mk (hbox); have n2_ := Aside0.mk ((by rw [hg]; exact (below_size (by repeat (first | (with_reducible first | exact HB.out | apply ba | apply bd | apply be) | exact HB.out))) : w.heap.size ≤ gb101)); have n3_ := Aside0.mk ((by rw [hg]; exact (below_size (by repeat (first | (with_reducible first | exact HB.out | apply ba | apply bd | apply be) | exact HB.out))) : w.heap.size ≤ gb101)); clear HB; have HB := n0_; have BK101 := n1_; have GW101 := n2_; have GE101 := n3_; clear n0_ n1_ n2_ n3_; clear hb hbox hg; have hcz8_0 : w7.cell? ⟨gb101, 0, none⟩ = some (.int .i64 a0_0) := (blk_cell BK101.out 0).trans rfl; have hcz8_1 : w7.cell? ⟨gb101, 1, none⟩ = some (.slice A0_1 l0_1.length c0_1) := (blk_cell BK101.out 1).trans rfl; have hfz8_0 := blk_frozen BK101.out 0; have hfz8_1 := blk_frozen BK101.out 1; have p102 : 0 ≤ (a1 : Int) := of_decide_eq_true (by first | (with_reducible assumption) | assumption); have q102 : a1 < (l0_1.length : Int) := of_decide_eq_true (by first | (with_reducible assumption) | assumption); obtain ⟨ad102, e102, hx102_0⟩ := Kd.at_bool HR0_1.out a1 p102 q102; (try rw [← Nbq5.out] at hx102_0); cases e102; replace hx102_0 := (HB.out.cell (World.block_lt_of_cell? w _ hx102_0)).trans hx102_0; replace p102 := eq_true p102; replace q102 := eq_true q102)); try go_wp2_with (first | ((with_reducible refine gate_dst (N := 2) rfl ?_); refine box_event ?hg (N := 2) ?hd (cs := #[.int .i64 a0_0, .slice A0_1 l0_1.length c0_1]) (t := 65) ?hr ?_; (case hd => rfl); (case hg => rfl); (case hr => first | (go_simp; done) | (go_simp; rfl)); intro gb101 hg w7 hbox hb; have n0_ := Aside0.mk (below_step (by repeat (first | (with_reducible first | exact HB.out | apply ba | apply bd | apply be) | exact HB.out)) hb); have n1_ := Aside0.mk (hbox); have n2_ := Aside0.mk ((by rw [hg]; exact (below_size (by repeat (first | (with_reducible first | exact HB.out | apply ba | apply bd | apply be) | exact HB.out))) : w.heap.size ≤ gb101)); have n3_ := Aside0.mk ((by rw [hg]; exact (below_size (by repeat (first | (with_reducible first | exact HB.out | apply ba | apply bd | apply be) | exact HB.out))) : w.heap.size ≤ gb101)); clear HB; have HB := n0_; have BK101 := n1_; have GW101 := n2_; have GE101 := n3_; clear n0_ n1_ n2_ n3_; clear hb hbox hg; have hcz8_0 : w7.cell? ⟨gb101, 0, none⟩ = some (.int .i64 a0_0) := (blk_cell BK101.out 0).trans rfl; have hcz8_1 : w7.cell? ⟨gb101, 1, none⟩ = some (.slice A0_1 l0_1.length c0_1) := (blk_cell BK101.out 1).trans rfl; have hfz8_0 := blk_frozen BK101.out 0; have hfz8_1 := blk_frozen BK101.out 1; have p102 : 0 ≤ (a1 : Int) := of_decide_eq_true (by first | (with_reducible assumption) | assumption); have q102 : a1 < (l0_1.length : Int) := of_decide_eq_true (by first | (with_reducible assumption) | assumption); obtain ⟨ad102, e102, hx102_0⟩ := Kd.at_bool HR0_1.out a1 p102 q102; (try rw [← Nbq5.out] at hx102_0); cases e102; replace hx102_0 := (HB.out.cell (World.block_lt_of_cell? w _ hx102_0)).trans hx102_0; replace p102 := eq_true p102; replace q102 := eq_true q102)))
    go_ret
    exact ⟨by first | rfl | (simp <;> rfl) | (simp [*] <;> rfl), by repeat (first | (with_reducible first | exact HB.out | apply ba | apply bd | apply be | refine bs ?_ GE101.out) | exact HB.out)⟩
   ·replace c6 := Bool.eq_false_iff.mpr c6
    subst c6
    have H1 : (impl_votes_isGreatest.l0 k a1 a0_0 0 a0_0 l0_1) = some r := by rw [if_neg (show ¬ (false = true) by decide)] at H; exact H
    clear H
    have H := H1
    clear H1
    have H' := Aside0.mk H
    clear H
    go_enter Try.func95, Try.ntmps95
    go_wp2_with (first | ((with_reducible refine gate_dst (N := 2) rfl ?_); refine box_event ?hg (N := 2) ?hd (cs := #[.int .i64 a0_0, .slice A0_1 l0_1.length c0_1]) (t := 65) ?hr ?_; (case hd => rfl); (case hg => rfl); (case hr => first | (go_simp; done) | (go_simp; rfl)); intro gb101 hg w9 hbox hb; have n0_ := Aside0.mk (below_step (by repeat (first | (with_reducible first | exact HB.out | apply ba | apply bd | apply be) | exact HB.out)) hb); have n1_ := Aside0.mk (hbox); have n2_ := Aside0.mk ((by rw [hg]; exact (below_size (by repeat (first | (with_reducible first | exact HB.out | apply ba | apply bd | apply be) | exact HB.out))) : w.heap.size ≤ gb101)); have n3_ := Aside0.mk ((by rw [hg]; exact (below_size (by repeat (first | (with_reducible first | exact HB.out | apply ba | apply bd | apply be) | exact HB.out))) : w.heap.size ≤ gb101)); clear HB; have HB := n0_; have BK101 := n1_; have GW101 := n2_; have GE101 := n3_; clear n0_ n1_ n2_ n3_; clear hb hbox hg; have hcz10_0 : w9.cell? ⟨gb101, 0, none⟩ = some (.int .i64 a0_0) := (blk_cell BK101.out 0).trans rfl; have hcz10_1 : w9.cell? ⟨gb101, 1, none⟩ = some (.slice A0_1 l0_1.length c0_1) := (blk_cell BK101.out 1).trans rfl; have hfz10_0 := blk_frozen BK101.out 0; have hfz10_1 := blk_frozen BK101.out 1; have p102 : 0 ≤ (a1 : Int) := of_decide_eq_true (by first | (with_reducible assumption) | assumption); have q102 : a1 < (l0_1.length : Int) := of_decide_eq_true (by first | (with_reducible assumption) | assumption); obtain ⟨ad102, e102, hx102_0⟩ := Kd.at_bool HR0_1.out a1 p102 q102; (try rw [← Nbq5.out] at hx102_0); cases e102; replace hx102_0 := (HB.out.cell (World.block_lt_of_cell? w _ hx102_0)).trans hx102_0; replace p102 := eq_true p102; replace q102 := eq_true q102))
    repeat (go_quiet (first | ((with_reducible refine gate_dst (N := 2) rfl ?_); refine box_event ?hg (N := 2) ?hd (cs := #[.int .i64 a0_0, .slice A0_1 l0_1.length c0_1]) (t := 65) ?hr ?_; (case hd => rfl); (case hg => rfl); (case hr => first | (go_simp; done) | (go_simp; rfl)); intro gb101 hg w9 hbox hb; have n0_ := Aside0.mk (below_step (by repeat (first | (with_reducible first | exact HB.out | apply ba | apply bd | apply be) | exact HB.out)) hb); have n1_ := Aside0.mk (hbox); have n2_ := Aside0.mk ((by rw [hg]; exact (below_size (by repeat (first | (with_reducible first | exact HB.out | apply ba | apply bd | apply be) | exact HB.out))) : w.heap.size ≤ gb101)); have n3_ := Aside0.mk ((by rw [hg]; exact (below_size (by repeat (first | (with_reducible first | exact HB.out | apply ba | apply bd | apply be) | exact HB.out))) : w.heap.size ≤ gb101)); clear HB; have HB := n0_; have BK101 := n1_; have GW101 := n2_; have GE101 := n3_; clear n0_ n1_ n2_ n3_; clear hb hbox hg; have hcz10_0 : w9.cell? ⟨gb101, 0, none⟩ = some (.int .i64 a0_0) := (blk_cell BK101.out 0).trans rfl; have hcz10_1 : w9.cell? ⟨gb101, 1, none⟩ = some (.slice A0_1 l0_1.length c0_1) := (blk_cell BK101.out 1).trans rfl; have hfz10_0 := blk_frozen BK101.out 0; have hfz10_1 := blk_frozen BK101.out 1; have p102 : 0 ≤ (a1 : Int) := of_decide_eq_true (by first | (with_reducible assumption) | assumption); have q102 : a1 < (l0_1.length : Int) := of_decide_eq_true (by first | (with_reducible assumption) | assumption); obtain ⟨ad102, e102, hx102_0⟩ := Kd.at_bool HR0_1.out a1 p102 q102; (try rw [← Nbq5.out] at hx102_0); cases e102; replace hx102_0 := (HB.out.cell (World.block_lt_of_cell? w _ hx102_0)).trans hx102_0; replace p102 := eq_true p102; replace q102 := eq_true q102)); try go_wp2_with (first | ((with_reducible refine gate_dst (N := 2) rfl ?_); refine box_event ?hg (N := 2) ?hd (cs := #[.int .i64 a0_0, .slice A0_1 l0_1.length c0_1]) (t := 65) ?hr ?_; (case hd => rfl); (case hg => rfl); (case hr => first | (go_simp; done) | (go_simp; rfl)); intro gb101 hg w9 hbox hb; have n0_ := Aside0.mk (below_step (by repeat (first | (with_reducible first | exact HB.out | apply ba | apply bd | apply be) | exact HB.out)) hb); have n1_ := Aside0.mk (hbox); have n2_ := Aside0.mk ((by rw [hg]; exact (below_size (by repeat (first | (with_reducible first | exact HB.out | apply ba | apply bd | apply be) | exact HB.out))) : w.heap.size ≤ gb101)); have n3_ := Aside0.mk ((by rw [hg]; exact (below_size (by repeat (first | (with_reducible first | exact HB.out | apply ba | apply bd | apply be) | exact HB.out))) : w.heap.size ≤ gb101)); clear HB; have HB := n0_; have BK101 := n1_; have GW101 := n2_; have GE101 := n3_; clear n0_ n1_ n2_ n3_; clear hb hbox hg; have hcz10_0 : w9.cell? ⟨gb101, 0, none⟩ = some (.int .i64 a0_0) := (blk_cell BK101.out 0).trans rfl; have hcz10_1 : w9.cell? ⟨gb101, 1, none⟩ = some (.slice A0_1 l0_1.length c0_1) := (blk_cell BK101.out 1).trans rfl; have hfz10_0 := blk_frozen BK101.out 0; have hfz10_1 := blk_frozen BK101.out 1; have p102 : 0 ≤ (a1 : Int) := of_decide_eq_true (by first | (with_reducible assumption) | assumption); have q102 : a1 < (l0_1.length : Int) := of_decide_eq_true (by first | (with_reducible assumption) | assumption); obtain ⟨ad102, e102, hx102_0⟩ := Kd.at_bool HR0_1.out a1 p102 q102; (try rw [← Nbq5.out] at hx102_0); cases e102; replace hx102_0 := (HB.out.cell (World.block_lt_of_cell? w _ hx102_0)).trans hx102_0; replace p102 := eq_true p102; replace q102 := eq_true q102)))
    go_loopg [13] k (fun kq v13 w' => ∃ (x13_1 : Int), v13 = .int .i64 x13_1 ∧ Aside0 (impl_votes_isGreatest.l0 kq a1 a0_0 x13_1 a0_0 l0_1 = some r) ∧ Aside0 (kq ≤ k) ∧ Aside0 (w'.heap[gb101]? = some (.cells #[.int .i64 a0_0, (.slice (some ad102) l0_1.length c0_1)] 65 (0, 0))) ∧ Aside0 (Below w.heap.size w w'))
    case atStart => exact ⟨(0), (by first | rfl | (simp; done) | (simp [*]; done)), H', ⟨Nat.le_refl _⟩, ⟨by (first | exact bp BK101.out | exact BK101.out)⟩, ⟨by repeat (first | (with_reducible first | exact HB.out | apply ba | apply bd | apply be | refine bs ?_ GE101.out) | exact HB.out)⟩⟩
    case round =>
     clear H'
     try clear p1
     try clear q1
     try clear hx1
     try clear p2
     try clear c3
     try clear c3b0
     try clear c4
     try clear c4b0
     try clear q5
     try clear c6
     try clear c9
     try clear p10
     try clear q10
     try clear hx10
     try clear hcz10_0
     try clear hcz10_1
     try clear hcz8_0
     try clear hcz8_1
     try clear hfz10_0
     try clear hfz10_1
     try clear hfz8_0
     try clear hfz8_1
     try clear hx102_0
     try clear p102
     try clear q102
     obtain ⟨x13_1, rfl, HA, HK1, BK101, HB⟩ := hrel
     cases gk with
     | zero => exact absurd HA.out (by simp [impl_votes_isGreatest.l0])
     | succ k1 =>
      have H := HA.out
      clear HA
      simp only [impl_votes_isGreatest.l0] at H
      by_cases c11 : x13_1 < a0_0
      ·rw [if_pos c11] at H
       have c11b0 : decide (x13_1 < a0_0) = true := decide_eq_true c11
       clear c11
       replace H := oB H
       obtain ⟨t103, A120, H⟩ := H
       replace H : (if t103 = true then (impl_votes_isGreatest.l0 k1 a1 a0_0 (wrap64 (x13_1 + 1)) a0_0 l0_1) else (if 0 ≤ x13_1 then (if 0 ≤ (Go.bits .or .i64 a1 (shl .i64 1 x13_1)) then (if (Go.bits .or .i64 a1 (shl .i64 1 x13_1)) < (l0_1.length : Int) then (if (rdOf false l0_1 (Go.bits .or .i64 a1 (shl .i64 1 x13_1)) = true) then (impl_votes_isGreatest.l0 k1 a1 a0_0 (wrap64 (x13_1 + 1)) a0_0 l0_1) else (some false)) else (none)) else (none)) else (none))) = some r := H
       have A12 := Aside0.mk A120
       clear A120
       by_cases c13 : t103 = true
       ·subst c13
        have H1 : (impl_votes_isGreatest.l0 k1 a1 a0_0 (wrap64 (x13_1 + 1)) a0_0 l0_1) = some r := by rw [if_pos rfl] at H; exact H
        clear H
        have H := H1
        clear H1
        have H' := Aside0.mk H
        clear H
        go_wp2_with (first | (go_at_call 123; (with_reducible refine (impl_has.calls a1 x13_1 true _ A12.out).mono ?_); rintro e w' ⟨rfl, ⟨nd, rfl⟩⟩; (try first | exact ⟨rfl, _, World.drewN_drewN _ _ _⟩ | exact ⟨rfl, _, Eq.trans (World.drewN_drewN _ _ _) (congrArg (World.drewN _) (Nat.add_assoc _ _ _))⟩)))
        repeat (go_quiet (first | (go_at_call 123; (with_reducible refine (impl_has.calls a1 x13_1 true _ A12.out).mono ?_); rintro e w' ⟨rfl, ⟨nd, rfl⟩⟩; (try first | exact ⟨rfl, _, World.drewN_drewN _ _ _⟩ | exact ⟨rfl, _, Eq.trans (World.drewN_drewN _ _ _) (congrArg (World.drewN _) (Nat.add_assoc _ _ _))⟩))); try go_wp2_with (first | (go_at_call 123; (with_reducible refine (impl_has.calls a1 x13_1 true _ A12.out).mono ?_); rintro e w' ⟨rfl, ⟨nd, rfl⟩⟩; (try first | exact ⟨rfl, _, World.drewN_drewN _ _ _⟩ | exact ⟨rfl, _, Eq.trans (World.drewN_drewN _ _ _) (congrArg (World.drewN _) (Nat.add_assoc _ _ _))⟩))))
        go_roundg k1
        case measure => have := HK1.out; omega
        case rel => exact ⟨(wrap64 (x13_1 + 1)), (by first | rfl | (simp; done) | (simp [*]; done)), H', ⟨by have := HK1.out; omega⟩, ⟨by (first | exact bp BK101.out | exact BK101.out)⟩, ⟨by repeat (first | (with_reducible first | exact HB.out | apply ba | apply bd | apply be | refine bs ?_ GE101.out) | exact HB.out)⟩⟩
       ·replace c13 := Bool.eq_false_iff.mpr c13
        subst c13
        have H1 : (if 0 ≤ x13_1 then (if 0 ≤ (Go.bits .or .i64 a1 (shl .i64 1 x13_1)) then (if (Go.bits .or .i64 a1 (shl .i64 1 x13_1)) < (l0_1.length : Int) then (if (rdOf false l0_1 (Go.bits .or .i64 a1 (shl .i64 1 x13_1)) = true) then (impl_votes_isGreatest.l0 k1 a1 a0_0 (wrap64 (x13_1 + 1)) a0_0 l0_1) else (some false)) else (none)) else (none)) else (none)) = some r := by rw [if_neg (show ¬ (false = true) by decide)] at H; exact H
        clear H
        have H := H1
        clear H1
        by_cases c14 : 0 ≤ x13_1
        ·rw [if_pos c14] at H
         have c14b0 := eq_true c14
         have c14b1 : decide (0 ≤ x13_1) = true := decide_eq_true c14
         clear c14
         obtain ⟨ji15, hji15⟩ : ∃ j_ : Int, (shl .i64 1 x13_1) = j_ := ⟨_, rfl⟩
         replace H : (if 0 ≤ (Go.bits .or .i64 a1 (ji15)) then (if (Go.bits .or .i64 a1 (ji15)) < (l0_1.length : Int) then (if (rdOf false l0_1 (Go.bits .or .i64 a1 (ji15)) = true) then (impl_votes_isGreatest.l0 k1 a1 a0_0 (wrap64 (x13_1 + 1)) a0_0 l0_1) else (some false)) else (none)) else (none)) = some r := by first | (rw [hji15] at H; exact H) | (simp only [hji15] at H ⊢; exact H)
         (try rw [hji15] at A12)
         have hji15_ : (IntKind.i64.wrap (1 * 2 ^ min x13_1.toNat 64)) = ji15 := hji15
         have hji15z : x13_1 ≤ 64 → (IntKind.i64.wrap (1 * 2 ^ x13_1.toNat)) = ji15 := shl_small hji15
         have hji15u : (IntKind.i64.wrap (2 ^ min x13_1.toNat 64)) = ji15 := by have h_ := hji15_; rw [Int.one_mul] at h_; exact h_
         have hji15v : x13_1 ≤ 64 → (IntKind.i64.wrap (2 ^ x13_1.toNat)) = ji15 := fun hle_ => by have h_ := hji15z hle_; rw [Int.one_mul] at h_; exact h_
         have hji15y : (wrap64 (1 * 2 ^ min x13_1.toNat 64)) = ji15 := (i64_w _).symm.trans hji15_
         have hji15x : x13_1 ≤ 64 → (wrap64 (1 * 2 ^ x13_1.toNat)) = ji15 := fun h_ => (i64_w _).symm.trans (hji15z h_)
         by_cases c16 : 0 ≤ (Go.bits .or .i64 a1 (ji15))
         ·rw [if_pos c16] at H
          have c16b0 : decide (0 ≤ (Go.bits .or .i64 a1 (ji15))) = true := decide_eq_true c16
          clear c16
          by_cases c17 : (Go.bits .or .i64 a1 (ji15)) < (l0_1.length : Int)
          ·rw [if_pos c17] at H
           have c17b0 : decide ((Go.bits .or .i64 a1 (ji15)) < (l0_1.length : Int)) = true := decide_eq_true c17
           clear c17
           obtain ⟨bq18, hbq18⟩ : ∃ b_ : Bool, b_ = (rdOf false l0_1 (Go.bits .or .i64 a1 (ji15))) := ⟨_, rfl⟩
           replace H : (if (bq18 = true) then (impl_votes_isGreatest.l0 k1 a1 a0_0 (wrap64 (x13_1 + 1)) a0_0 l0_1) else (some false)) = some r := by rw [← hbq18] at H; exact H
           have Nbq18 := Aside0.mk hbq18
           clear hbq18
           by_cases c19 : (bq18 = true)
           ·subst c19
            have H1 : (impl_votes_isGreatest.l0 k1 a1 a0_0 (wrap64 (x13_1 + 1)) a0_0 l0_1) = some r := by rw [if_pos rfl] at H; exact H
            clear H
            have H := H1
            clear H1
            have H' := Aside0.mk H
            clear H
            go_wp2_with (first | (go_at_call 123; (with_reducible refine (impl_has.calls a1 x13_1 false _ A12.out).mono ?_); rintro e w' ⟨rfl, ⟨nd, rfl⟩⟩; (try first | exact ⟨rfl, _, World.drewN_drewN _ _ _⟩ | exact ⟨rfl, _, Eq.trans (World.drewN_drewN _ _ _) (congrArg (World.drewN _) (Nat.add_assoc _ _ _))⟩); have hcz20_0 : wr.cell? ⟨gb101, 0, none⟩ = some (.int .i64 a0_0) := (blk_cell BK101.out 0).trans rfl; have hcz20_1 : wr.cell? ⟨gb101, 1, none⟩ = some (.slice (some ad102) l0_1.length c0_1) := (blk_cell BK101.out 1).trans rfl; have hfz20_0 := blk_frozen BK101.out 0; have hfz20_1 := blk_frozen BK101.out 1; have p104 : 0 ≤ ((Go.bits .or .i64 a1 (ji15)) : Int) := of_decide_eq_true (by first | (with_reducible assumption) | assumption); have q104 : (Go.bits .or .i64 a1 (ji15)) < (l0_1.length : Int) := of_decide_eq_true (by first | (with_reducible assumption) | assumption); obtain ⟨ad104, e104, hx104_0⟩ := Kd.at_bool HR0_1.out (Go.bits .or .i64 a1 (ji15)) p104 q104; (try rw [← Nbq5.out] at hx104_0); (try rw [← Nbq18.out] at hx104_0); obtain rfl : ad102 = ad104 := (by injection e104); replace hx104_0 := (HB.out.cell (World.block_lt_of_cell? w _ hx104_0)).trans hx104_0; replace p104 := eq_true p104; replace q104 := eq_true q104))
            repeat (go_quiet (first | (go_at_call 123; (with_reducible refine (impl_has.calls a1 x13_1 false _ A12.out).mono ?_); rintro e w' ⟨rfl, ⟨nd, rfl⟩⟩; (try first | exact ⟨rfl, _, World.drewN_drewN _ _ _⟩ | exact ⟨rfl, _, Eq.trans (World.drewN_drewN _ _ _) (congrArg (World.drewN _) (Nat.add_assoc _ _ _))⟩); have hcz20_0 : wr.cell? ⟨gb101, 0, none⟩ = some (.int .i64 a0_0) := (blk_cell BK101.out 0).trans rfl; have hcz20_1 : wr.cell? ⟨gb101, 1, none⟩ = some (.slice (some ad102) l0_1.length c0_1) := (blk_cell BK101.out 1).trans rfl; have hfz20_0 := blk_frozen BK101.out 0; have hfz20_1 := blk_frozen BK101.out 1; have p104 : 0 ≤ ((Go.bits .or .i64 a1 (ji15)) : Int) := of_decide_eq_true (by first | (with_reducible assumption) | assumption); have q104 : (Go.bits .or .i64 a1 (ji15)) < (l0_1.length : Int) := of_decide_eq_true (by first | (with_reducible assumption) | assumption); obtain ⟨ad104, e104, hx104_0⟩ := Kd.at_bool HR0_1.out (Go.bits .or .i64 a1 (ji15)) p104 q104; (try rw [← Nbq5.out] at hx104_0); (try rw [← Nbq18.out] at hx104_0); obtain rfl : ad102 = ad104 := (by injection e104); replace hx104_0 := (HB.out.cell (World.block_lt_of_cell? w _ hx104_0)).trans hx104_0; replace p104 := eq_true p104; replace q104 := eq_true q104)); try go_wp2_with (first | (go_at_call 123; (with_reducible refine (impl_has.calls a1 x13_1 false _ A12.out).mono ?_); rintro e w' ⟨rfl, ⟨nd, rfl⟩⟩; (try first | exact ⟨rfl, _, World.drewN_drewN _ _ _⟩ | exact ⟨rfl, _, Eq.trans (World.drewN_drewN _ _ _) (congrArg (World.drewN _) (Nat.add_assoc _ _ _))⟩); have hcz20_0 : wr.cell? ⟨gb101, 0, none⟩ = some (.int .i64 a0_0) := (blk_cell BK101.out 0).trans rfl; have hcz20_1 : wr.cell? ⟨gb101, 1, none⟩ = some (.slice (some ad102) l0_1.length c0_1) := (blk_cell BK101.out 1).trans rfl; have hfz20_0 := blk_frozen BK101.out 0; have hfz20_1 := blk_frozen BK101.out 1; have p104 : 0 ≤ ((Go.bits .or .i64 a1 (ji15)) : Int) := of_decide_eq_true (by first | (with_reducible assumption) | assumption); have q104 : (Go.bits .or .i64 a1 (ji15)) < (l0_1.length : Int) := of_decide_eq_true (by first | (with_reducible assumption) | assumption); obtain ⟨ad104, e104, hx104_0⟩ := Kd.at_bool HR0_1.out (Go.bits .or .i64 a1 (ji15)) p104 q104; (try rw [← Nbq5.out] at hx104_0); (try rw [← Nbq18.out] at hx104_0); obtain rfl : ad102 = ad104 := (by injection e104); replace hx104_0 := (HB.out.cell (World.block_lt_of_cell? w _ hx104_0)).trans hx104_0; replace p104 := eq_true p104; replace q104 := eq_true q104)))
            go_roundg k1
            case measure => have := HK1.out; omega
            case rel => exact ⟨(wrap64 (x13_1 + 1)), (by first | rfl | (simp; done) | (simp [*]; done)), H', ⟨by have := HK1.out; omega⟩, ⟨by (first | exact bp BK101.out | exact BK101.out)⟩, ⟨by repeat (first | (with_reducible first | exact HB.out | apply ba | apply bd | apply be | refine bs ?_ GE101.out) | exact HB.out)⟩⟩
           ·replace c19 := Bool.eq_false_iff.mpr c19
            subst c19
            have H1 : (some false) = some r := by rw [if_neg (show ¬ (false = true) by decide)] at H; exact H
            clear H
            have H := H1
            clear H1
            obtain rfl := Option.some.inj H
            go_wp2_with (first | (go_at_call 123; (with_reducible refine (impl_has.calls a1 x13_1 false _ A12.out).mono ?_); rintro e w' ⟨rfl, ⟨nd, rfl⟩⟩; (try first | exact ⟨rfl, _, World.drewN_drewN _ _ _⟩ | exact ⟨rfl, _, Eq.trans (World.drewN_drewN _ _ _) (congrArg (World.drewN _) (Nat.add_assoc _ _ _))⟩); have hcz21_0 : wr.cell? ⟨gb101, 0, none⟩ = some (.int .i64 a0_0) := (blk_cell BK101.out 0).trans rfl; have hcz21_1 : wr.cell? ⟨gb101, 1, none⟩ = some (.slice (some ad102) l0_1.length c0_1) := (blk_cell BK101.out 1).trans rfl; have hfz21_0 := blk_frozen BK101.out 0; have hfz21_1 := blk_frozen BK101.out 1; have p104 : 0 ≤ ((Go.bits .or .i64 a1 (ji15)) : Int) := of_decide_eq_true (by first | (with_reducible assumption) | assumption); have q104 : (Go.bits .or .i64 a1 (ji15)) < (l0_1.length : Int) := of_decide_eq_true (by first | (with_reducible assumption) | assumption); obtain ⟨ad104, e104, hx104_0⟩ := Kd.at_bool HR0_1.out (Go.bits .or .i64 a1 (ji15)) p104 q104; (try rw [← Nbq5.out] at hx104_0); (try rw [← Nbq18.out] at hx104_0); obtain rfl : ad102 = ad104 := (by injection e104); replace hx104_0 := (HB.out.cell (World.block_lt_of_cell? w _ hx104_0)).trans hx104_0; replace p104 := eq_true p104; replace q104 := eq_true q104))
            repeat (go_quiet (first | (go_at_call 123; (with_reducible refine (impl_has.calls a1 x13_1 false _ A12.out).mono ?_); rintro e w' ⟨rfl, ⟨nd, rfl⟩⟩; (try first | exact ⟨rfl, _, World.drewN_drewN _ _ _⟩ | exact ⟨rfl, _, Eq.trans (World.drewN_drewN _ _ _) (congrArg (World.drewN _) (Nat.add_assoc _ _ _))⟩); have hcz21_0 : wr.cell? ⟨gb101, 0, none⟩ = some (.int .i64 a0_0) := (blk_cell BK101.out 0).trans rfl; have hcz21_1 : wr.cell? ⟨gb101, 1, none⟩ = some (.slice (some ad102) l0_1.length c0_1) := (blk_cell BK101.out 1).trans rfl; have hfz21_0 := blk_frozen BK101.out 0; have hfz21_1 := blk_frozen BK101.out 1; have p104 : 0 ≤ ((Go.bits .or .i64 a1 (ji15)) : Int) := of_decide_eq_true (by first | (with_reducible assumption) | assumption); have q104 : (Go.bits .or .i64 a1 (ji15)) < (l0_1.length : Int) := of_decide_eq_true (by first | (with_reducible assumption) | assumption); obtain ⟨ad104, e104, hx104_0⟩ := Kd.at_bool HR0_1.out (Go.bits .or .i64 a1 (ji15)) p104 q104; (try rw [← Nbq5.out] at hx104_0); (try rw [← Nbq18.out] at hx104_0); obtain rfl : ad102 = ad104 := (by injection e104); replace hx104_0 := (HB.out.cell (World.block_lt_of_cell? w _ hx104_0)).trans hx104_0; replace p104 := eq_true p104; replace q104 := eq_true q104)); try go_wp2_with (first | (go_at_call 123; (with_reducible refine (impl_has.calls a1 x13_1 false _ A12.out).mono ?_); rintro e w' ⟨rfl, ⟨nd, rfl⟩⟩; (try first | exact ⟨rfl, _, World.drewN_drewN _ _ _⟩ | exact ⟨rfl, _, Eq.trans (World.drewN_drewN _ _ _) (congrArg (World.drewN _) (Nat.add_assoc _ _ _))⟩); have hcz21_0 : wr.cell? ⟨gb101, 0, none⟩ = some (.int .i64 a0_0) := (blk_cell BK101.out 0).trans rfl; have hcz21_1 : wr.cell? ⟨gb101, 1, none⟩ = some (.slice (some ad102) l0_1.length c0_1) := (blk_cell BK101.out 1).trans rfl; have hfz21_0 := blk_frozen BK101.out 0; have hfz21_1 := blk_frozen BK101.out 1; have p104 : 0 ≤ ((Go.bits .or .i64 a1 (ji15)) : Int) := of_decide_eq_true (by first | (with_reducible assumption) | assumption); have q104 : (Go.bits .or .i64 a1 (ji15)) < (l0_1.length : Int) := of_decide_eq_true (by first | (with_reducible assumption) | assumption); obtain ⟨ad104, e104, hx104_0⟩ := Kd.at_bool HR0_1.out (Go.bits .or .i64 a1 (ji15)) p104 q104; (try rw [← Nbq5.out] at hx104_0); (try rw [← Nbq18.out] at hx104_0); obtain rfl : ad102 = ad104 := (by injection e104); replace hx104_0 := (HB.out.cell (World.block_lt_of_cell? w _ hx104_0)).trans hx104_0; replace p104 := eq_true p104; replace q104 := eq_true q104)))
            go_ret
            exact ⟨by first | rfl | (simp <;> rfl) | (simp only [← hji15]; first | rfl | (simp <;> rfl)) | (simp [*] <;> rfl), by repeat (first | (with_reducible first | exact HB.out | apply ba | apply bd | apply be | refine bs ?_ GE101.out) | exact HB.out)⟩
          ·rw [if_neg c17] at H
           exact absurd H (by simp)
         ·rw [if_neg c16] at H
          exact absurd H (by simp)
        ·rw [if_neg c14] at H
         exact absurd H (by simp)
      ·rw [if_neg c11] at H
       have c11b0 : decide (x13_1 < a0_0) = false := decide_eq_false c11
       clear c11
       obtain rfl := Option.some.inj H
       go_wp2
       repeat (go_quiet (fail); try go_wp2)
       go_ret
       exact ⟨by first | rfl | (simp <;> rfl) | (simp [*] <;> rfl), by repeat (first | (with_reducible first | exact HB.out | apply ba | apply bd | apply be | refine bs ?_ GE101.out) | exact HB.out)⟩
  ·rw [if_neg c4] at H
   exact absurd H (by simp)
 ·rw [if_neg c3] at H
  exact absurd H (by simp)

end Go.Proofs.Yticnoiflccbhcaa.Q

namespace Go.Proofs.Yticnoiflccbhcaa.Q
open Go.RowKit Go.Proofs.YticnoiflccbhcaaW.PrintWords Go.Proofs.YticnoiflccbhcaaW.PrintLast Go.Proofs.YticnoiflccbhcaaW.PrintMore
attribute [local go_sem] max2_int min2_int max_two min_two max_three min_three max_four min_four   -- for this text's walks alone
set_option linter.unusedVariables false
set_option linter.unusedSimpArgs false

/-! ### impl_GreatestLosing: function 47 (given) -/
-- INFO 3
-- INFO 22
def impl_GreatestLosing.f (k : Nat) (a0_0 : Int) (l0_1 : List Int) : Option (List (List Int) × Bool) := (impl_IsCommittee.f k a0_0 l0_1).bind fun t => if t = true then ((impl_Committee_votes.f k a0_0 l0_1).bind fun v => (impl_votes_sets.g k v.2 (fun x => impl_votes_isGreatest.f k v.1 v.2 x)).bind fun s => some (s, true)) else some ([], false)
theorem impl_GreatestLosing.mono : ∀ a0 a1 k, LeO (impl_GreatestLosing.f k a0 a1) (impl_GreatestLosing.f (k + 1) a0 a1) := by
  intro a0 a1 k
  refine LeO.bind (impl_IsCommittee.mono _ _ _) (fun _ => LeO.ite ?_ (LeO.refl _))
  exact LeO.bind (impl_Committee_votes.mono _ _ _) (fun _ => LeO.bind (impl_votes_sets.mono_p (fun x => impl_votes_isGreatest.mono _ _ _ _) _ _) (fun _ => LeO.refl _))
set_option maxHeartbeats 8000000 in
set_option maxRecDepth 100000 in
theorem impl_GreatestLosing.calls (k : Nat) (a0_0 : Int) (A0_1 : Option Addr) (c0_1 : Nat) (l0_1 : List Int) (r1 : List (List Int)) (r2 : Bool) (w : World) (hr0_1 : Kd.C (Kd.int .i64) w A0_1 l0_1.length l0_1) (hc0_1 : l0_1.length ≤ c0_1) (h : impl_GreatestLosing.f k a0_0 l0_1 = some (r1, r2)) :
    Calls Try.prog 47 #[.agg #[.int .i64 a0_0, .slice A0_1 l0_1.length c0_1]] w fun e w' => ∃ v0_ : Value, e = .returned (.tuple #[v0_, .bool r2]) ∧ Kd.S (Kd.slice 3 (Kd.int .i64)) 22 w' w.heap.size (fun _ => True) v0_ r1 ∧ Below w.heap.size w w' := by
  have eg : ∀ args w, (callFunc 95 args).run Try.prog w = .ok (.enter 95 args) w := enters_of Try.func95 (by kernel_rfl) rfl
  have hmf : ∀ (fn : Fn) (first cap : Array Value) (w : World), (Instr.makeFunc fn first cap).run Try.prog w = .ok (.func fn first cap) w := fun _ _ _ _ => rfl
  have huC := Try.underlying26
  have huV := Try.underlying65
  obtain ⟨t, ht, h2⟩ := Option.bind_eq_some_iff.mp h
  have HB1 := Aside0.mk (show Below w.heap.size w (w.alloc (.cells #[.int .i64 a0_0, .slice A0_1 l0_1.length c0_1] 26)) from (Below.refl _ _).alloc (Nat.le_refl _) _)
  have BK1 := Aside0.mk (blk_new w (.cells #[.int .i64 a0_0, .slice A0_1 l0_1.length c0_1] 26))
  have HR := Aside0.mk hr0_1
  have HC := Aside0.mk hc0_1
  have HT := Aside0.mk ht
  clear hr0_1 hc0_1 h ht
  cases t with
  | true =>
    rw [if_pos rfl] at h2
    obtain ⟨⟨v1, v2⟩, hv, h3⟩ := Option.bind_eq_some_iff.mp h2
    obtain ⟨s, hs, h4⟩ := Option.bind_eq_some_iff.mp h3
    simp only [Option.some.injEq, Prod.mk.injEq] at h4
    obtain ⟨rfl, rfl⟩ := h4
    have HV := Aside0.mk hv
    have HS := Aside0.mk hs
    clear h2 hv h3 hs
    go_enter Try.func47, Try.ntmps47
    go_wp2_with fail
    refine (impl_IsCommittee.calls k a0_0 A0_1 c0_1 l0_1 true _ (Kd.C_below HR.out HB1.out) HC.out HT.out).mono ?_
    rintro e w1 ⟨rfl, hb⟩
    have BK2 := Aside0.mk (blk_below BK1.out hb)
    have HB2 := Aside0.mk (HB1.out.trans (hb.mono HB1.out.size))
    clear hb
    have hc0 := (blk_cell BK2.out 0).trans rfl
    have hc1 := (blk_cell BK2.out 1).trans rfl
    go_wp2_with fail
    refine (impl_Committee_votes.calls k a0_0 A0_1 c0_1 l0_1 v1 v2 _ (Kd.C_below HR.out HB2.out) HC.out HV.out).mono ?_
    rintro e w2 ⟨u1, rfl, hO, hb⟩
    obtain ⟨A1, c1, rfl, hl1, hC1⟩ := Kd.R_reads hO
    have HC1 := Aside0.mk hC1
    have HL1 := Aside0.mk hl1
    have HB3 := Aside0.mk (HB2.out.trans (hb.mono HB2.out.size))
    have HB4 := Aside0.mk (HB3.out.trans ((below_alloc (Below.refl w2.heap.size w2) (.cells #[.int .i64 v1, .slice A1 v2.length c1] 65)).mono HB3.out.size))
    clear hO hb hl1 hC1 hc0 hc1
    have HX := Aside0.mk (impl_votes_sets.hof k v1 A1 c1 v2 (fun x => impl_votes_isGreatest.f k v1 v2 x) 95 #[.agg #[.int .i64 v1, .slice A1 v2.length c1]] #[] s (w2.alloc (.cells #[.int .i64 v1, .slice A1 v2.length c1] 65)) (Kd.C_alloc HC1.out _) eg (fun W x b hb _ _ hx => impl_votes_isGreatest.calls k v1 A1 c1 v2 x b W (Kd.C_below (Kd.C_alloc HC1.out _) hb) HL1.out hx) HS.out)
    go_wp2_with fail
    refine (HX.out).mono ?_
    rintro e w3 ⟨u2, rfl, hS, hb⟩
    have HSO := Aside0.mk (Kd.S_lower hS HB4.out.size)
    have HB5 := Aside0.mk (HB4.out.trans (hb.mono HB4.out.size))
    clear hS hb
    go_wp2
    go_ret2
    exact ⟨_, rfl, HSO.out, HB5.out⟩
  | false =>
    rw [if_neg (by decide)] at h2
    simp only [Option.some.injEq, Prod.mk.injEq] at h2
    obtain ⟨rfl, rfl⟩ := h2
    go_enter Try.func47, Try.ntmps47
    go_wp2_with fail
    refine (impl_IsCommittee.calls k a0_0 A0_1 c0_1 l0_1 false _ (Kd.C_below HR.out HB1.out) HC.out HT.out).mono ?_
    rintro e w1 ⟨rfl, hb⟩
    have HB2 := Aside0.mk (HB1.out.trans (hb.mono HB1.out.size))
    clear hb
    go_wp2
    go_ret2
    exact ⟨_, rfl, Kd.S_nil _ _ _ _ _, HB2.out⟩

end Go.Proofs.Yticnoiflccbhcaa.Q

namespace Go.Proofs.Yticnoiflccbhcaa.Q
open Go.RowKit Go.Proofs.YticnoiflccbhcaaX Go.Proofs.YticnoiflccbhcaaW.PrintWords Go.Proofs.YticnoiflccbhcaaW.PrintLast Go.Proofs.YticnoiflccbhcaaW.PrintMore
attribute [local go_sem] max2_int min2_int max_two min_two max_three min_three max_four min_four   -- for this text's walks alone
set_option linter.unusedVariables false
set_option linter.unusedSimpArgs false

/-! ### spec_GreatestLosing: function 46 -/
mutual
def spec_GreatestLosing.l0 : Nat → List Bool → List (List Int) → List Bool → Int → Int → Int → List Int → Option ((List (List Int)) × Bool)
 | 0, _, _, _, _, _, _, _ => none
 | k + 1, x4, x5, x15, x16, x17, x102000, x102001 => if x17 < x16 then (if 0 ≤ x17 then (if x17 < (x15.length : Int) then (if rdOf false x15 x17 = true then (spec_GreatestLosing.l0 k x4 x5 x15 x16 (wrap64 (x17 + 1)) x102000 x102001) else (spec_GreatestLosing.l1 k x4 x5 x17 true x15 x16 x17 (x102001.length : Int) 0 x102000 x102001)) else (none)) else (none)) else ((spec_voSorted.f k x5).bind fun t106 => (some (t106, true)))
def spec_GreatestLosing.l1 : Nat → List Bool → List (List Int) → Int → Bool → List Bool → Int → Int → Int → Int → Int → List Int → Option ((List (List Int)) × Bool)
 | 0, _, _, _, _, _, _, _, _, _, _, _ => none
 | k + 1, x4, x5, x6, x8, x15, x16, x17, x25, x26, x102000, x102001 => if x26 < x25 then (if x8 = true then (if 0 ≤ x26 then (if (Int.tmod (shr .i64 x6 x26) 2) = 1 then (spec_GreatestLosing.l1 k x4 x5 x6 true x15 x16 x17 x25 (wrap64 (x26 + 1)) x102000 x102001) else (if 0 ≤ (wrap64 (x6 + (shl .i64 1 x26))) then (if (wrap64 (x6 + (shl .i64 1 x26))) < (x4.length : Int) then (spec_GreatestLosing.l1 k x4 x5 x6 (rdOf false x4 (wrap64 (x6 + (shl .i64 1 x26)))) x15 x16 x17 x25 (wrap64 (x26 + 1)) x102000 x102001) else (none)) else (none))) else (none)) else (spec_GreatestLosing.l1 k x4 x5 x6 false x15 x16 x17 x25 (wrap64 (x26 + 1)) x102000 x102001)) else (if x8 = true then ((spec_voList.f k x6).bind fun t111 => (if x5.length < 5864062014805 then (spec_GreatestLosing.l0 k x4 (x5 ++ [t111]) x15 x16 (wrap64 (x17 + 1)) x102000 x102001) else (none))) else (spec_GreatestLosing.l0 k x4 x5 x15 x16 (wrap64 (x17 + 1)) x102000 x102001))
end
def spec_GreatestLosing.f (k : Nat) (a0_0 : Int) (l0_1 : List Int) : Option ((List (List Int)) × Bool) := (spec_voGood.f k a0_0 l0_1).bind fun t102 => (if t102 = true then ((spec_voWins.f k a0_0 l0_1).bind fun t103 => (spec_GreatestLosing.l0 k t103 ([] : List (List Int)) t103 (t103.length : Int) 0 a0_0 l0_1)) else (some (([] : List (List Int)), false)))
theorem spec_GreatestLosing.mono_l : ∀ k, (∀ y0 y1 y2 y3 y4 y5 y6, LeO (spec_GreatestLosing.l0 k y0 y1 y2 y3 y4 y5 y6) (spec_GreatestLosing.l0 (k + 1) y0 y1 y2 y3 y4 y5 y6)) ∧ (∀ y0 y1 y2 y3 y4 y5 y6 y7 y8 y9 y10, LeO (spec_GreatestLosing.l1 k y0 y1 y2 y3 y4 y5 y6 y7 y8 y9 y10) (spec_GreatestLosing.l1 (k + 1) y0 y1 y2 y3 y4 y5 y6 y7 y8 y9 y10))
 | 0 => ⟨fun _ _ _ _ _ _ _ r h => by simp [spec_GreatestLosing.l0] at h, fun _ _ _ _ _ _ _ _ _ _ _ r h => by simp [spec_GreatestLosing.l1] at h⟩
 | k + 1 => by
  obtain ⟨ih0, ih1⟩ := spec_GreatestLosing.mono_l k
  refine ⟨?_, ?_⟩
  ·intro y0 y1 y2 y3 y4 y5 y6
   unfold spec_GreatestLosing.l0
   repeat' first
   | (with_reducible exact ih0 _ _ _ _ _ _ _)
   | (with_reducible exact ih1 _ _ _ _ _ _ _ _ _ _ _)
   | (with_reducible exact spec_voGood.mono _ _ _)
   | (with_reducible exact spec_voList.mono _ _)
   | (with_reducible exact spec_voSorted.mono _ _)
   | (with_reducible exact spec_voWins.mono _ _ _)
   | (with_reducible exact LeO.refl _)
   | (with_reducible exact LeO.none _)
   | (with_reducible refine LeO.ite ?_ ?_)
   | (with_reducible refine LeO.bind ?_ (fun _ => ?_))
   | exact ih0 _ _ _ _ _ _ _
   | exact ih1 _ _ _ _ _ _ _ _ _ _ _
   | exact spec_voGood.mono _ _ _
   | exact spec_voList.mono _ _
   | exact spec_voSorted.mono _ _
   | exact spec_voWins.mono _ _ _
   | exact LeO.none _
   | refine LeO.ite ?_ ?_
   | refine LeO.bind ?_ (fun _ => ?_)
  ·intro y0 y1 y2 y3 y4 y5 y6 y7 y8 y9 y10
   unfold spec_GreatestLosing.l1
   repeat' first
   | (with_reducible exact ih0 _ _ _ _ _ _ _)
   | (with_reducible exact ih1 _ _ _ _ _ _ _ _ _ _ _)
   | (with_reducible exact spec_voGood.mono _ _ _)
   | (with_reducible exact spec_voList.mono _ _)
   | (with_reducible exact spec_voSorted.mono _ _)
   | (with_reducible exact spec_voWins.mono _ _ _)
   | (with_reducible exact LeO.refl _)
   | (with_reducible exact LeO.none _)
   | (with_reducible refine LeO.ite ?_ ?_)
   | (with_reducible refine LeO.bind ?_ (fun _ => ?_))
   | exact ih0 _ _ _ _ _ _ _
   | exact ih1 _ _ _ _ _ _ _ _ _ _ _
   | exact spec_voGood.mono _ _ _
   | exact spec_voList.mono _ _
   | exact spec_voSorted.mono _ _
   | exact spec_voWins.mono _ _ _
   | exact LeO.none _
   | refine LeO.ite ?_ ?_
   | refine LeO.bind ?_ (fun _ => ?_)
theorem spec_GreatestLosing.mono : ∀ a0 a1 k, LeO (spec_GreatestLosing.f k a0 a1) (spec_GreatestLosing.f (k + 1) a0 a1) := by
 intro a0 a1 k
 obtain ⟨ih0, ih1⟩ := spec_GreatestLosing.mono_l k
 unfold spec_GreatestLosing.f
 repeat' first
   | (with_reducible exact ih0 _ _ _ _ _ _ _)
   | (with_reducible exact ih1 _ _ _ _ _ _ _ _ _ _ _)
   | (with_reducible exact spec_voGood.mono _ _ _)
   | (with_reducible exact spec_voList.mono _ _)
   | (with_reducible exact spec_voSorted.mono _ _)
   | (with_reducible exact spec_voWins.mono _ _ _)
   | (with_reducible exact LeO.refl _)
   | (with_reducible exact LeO.none _)
   | (with_reducible refine LeO.ite ?_ ?_)
   | (with_reducible refine LeO.bind ?_ (fun _ => ?_))
   | exact ih0 _ _ _ _ _ _ _
   | exact ih1 _ _ _ _ _ _ _ _ _ _ _
   | exact spec_voGood.mono _ _ _
   | exact spec_voList.mono _ _
   | exact spec_voSorted.mono _ _
   | exact spec_voWins.mono _ _ _
   | exact LeO.none _
   | refine LeO.ite ?_ ?_
   | refine LeO.bind ?_ (fun _ => ?_)
set_option maxHeartbeats 8000000 in
set_option maxRecDepth 100000 in
theorem spec_GreatestLosing.calls (k : Nat) (a0_0 : Int) (A0_1 : Option Addr) (c0_1 : Nat) (l0_1 : List Int) (r1 : List (List Int)) (r2 : Bool) (w : World) (hr0_1 : Kd.C (Kd.int .i64) w A0_1 l0_1.length l0_1) (hc0_1 : l0_1.length ≤ c0_1) (h : spec_GreatestLosing.f k a0_0 l0_1 = some (r1, r2)) :
  Calls Try.prog 46 #[.agg #[.int .i64 a0_0, .slice A0_1 l0_1.length c0_1]] w fun e w' => ∃ v0_ : Value, e = .returned (.tuple #[v0_, .bool r2]) ∧ Kd.S (Kd.slice 3 (Kd.int .i64)) 22 w' w.heap.size (fun _ => True) v0_ r1 ∧ Below w.heap.size w w' := by
 have hu26 := Try.underlying26
 have HR0_1 := Aside0.mk hr0_1
 have HC0_1 := Aside0.mk hc0_1
 clear hr0_1 hc0_1
 have HB := Aside0.mk (Below.refl w.heap.size w)
 have H : ((spec_voGood.f k a0_0 l0_1).bind fun t102 => (if t102 = true then ((spec_voWins.f k a0_0 l0_1).bind fun t103 => (spec_GreatestLosing.l0 k t103 ([] : List (List Int)) t103 (t103.length : Int) 0 a0_0 l0_1)) else (some (([] : List (List Int)), false)))) = some (r1, r2) := h
 clear h
 replace H := oB H
 obtain ⟨t102, A20, H⟩ := H
 replace H : (if t102 = true then ((spec_voWins.f k a0_0 l0_1).bind fun t103 => (spec_GreatestLosing.l0 k t103 ([] : List (List Int)) t103 (t103.length : Int) 0 a0_0 l0_1)) else (some (([] : List (List Int)), false))) = some (r1, r2) := H
 have A2 := Aside0.mk A20
 clear A20
 by_cases c3 : t102 = true
 ·subst c3
  have H1 : ((spec_voWins.f k a0_0 l0_1).bind fun t103 => (spec_GreatestLosing.l0 k t103 ([] : List (List Int)) t103 (t103.length : Int) 0 a0_0 l0_1)) = some (r1, r2) := by rw [if_pos rfl] at H; exact H
  clear H
  have H := H1
  clear H1
  replace H := oB H
  obtain ⟨t103, A40, H⟩ := H
  replace H : (spec_GreatestLosing.l0 k t103 ([] : List (List Int)) t103 (t103.length : Int) 0 a0_0 l0_1) = some (r1, r2) := H
  have A4 := Aside0.mk A40
  clear A40
  have H' := Aside0.mk H
  clear H
  go_enter Try.func46, Try.ntmps46
  go_wp2_with (first | ((with_reducible refine gate_dst (N := 1) rfl ?_); refine box_event ?hg (N := 1) ?hd (cs := #[.int .i64 a0_0, .slice A0_1 l0_1.length c0_1]) (t := 26) ?hr ?_; (case hd => rfl); (case hg => rfl); (case hr => first | (go_simp; done) | (go_simp; rfl)); intro gb101 hg w5 hbox hb; have n0_ := Aside0.mk (below_step (by repeat (first | (with_reducible first | exact HB.out | apply ba | apply bd | apply be) | exact HB.out)) hb); have n1_ := Aside0.mk (hbox); have n2_ := Aside0.mk ((by rw [hg]; exact (below_size (by repeat (first | (with_reducible first | exact HB.out | apply ba | apply bd | apply be) | exact HB.out))) : w.heap.size ≤ gb101)); have n3_ := Aside0.mk ((by rw [hg]; exact (below_size (by repeat (first | (with_reducible first | exact HB.out | apply ba | apply bd | apply be) | exact HB.out))) : w.heap.size ≤ gb101)); clear HB; have HB := n0_; have BK101 := n1_; have GW101 := n2_; have GE101 := n3_; clear n0_ n1_ n2_ n3_; clear hb hbox hg; have hcz6_0 : w5.cell? ⟨gb101, 0, none⟩ = some (.int .i64 a0_0) := (blk_cell BK101.out 0).trans rfl; have hcz6_1 : w5.cell? ⟨gb101, 1, none⟩ = some (.slice A0_1 l0_1.length c0_1) := (blk_cell BK101.out 1).trans rfl; have hfz6_0 := blk_frozen BK101.out 0; have hfz6_1 := blk_frozen BK101.out 1) | ((with_reducible refine gate_callee (f := 55) rfl ?_); refine goesL_ (some 11) rfl rfl Try.func55 (by kernel_rfl) rfl #[.agg #[.int .i64 a0_0, .slice A0_1 l0_1.length c0_1]] rfl (by (try simp only [mA, mC, mN]); first | done | rfl | (simp only [List.length_drop, List.length_take]; rfl)) ?_; (with_reducible refine (spec_voGood.calls k a0_0 _ _ l0_1 true _ ?side1 ?side2 A2.out).mono ?_); (case side1 => repeat (first | exact (Kd.C_below HR0_1.out HB.out) | (with_reducible refine Kd.C_alloc ?_ _) | (with_reducible refine Kd.C_drewN ?_ _) | (with_reducible refine Kd.C_drew ?_))); (case side2 => exact HC0_1.out); rintro e w7 ⟨rfl, hb⟩; refine ⟨_, rfl, ?_⟩; have n0_ := Aside0.mk (blk_below (g := gb101) (o := .cells #[.int .i64 a0_0, .slice A0_1 l0_1.length c0_1] 26 (0, 0)) (by (first | exact bp BK101.out | exact BK101.out)) hb); have n1_ := Aside0.mk (below_step (by repeat (first | (with_reducible first | exact HB.out | apply ba | apply bd | apply be | refine bs ?_ GE101.out) | exact HB.out)) hb); clear BK101; clear HB; have BK101 := n0_; have HB := n1_; clear n0_ n1_; (try clear hb); (try clear hb2); (try clear hk); (try clear hi); have hcz8_0 : w7.cell? ⟨gb101, 0, none⟩ = some (.int .i64 a0_0) := (blk_cell BK101.out 0).trans rfl; have hcz8_1 : w7.cell? ⟨gb101, 1, none⟩ = some (.slice A0_1 l0_1.length c0_1) := (blk_cell BK101.out 1).trans rfl; have hfz8_0 := blk_frozen BK101.out 0; have hfz8_1 := blk_frozen BK101.out 1) | ((with_reducible refine gate_callee (f := 58) rfl ?_); refine goesL_ (some 14) rfl rfl Try.func58 (by kernel_rfl) rfl #[.agg #[.int .i64 a0_0, .slice A0_1 l0_1.length c0_1]] rfl (by (try simp only [mA, mC, mN]); first | done | rfl | (simp only [List.length_drop, List.length_take]; rfl)) ?_; (with_reducible refine (spec_voWins.calls k a0_0 _ _ l0_1 t103 _ ?side1 ?side2 A4.out).mono ?_); (case side1 => repeat (first | exact (Kd.C_below HR0_1.out HB.out) | (with_reducible refine Kd.C_alloc ?_ _) | (with_reducible refine Kd.C_drewN ?_ _) | (with_reducible refine Kd.C_drew ?_))); (case side2 => exact HC0_1.out); rintro e w9 ⟨v104, rfl, ho0, hb⟩; refine ⟨_, rfl, ?_⟩; have n0_ := Aside0.mk (Kd.R_lower ho0 (below_size (by repeat (first | (with_reducible first | exact HB.out | apply ba | apply bd | apply be | refine bs ?_ GE101.out) | exact HB.out)))); have n1_ := Aside0.mk (blk_below (g := gb101) (o := .cells #[.int .i64 a0_0, .slice A0_1 l0_1.length c0_1] 26 (0, 0)) (by (first | exact bp BK101.out | exact BK101.out)) hb); have n2_ := Aside0.mk (below_step (by repeat (first | (with_reducible first | exact HB.out | apply ba | apply bd | apply be | refine bs ?_ GE101.out) | exact HB.out)) hb); clear BK101; clear HB; have HO105 := n0_; have BK101 := n1_; have HB := n2_; clear n0_ n1_ n2_; (try clear hb); (try clear hb2); (try clear hk); (try clear hi); (try clear ho0); obtain ⟨Ao10, co10, eo10⟩ := Kd.R_slice HO105.out; subst eo10))
  go_loopg [5, 17] k (fun kq v5 v17 w' => ∃ (x5_1 : List (List Int)) (x17_1 : Int), v17 = .int .i64 x17_1 ∧ Aside0 (spec_GreatestLosing.l0 kq t103 x5_1 t103 (t103.length : Int) x17_1 a0_0 l0_1 = some (r1, r2)) ∧ Aside0 (kq ≤ k) ∧ Aside0 (Kd.R Kd.bool 4 w' w.heap.size (fun _ => True) (.slice Ao10 t103.length co10) t103) ∧ Aside0 (Kd.S (Kd.slice 3 (Kd.int .i64)) 22 w' w.heap.size (fun _ => True) v5 x5_1) ∧ Aside0 (Kd.R Kd.bool 4 w' w.heap.size (fun _ => True) (.slice Ao10 t103.length co10) t103) ∧ Aside0 (w'.heap[gb101]? = some (.cells #[.int .i64 a0_0, (.slice A0_1 l0_1.length c0_1)] 26 (0, 0))) ∧ Aside0 (Below w.heap.size w w'))
  case atStart => exact ⟨(([] : List (List Int))), (0), (by first | rfl | (simp; done) | (simp [*]; done)), H', ⟨Nat.le_refl _⟩, ⟨by (first | exact rp HO105.out | exact HO105.out)⟩, ⟨by first | exact Kd.S_nil _ _ _ _ _ | exact Kd.N_nil _ _ _ _ _ | exact Kd.V_nil _ _ _ _ _ | exact Kd.Q_nil _ _ _ _ _ | exact Kd.R_nil _ _ _ _ _⟩, ⟨by (first | exact rp HO105.out | exact HO105.out)⟩, ⟨by (first | exact bp BK101.out | exact BK101.out)⟩, ⟨by repeat (first | (with_reducible first | exact HB.out | apply ba | apply bd | apply be | refine bs ?_ GE101.out) | exact HB.out)⟩⟩
  case round =>
   clear H'
   try clear p2
   try clear c3
   try clear c4
   try clear c5
   try clear hcz6_0
   try clear hcz6_1
   try clear hcz8_0
   try clear hcz8_1
   try clear hfz6_0
   try clear hfz6_1
   try clear hfz8_0
   try clear hfz8_1
   obtain ⟨x5_1, x17_1, rfl, HA, HK1, HO_4, HO_5, HO_15, BK101, HB⟩ := hrel
   cases gk with
   | zero => exact absurd HA.out (by simp [spec_GreatestLosing.l0])
   | succ k1 =>
    have H := HA.out
    clear HA
    simp only [spec_GreatestLosing.l0] at H
    by_cases c11 : x17_1 < (t103.length : Int)
    ·rw [if_pos c11] at H
     have c11b0 : decide (x17_1 < (t103.length : Int)) = true := decide_eq_true c11
     clear c11
     by_cases c12 : 0 ≤ x17_1
     ·rw [if_pos c12] at H
      have c12b0 : decide (0 ≤ x17_1) = true := decide_eq_true c12
      clear c12
      by_cases c13 : x17_1 < (t103.length : Int)
      ·rw [if_pos c13] at H
       have c13b0 : decide (x17_1 < (t103.length : Int)) = true := decide_eq_true c13
       clear c13
       obtain ⟨bq14, hbq14⟩ : ∃ b_ : Bool, b_ = (rdOf false t103 x17_1) := ⟨_, rfl⟩
       replace H : (if bq14 = true then (spec_GreatestLosing.l0 k1 t103 x5_1 t103 (t103.length : Int) (wrap64 (x17_1 + 1)) a0_0 l0_1) else (spec_GreatestLosing.l1 k1 t103 x5_1 x17_1 true t103 (t103.length : Int) x17_1 (l0_1.length : Int) 0 a0_0 l0_1)) = some (r1, r2) := by rw [← hbq14] at H; exact H
       have Nbq14 := Aside0.mk hbq14
       clear hbq14
       by_cases c15 : bq14 = true
       ·subst c15
        have H1 : (spec_GreatestLosing.l0 k1 t103 x5_1 t103 (t103.length : Int) (wrap64 (x17_1 + 1)) a0_0 l0_1) = some (r1, r2) := by rw [if_pos rfl] at H; exact H
        clear H
        have H := H1
        clear H1
        have H' := Aside0.mk H
        clear H
        have p109 : 0 ≤ (x17_1 : Int) := of_decide_eq_true (by first | (with_reducible assumption) | assumption)
        have q109 : x17_1 < (t103.length : Int) := of_decide_eq_true (by first | (with_reducible assumption) | assumption)
        obtain ⟨ad109, e109, hx109_0⟩ := Kd.at_bool (Kd.R_reads' HO_15.out).2.2 x17_1 p109 q109
        (try rw [← Nbq14.out] at hx109_0)
        cases e109
        replace p109 := eq_true p109
        replace q109 := eq_true q109
        go_wp2
        go_roundg k1
        case measure => have := HK1.out; omega
        case rel => exact ⟨(x5_1), (wrap64 (x17_1 + 1)), (by first | rfl | (simp; done) | (simp [*]; done)), H', ⟨by have := HK1.out; omega⟩, ⟨by (first | exact rp HO_4.out | exact HO_4.out)⟩, ⟨by (with_reducible repeat (first | apply Kd.S_alloc | apply Kd.S_drewN | apply Kd.S_drew)); exact HO_5.out⟩, ⟨by (first | exact rp HO_15.out | exact HO_15.out)⟩, ⟨by (first | exact bp BK101.out | exact BK101.out)⟩, ⟨by repeat (first | (with_reducible first | exact HB.out | apply ba | apply bd | apply be | refine bs ?_ GE101.out) | exact HB.out)⟩⟩
       ·replace c15 := Bool.eq_false_iff.mpr c15
        subst c15
        have H1 : (spec_GreatestLosing.l1 k1 t103 x5_1 x17_1 true t103 (t103.length : Int) x17_1 (l0_1.length : Int) 0 a0_0 l0_1) = some (r1, r2) := by rw [if_neg (show ¬ (false = true) by decide)] at H; exact H
        clear H
        have H := H1
        clear H1
        have H' := Aside0.mk H
        clear H
        have p109 : 0 ≤ (x17_1 : Int) := of_decide_eq_true (by first | (with_reducible assumption) | assumption)
        have q109 : x17_1 < (t103.length : Int) := of_decide_eq_true (by first | (with_reducible assumption) | assumption)
        obtain ⟨ad109, e109, hx109_0⟩ := Kd.at_bool (Kd.R_reads' HO_15.out).2.2 x17_1 p109 q109
        (try rw [← Nbq14.out] at hx109_0)
        cases e109
        replace p109 := eq_true p109
        replace q109 := eq_true q109
        have hcz16_0 : wr.cell? ⟨gb101, 0, none⟩ = some (.int .i64 a0_0) := (blk_cell BK101.out 0).trans rfl
        have hcz16_1 : wr.cell? ⟨gb101, 1, none⟩ = some (.slice A0_1 l0_1.length c0_1) := (blk_cell BK101.out 1).trans rfl
        have hfz16_0 := blk_frozen BK101.out 0
        have hfz16_1 := blk_frozen BK101.out 1
        go_wp2
        go_loopg [8, 26] k1 (fun kq v8 v26 w' => ∃ (x8_2 : Bool) (x26_2 : Int), v8 = .bool x8_2 ∧ v26 = .int .i64 x26_2 ∧ Aside0 (spec_GreatestLosing.l1 kq t103 x5_1 x17_1 x8_2 t103 (t103.length : Int) x17_1 (l0_1.length : Int) x26_2 a0_0 l0_1 = some (r1, r2)) ∧ Aside0 (kq ≤ k1) ∧ Aside0 (Kd.R Kd.bool 4 w' w.heap.size (fun _ => True) (.slice (some ad109) t103.length co10) t103) ∧ Aside0 (Kd.S (Kd.slice 3 (Kd.int .i64)) 22 w' w.heap.size (fun _ => True) u5 x5_1) ∧ Aside0 (Kd.R Kd.bool 4 w' w.heap.size (fun _ => True) (.slice (some ad109) t103.length co10) t103) ∧ Aside0 (w'.heap[gb101]? = some (.cells #[.int .i64 a0_0, (.slice A0_1 l0_1.length c0_1)] 26 (0, 0))) ∧ Aside0 (Below w.heap.size w w'))
        case atStart => exact ⟨(true), (0), (by first | rfl | (simp; done) | (simp [*]; done)), (by first | rfl | (simp; done) | (simp [*]; done)), H', ⟨Nat.le_refl _⟩, ⟨by (first | exact rp HO_4.out | exact HO_4.out)⟩, ⟨by (with_reducible repeat (first | apply Kd.S_alloc | apply Kd.S_drewN | apply Kd.S_drew)); exact HO_5.out⟩, ⟨by (first | exact rp HO_15.out | exact HO_15.out)⟩, ⟨by (first | exact bp BK101.out | exact BK101.out)⟩, ⟨by repeat (first | (with_reducible first | exact HB.out | apply ba | apply bd | apply be | refine bs ?_ GE101.out) | exact HB.out)⟩⟩
        case round =>
         clear H'
         try clear c1
         try clear p1
         try clear q1
         try clear hx1
         try clear p2
         try clear c3
         try clear c4
         try clear c5
         try clear p6
         try clear p10
         try clear q10
         try clear hx10
         try clear c11
         try clear c11b0
         try clear c12
         try clear c12b0
         try clear c13
         try clear c13b0
         try clear q14
         try clear c15
         try clear hcz16_0
         try clear hcz16_1
         try clear hcz6_0
         try clear hcz6_1
         try clear hcz8_0
         try clear hcz8_1
         try clear hfz16_0
         try clear hfz16_1
         try clear hfz6_0
         try clear hfz6_1
         try clear hfz8_0
         try clear hfz8_1
         try clear hx109_0
         try clear p109
         try clear p2
         try clear q109
         obtain ⟨x8_2, x26_2, rfl, rfl, HA, HK2, HO_4, HO_5, HO_15, BK101, HB⟩ := hrel
         cases gk with
         | zero => exact absurd HA.out (by simp [spec_GreatestLosing.l1])
         | succ k2 =>
          have H := HA.out
          clear HA
          simp only [spec_GreatestLosing.l1] at H
          by_cases c17 : x26_2 < (l0_1.length : Int)
          ·rw [if_pos c17] at H
           have c17b0 : decide (x26_2 < (l0_1.length : Int)) = true := decide_eq_true c17
           clear c17
           by_cases c18 : x8_2 = true
           ·subst c18
            have H1 : (if 0 ≤ x26_2 then (if (Int.tmod (shr .i64 x17_1 x26_2) 2) = 1 then (spec_GreatestLosing.l1 k2 t103 x5_1 x17_1 true t103 (t103.length : Int) x17_1 (l0_1.length : Int) (wrap64 (x26_2 + 1)) a0_0 l0_1) else (if 0 ≤ (wrap64 (x17_1 + (shl .i64 1 x26_2))) then (if (wrap64 (x17_1 + (shl .i64 1 x26_2))) < (t103.length : Int) then (spec_GreatestLosing.l1 k2 t103 x5_1 x17_1 (rdOf false t103 (wrap64 (x17_1 + (shl .i64 1 x26_2)))) t103 (t103.length : Int) x17_1 (l0_1.length : Int) (wrap64 (x26_2 + 1)) a0_0 l0_1) else (none)) else (none))) else (none)) = some (r1, r2) := by rw [if_pos rfl] at H; exact H
            clear H
            have H := H1
            clear H1
            by_cases c19 : 0 ≤ x26_2
            ·rw [if_pos c19] at H
             have c19b0 := eq_true c19
             have c19b1 : decide (0 ≤ x26_2) = true := decide_eq_true c19
             clear c19
             obtain ⟨ji20, hji20⟩ : ∃ j_ : Int, (shr .i64 x17_1 x26_2) = j_ := ⟨_, rfl⟩
             replace H : (if (Int.tmod (ji20) 2) = 1 then (spec_GreatestLosing.l1 k2 t103 x5_1 x17_1 true t103 (t103.length : Int) x17_1 (l0_1.length : Int) (wrap64 (x26_2 + 1)) a0_0 l0_1) else (if 0 ≤ (wrap64 (x17_1 + (shl .i64 1 x26_2))) then (if (wrap64 (x17_1 + (shl .i64 1 x26_2))) < (t103.length : Int) then (spec_GreatestLosing.l1 k2 t103 x5_1 x17_1 (rdOf false t103 (wrap64 (x17_1 + (shl .i64 1 x26_2)))) t103 (t103.length : Int) x17_1 (l0_1.length : Int) (wrap64 (x26_2 + 1)) a0_0 l0_1) else (none)) else (none))) = some (r1, r2) := by first | (rw [hji20] at H; exact H) | (simp only [hji20] at H ⊢; exact H)
             have hji20_ : (x17_1 / 2 ^ min x26_2.toNat 64) = ji20 := hji20
             have hji20z : x26_2 ≤ 64 → (x17_1 / 2 ^ x26_2.toNat) = ji20 := shr_small hji20
             by_cases c21 : (Int.tmod (ji20) 2) = 1
             ·rw [if_pos c21] at H
              have c21b0 : ((Int.tmod (ji20) 2) == 1) = true := beq_iff_eq.mpr c21
              have c21b1 : ((Int.tmod (ji20) 2) != 1) = false := bne_eq_false_iff_eq.mpr c21
              clear c21
              have H' := Aside0.mk H
              clear H
              go_wp2
              go_roundg k2
              case measure => have := HK1.out; have := HK2.out; omega
              case rel => exact ⟨(true), (wrap64 (x26_2 + 1)), (by first | rfl | (simp; done) | (simp [*]; done)), (by first | rfl | (simp; done) | (simp [*]; done)), H', ⟨by have := HK1.out; have := HK2.out; omega⟩, ⟨by (first | exact rp HO_4.out | exact HO_4.out)⟩, ⟨by (with_reducible repeat (first | apply Kd.S_alloc | apply Kd.S_drewN | apply Kd.S_drew)); exact HO_5.out⟩, ⟨by (first | exact rp HO_15.out | exact HO_15.out)⟩, ⟨by (first | exact bp BK101.out | exact BK101.out)⟩, ⟨by repeat (first | (with_reducible first | exact HB.out | apply ba | apply bd | apply be | refine bs ?_ GE101.out) | exact HB.out)⟩⟩
             ·rw [if_neg c21] at H
              have c21b0 : ((Int.tmod (ji20) 2) == 1) = false := beq_eq_false_iff_ne.mpr c21
              have c21b1 : ((Int.tmod (ji20) 2) != 1) = true := bne_iff_ne.mpr c21
              have c22b0 := eq_true (of_decide_eq_true (by first | (with_reducible assumption) | assumption) : 0 ≤ x26_2)
              obtain ⟨ji23, hji23⟩ : ∃ j_ : Int, (shl .i64 1 x26_2) = j_ := ⟨_, rfl⟩
              replace H : (if 0 ≤ (wrap64 (x17_1 + (ji23))) then (if (wrap64 (x17_1 + (ji23))) < (t103.length : Int) then (spec_GreatestLosing.l1 k2 t103 x5_1 x17_1 (rdOf false t103 (wrap64 (x17_1 + (ji23)))) t103 (t103.length : Int) x17_1 (l0_1.length : Int) (wrap64 (x26_2 + 1)) a0_0 l0_1) else (none)) else (none)) = some (r1, r2) := by first | (rw [hji23] at H; exact H) | (simp only [hji23] at H ⊢; exact H)
              have hji23_ : (IntKind.i64.wrap (1 * 2 ^ min x26_2.toNat 64)) = ji23 := hji23
              have hji23z : x26_2 ≤ 64 → (IntKind.i64.wrap (1 * 2 ^ x26_2.toNat)) = ji23 := shl_small hji23
              have hji23u : (IntKind.i64.wrap (2 ^ min x26_2.toNat 64)) = ji23 := by have h_ := hji23_; rw [Int.one_mul] at h_; exact h_
              have hji23v : x26_2 ≤ 64 → (IntKind.i64.wrap (2 ^ x26_2.toNat)) = ji23 := fun hle_ => by have h_ := hji23z hle_; rw [Int.one_mul] at h_; exact h_
              have hji23y : (wrap64 (1 * 2 ^ min x26_2.toNat 64)) = ji23 := (i64_w _).symm.trans hji23_
              have hji23x : x26_2 ≤ 64 → (wrap64 (1 * 2 ^ x26_2.toNat)) = ji23 := fun h_ => (i64_w _).symm.trans (hji23z h_)
              obtain ⟨ji24, hji24⟩ : ∃ j_ : Int, (wrap64 (x17_1 + (ji23))) = j_ := ⟨_, rfl⟩
              replace H : (if 0 ≤ (ji24) then (if (ji24) < (t103.length : Int) then (spec_GreatestLosing.l1 k2 t103 x5_1 x17_1 (rdOf false t103 (ji24)) t103 (t103.length : Int) x17_1 (l0_1.length : Int) (wrap64 (x26_2 + 1)) a0_0 l0_1) else (none)) else (none)) = some (r1, r2) := by first | (rw [hji24] at H; exact H) | (simp only [hji24] at H ⊢; exact H)
              have hji24w : (IntKind.i64.wrap (x17_1 + (ji23))) = ji24 := (i64_w _).trans hji24
              by_cases c25 : 0 ≤ (ji24)
              ·rw [if_pos c25] at H
               have c25b0 : decide (0 ≤ (ji24)) = true := decide_eq_true c25
               clear c25
               by_cases c26 : (ji24) < (t103.length : Int)
               ·rw [if_pos c26] at H
                have c26b0 : decide ((ji24) < (t103.length : Int)) = true := decide_eq_true c26
                clear c26
                have H' := Aside0.mk H
                clear H
                have p110 : 0 ≤ ((ji24) : Int) := of_decide_eq_true (by first | (with_reducible assumption) | assumption)
                have q110 : (ji24) < (t103.length : Int) := of_decide_eq_true (by first | (with_reducible assumption) | assumption)
                obtain ⟨ad110, e110, hx110_0⟩ := Kd.at_bool (Kd.R_reads' HO_4.out).2.2 (ji24) p110 q110
                (try rw [← Nbq14.out] at hx110_0)
                obtain rfl : ad109 = ad110 := (by injection e110)
                replace p110 := eq_true p110
                replace q110 := eq_true q110
                go_wp2
                go_roundg k2
                case measure => have := HK1.out; have := HK2.out; omega
                case rel => exact ⟨(rdOf false t103 (ji24)), (wrap64 (x26_2 + 1)), (by first | rfl | (simp; done) | (simp only [← hji24] <;> (first | rfl | simp)) | (simp [*]; done)), (by first | rfl | (simp; done) | (simp [*]; done)), H', ⟨by have := HK1.out; have := HK2.out; omega⟩, ⟨by (first | exact rp HO_4.out | exact HO_4.out)⟩, ⟨by (with_reducible repeat (first | apply Kd.S_alloc | apply Kd.S_drewN | apply Kd.S_drew)); exact HO_5.out⟩, ⟨by (first | exact rp HO_15.out | exact HO_15.out)⟩, ⟨by (first | exact bp BK101.out | exact BK101.out)⟩, ⟨by repeat (first | (with_reducible first | exact HB.out | apply ba | apply bd | apply be | refine bs ?_ GE101.out) | exact HB.out)⟩⟩
               ·rw [if_neg c26] at H
                exact absurd H (by simp)
              ·rw [if_neg c25] at H
               exact absurd H (by simp)
            ·rw [if_neg c19] at H
             exact absurd H (by simp)
           ·replace c18 := Bool.eq_false_iff.mpr c18
            subst c18
            have H1 : (spec_GreatestLosing.l1 k2 t103 x5_1 x17_1 false t103 (t103.length : Int) x17_1 (l0_1.length : Int) (wrap64 (x26_2 + 1)) a0_0 l0_1) = some (r1, r2) := by rw [if_neg (show ¬ (false = true) by decide)] at H; exact H
            clear H
            have H := H1
            clear H1
            have H' := Aside0.mk H
            clear H
            go_wp2
            go_roundg k2
            case measure => have := HK1.out; have := HK2.out; omega
            case rel => exact ⟨(false), (wrap64 (x26_2 + 1)), (by first | rfl | (simp; done) | (simp [*]; done)), (by first | rfl | (simp; done) | (simp [*]; done)), H', ⟨by have := HK1.out; have := HK2.out; omega⟩, ⟨by (first | exact rp HO_4.out | exact HO_4.out)⟩, ⟨by (with_reducible repeat (first | apply Kd.S_alloc | apply Kd.S_drewN | apply Kd.S_drew)); exact HO_5.out⟩, ⟨by (first | exact rp HO_15.out | exact HO_15.out)⟩, ⟨by (first | exact bp BK101.out | exact BK101.out)⟩, ⟨by repeat (first | (with_reducible first | exact HB.out | apply ba | apply bd | apply be | refine bs ?_ GE101.out) | exact HB.out)⟩⟩
          ·rw [if_neg c17] at H
           have c17b0 : decide (x26_2 < (l0_1.length : Int)) = false := decide_eq_false c17
           clear c17
           by_cases c27 : x8_2 = true
           ·subst c27
            have H1 : ((spec_voList.f k2 x17_1).bind fun t111 => (if x5_1.length < 5864062014805 then (spec_GreatestLosing.l0 k2 t103 (x5_1 ++ [t111]) t103 (t103.length : Int) (wrap64 (x17_1 + 1)) a0_0 l0_1) else (none))) = some (r1, r2) := by rw [if_pos rfl] at H; exact H
            clear H
            have H := H1
            clear H1
            replace H := oB H
            obtain ⟨t111, A280, H⟩ := H
            replace H : (if x5_1.length < 5864062014805 then (spec_GreatestLosing.l0 k2 t103 (x5_1 ++ [t111]) t103 (t103.length : Int) (wrap64 (x17_1 + 1)) a0_0 l0_1) else (none)) = some (r1, r2) := H
            have A28 := Aside0.mk A280
            clear A280
            by_cases c29 : x5_1.length < 5864062014805
            ·rw [if_pos c29] at H
             have LMc29 := Aside0.mk c29
             clear c29
             obtain ⟨y114, hy114⟩ : ∃ y_ : List (List Int), y_ = (x5_1 ++ [t111]) := ⟨_, rfl⟩
             replace H : (spec_GreatestLosing.l0 k2 t103 y114 t103 (t103.length : Int) (wrap64 (x17_1 + 1)) a0_0 l0_1) = some (r1, r2) := by first | (rw [hy114]; with_reducible exact H) | (have H2_ := (Option.bind_some _ _).symm.trans H; rw [hy114]; with_reducible exact H2_) | (have H2_ := (Option.bind_some _ _).symm.trans H; with_reducible exact H2_) | with_reducible exact H | (rw [hy114]; exact H) | exact H
             have Ny114 := Aside0.mk hy114
             clear hy114
             have H' := Aside0.mk H
             clear H
             go_wp2_with (first | ((with_reducible refine gate_callee (f := 87) rfl ?_); refine goesL_ (some 50) rfl rfl Try.func87 (by kernel_rfl) rfl #[.int .i64 x17_1] rfl (by (try simp only [mA, mC, mN]); first | done | rfl | (simp only [List.length_drop, List.length_take]; rfl)) ?_; (with_reducible refine (spec_voList.calls k2 x17_1 t111 _ A28.out).mono ?_); rintro e w30 ⟨v112, rfl, ho0, hb⟩; refine ⟨_, rfl, ?_⟩; have n0_ := Aside0.mk (Kd.R_below (by (first | exact rp HO_4.out | exact HO_4.out)) hb); have n1_ := Aside0.mk (Kd.S_elder' (by (with_reducible repeat (first | apply Kd.S_alloc | apply Kd.S_drewN | apply Kd.S_drew)); exact HO_5.out) (Kd.R_base ho0) hb); have n2_ := Aside0.mk (Kd.R_below (by (first | exact rp HO_15.out | exact HO_15.out)) hb); have n3_ := Aside0.mk (Kd.R_lower ho0 (below_size (by repeat (first | (with_reducible first | exact HB.out | apply ba | apply bd | apply be | refine bs ?_ GE101.out) | exact HB.out)))); have n4_ := Aside0.mk (blk_below (g := gb101) (o := .cells #[.int .i64 a0_0, .slice A0_1 l0_1.length c0_1] 26 (0, 0)) (by (first | exact bp BK101.out | exact BK101.out)) hb); have n5_ := Aside0.mk (below_step (by repeat (first | (with_reducible first | exact HB.out | apply ba | apply bd | apply be | refine bs ?_ GE101.out) | exact HB.out)) hb); clear HO_4; clear HO_5; clear HO_15; clear BK101; clear HB; have HO_4 := n0_; have HO_5 := n1_; have HO_15 := n2_; have HO113 := n3_; have BK101 := n4_; have HB := n5_; clear n0_ n1_ n2_ n3_ n4_ n5_; (try clear hb); (try clear hb2); (try clear hk); (try clear hi); (try clear ho0); obtain ⟨Ao32, co32, eo32⟩ := Kd.R_slice HO113.out; subst eo32) | ((with_reducible refine gate_builtin (b := .append) (xs := #[.tmp 48, .tmp 51]) rfl ?_); at_builtin; refine Kd.S_append (Kd.slice 3 (Kd.int .i64)) (w0 := w) w.heap.size rfl (.tmp 48) (.tmp 51) 33 22 (.slice none 0 0) 24 rfl Try.underlying33 info22 rfl (by decide) (by omega) u5 x5_1 t111 [.slice Ao32 t111.length co32] (fun _ => True) (fun k_ => some k_ = (.slice Ao32 t111.length co32 : Value).ownBlock) rfl rfl ?aP (fun k_ hk_ => ((Kd.R_mono (ok' := fun k_ => ((fun _ => True)) k_ ∧ some k_ ≠ (u5 : Value).ownBlock) (Kd.R_apart' (HO113.out) (Kd.S_typed HO_5.out) (by decide)) (fun k_ hk => ⟨trivial, hk.2⟩))).1 k_ hk_.symm) ?aF ?aO ?aB ?aS ?aL ?_; (case aP => exact Kd.M_row (Kd.R_mono (Kd.R_tight rfl (Kd.R_mono (ok' := fun k_ => ((fun _ => True)) k_ ∧ some k_ ≠ (u5 : Value).ownBlock) (Kd.R_apart' (HO113.out) (Kd.S_typed HO_5.out) (by decide)) (fun k_ hk => ⟨trivial, hk.2⟩))) (fun _ h_ => h_))); (case aB => exact (by repeat (first | (with_reducible first | exact HB.out | apply ba | apply bd | apply be | refine bs ?_ GE101.out) | exact HB.out))); (case aF => exact (fun _ _ => trivial)); (case aO => exact (by (with_reducible repeat (first | apply Kd.S_alloc | apply Kd.S_drewN | apply Kd.S_drew)); exact Kd.S_mono HO_5.out (fun k_ hk => ⟨trivial, fun e_ => hk.2 e_⟩))); (case aS => exact (below_size (by repeat (first | (with_reducible first | exact HB.out | apply ba | apply bd | apply be | refine bs ?_ GE101.out) | exact HB.out)))); (case aL => have := LMc29.out; omega); intro v115 w31 ho hb hg hat; rw [← Ny114.out] at ho; have n0_ := Aside0.mk (Kd.R_over' (by (first | exact rp HO_4.out | exact HO_4.out)) (Kd.S_typed (by (with_reducible repeat (first | apply Kd.S_alloc | apply Kd.S_drewN | apply Kd.S_drew)); exact HO_5.out)) (by decide) hg); have n1_ := Aside0.mk (Kd.R_over' (by (first | exact rp HO_15.out | exact HO_15.out)) (Kd.S_typed (by (with_reducible repeat (first | apply Kd.S_alloc | apply Kd.S_drewN | apply Kd.S_drew)); exact HO_5.out)) (by decide) hg); have n2_ := Aside0.mk (blk_grown (g := gb101) (o := .cells #[.int .i64 a0_0, .slice A0_1 l0_1.length c0_1] 26 (0, 0)) (by (first | exact bp BK101.out | exact BK101.out)) hg (Kd.S_ne HO_5.out BK101.out (by decide))); have n3_ := Aside0.mk (hb); have n4_ := Aside0.mk (ho); clear HO_4; clear HO_15; clear BK101; clear HB; clear HO_5; clear HO113; have HO_4 := n0_; have HO_15 := n1_; have BK101 := n2_; have HB := n3_; have HO116 := n4_; clear n0_ n1_ n2_ n3_ n4_; clear ho hb hg hat))
             go_roundg k2
             case measure => have := HK1.out; have := HK2.out; omega
             case rel => exact ⟨(y114), (wrap64 (x17_1 + 1)), (by first | rfl | (simp; done) | (simp [*]; done)), H', ⟨by have := HK1.out; have := HK2.out; omega⟩, ⟨by (first | exact rp HO_4.out | exact HO_4.out)⟩, ⟨by (with_reducible repeat (first | apply Kd.S_alloc | apply Kd.S_drewN | apply Kd.S_drew)); exact HO116.out⟩, ⟨by (first | exact rp HO_15.out | exact HO_15.out)⟩, ⟨by (first | exact bp BK101.out | exact BK101.out)⟩, ⟨by repeat (first | (with_reducible first | exact HB.out | apply ba | apply bd | apply be | refine bs ?_ GE101.out) | exact HB.out)⟩⟩
            ·rw [if_neg c29] at H
             exact absurd H (by simp)
           ·replace c27 := Bool.eq_false_iff.mpr c27
            subst c27
            have H1 : (spec_GreatestLosing.l0 k2 t103 x5_1 t103 (t103.length : Int) (wrap64 (x17_1 + 1)) a0_0 l0_1) = some (r1, r2) := by rw [if_neg (show ¬ (false = true) by decide)] at H; exact H
            clear H
            have H := H1
            clear H1
            have H' := Aside0.mk H
            clear H
            go_wp2
            go_roundg k2
            case measure => have := HK1.out; have := HK2.out; omega
            case rel => exact ⟨(x5_1), (wrap64 (x17_1 + 1)), (by first | rfl | (simp; done) | (simp [*]; done)), H', ⟨by have := HK1.out; have := HK2.out; omega⟩, ⟨by (first | exact rp HO_4.out | exact HO_4.out)⟩, ⟨by (with_reducible repeat (first | apply Kd.S_alloc | apply Kd.S_drewN | apply Kd.S_drew)); exact HO_5.out⟩, ⟨by (first | exact rp HO_15.out | exact HO_15.out)⟩, ⟨by (first | exact bp BK101.out | exact BK101.out)⟩, ⟨by repeat (first | (with_reducible first | exact HB.out | apply ba | apply bd | apply be | refine bs ?_ GE101.out) | exact HB.out)⟩⟩
      ·rw [if_neg c13] at H
       exact absurd H (by simp)
     ·rw [if_neg c12] at H
      exact absurd H (by simp)
    ·rw [if_neg c11] at H
     have c11b0 : decide (x17_1 < (t103.length : Int)) = false := decide_eq_false c11
     clear c11
     replace H := oB H
     obtain ⟨t106, A330, H⟩ := H
     replace H : (some (t106, true)) = some (r1, r2) := H
     have A33 := Aside0.mk A330
     clear A330
     simp only [Option.some.injEq, Prod.mk.injEq] at H
     obtain ⟨rfl, rfl⟩ := H
     obtain ⟨Ao34, co34, eo34⟩ := Kd.S_slice HO_5.out
     subst eo34
     go_wp2_with (first | ((with_reducible refine gate_callee (f := 88) rfl ?_); refine goesL_ (some 55) rfl rfl Try.func88 (by kernel_rfl) rfl #[.slice Ao34 x5_1.length co34] rfl (by (try simp only [mA, mC, mN]); first | done | rfl | (simp only [List.length_drop, List.length_take]; rfl)) ?_; (with_reducible refine (spec_voSorted.calls k1 w.heap.size _ _ x5_1 t106 _ (by (with_reducible repeat (first | apply Kd.S_alloc | apply Kd.S_drewN | apply Kd.S_drew)); exact Kd.S_mono HO_5.out (fun _ _ => trivial)) (below_size (by repeat (first | (with_reducible first | exact HB.out | apply ba | apply bd | apply be | refine bs ?_ GE101.out) | exact HB.out))) A33.out).mono ?_); rintro e w35 ⟨v107, rfl, ho0, hb⟩; refine ⟨_, rfl, ?_⟩; have n0_ := Aside0.mk (Kd.R_below (by (first | exact rp HO_4.out | exact HO_4.out)) hb); have n2_ := Aside0.mk (Kd.R_below (by (first | exact rp HO_15.out | exact HO_15.out)) hb); have n3_ := Aside0.mk ho0; have n4_ := Aside0.mk (blk_below (g := gb101) (o := .cells #[.int .i64 a0_0, .slice A0_1 l0_1.length c0_1] 26 (0, 0)) (by (first | exact bp BK101.out | exact BK101.out)) hb); have n5_ := Aside0.mk (below_step (by repeat (first | (with_reducible first | exact HB.out | apply ba | apply bd | apply be | refine bs ?_ GE101.out) | exact HB.out)) hb); clear HO_4; clear HO_5; clear HO_15; clear BK101; clear HB; have HO_4 := n0_; have HO_15 := n2_; have HO108 := n3_; have BK101 := n4_; have HB := n5_; clear n0_ n2_ n3_ n4_ n5_; (try clear hb); (try clear hb2); (try clear hk); (try clear hi); (try clear ho0)))
     go_ret2
     exact ⟨_, by first | rfl | (simp <;> rfl) | (simp [*] <;> rfl), by (with_reducible repeat (first | apply Kd.S_alloc | apply Kd.S_drewN | apply Kd.S_drew)); exact Kd.S_mono HO108.out (fun _ hk => trivial), by repeat (first | (with_reducible first | exact HB.out | apply ba | apply bd | apply be | refine bs ?_ GE101.out) | exact HB.out)⟩
 ·replace c3 := Bool.eq_false_iff.mpr c3
  subst c3
  have H1 : (some (([] : List (List Int)), false)) = some (r1, r2) := by rw [if_neg (show ¬ (false = true) by decide)] at H; exact H
  clear H
  have H := H1
  clear H1
  simp only [Option.some.injEq, Prod.mk.injEq] at H
  obtain ⟨rfl, rfl⟩ := H
  go_enter Try.func46, Try.ntmps46
  go_wp2_with (first | ((with_reducible refine gate_dst (N := 1) rfl ?_); refine box_event ?hg (N := 1) ?hd (cs := #[.int .i64 a0_0, .slice A0_1 l0_1.length c0_1]) (t := 26) ?hr ?_; (case hd => rfl); (case hg => rfl); (case hr => first | (go_simp; done) | (go_simp; rfl)); intro gb101 hg w36 hbox hb; have n0_ := Aside0.mk (below_step (by repeat (first | (with_reducible first | exact HB.out | apply ba | apply bd | apply be) | exact HB.out)) hb); have n1_ := Aside0.mk (hbox); have n2_ := Aside0.mk ((by rw [hg]; exact (below_size (by repeat (first | (with_reducible first | exact HB.out | apply ba | apply bd | apply be) | exact HB.out))) : w.heap.size ≤ gb101)); have n3_ := Aside0.mk ((by rw [hg]; exact (below_size (by repeat (first | (with_reducible first | exact HB.out | apply ba | apply bd | apply be) | exact HB.out))) : w.heap.size ≤ gb101)); clear HB; have HB := n0_; have BK101 := n1_; have GW101 := n2_; have GE101 := n3_; clear n0_ n1_ n2_ n3_; clear hb hbox hg; have hcz37_0 : w36.cell? ⟨gb101, 0, none⟩ = some (.int .i64 a0_0) := (blk_cell BK101.out 0).trans rfl; have hcz37_1 : w36.cell? ⟨gb101, 1, none⟩ = some (.slice A0_1 l0_1.length c0_1) := (blk_cell BK101.out 1).trans rfl; have hfz37_0 := blk_frozen BK101.out 0; have hfz37_1 := blk_frozen BK101.out 1) | ((with_reducible refine gate_callee (f := 55) rfl ?_); refine goesL_ (some 11) rfl rfl Try.func55 (by kernel_rfl) rfl #[.agg #[.int .i64 a0_0, .slice A0_1 l0_1.length c0_1]] rfl (by (try simp only [mA, mC, mN]); first | done | rfl | (simp only [List.length_drop, List.length_take]; rfl)) ?_; (with_reducible refine (spec_voGood.calls k a0_0 _ _ l0_1 false _ ?side1 ?side2 A2.out).mono ?_); (case side1 => repeat (first | exact (Kd.C_below HR0_1.out HB.out) | (with_reducible refine Kd.C_alloc ?_ _) | (with_reducible refine Kd.C_drewN ?_ _) | (with_reducible refine Kd.C_drew ?_))); (case side2 => exact HC0_1.out); rintro e w38 ⟨rfl, hb⟩; refine ⟨_, rfl, ?_⟩; have n0_ := Aside0.mk (blk_below (g := gb101) (o := .cells #[.int .i64 a0_0, .slice A0_1 l0_1.length c0_1] 26 (0, 0)) (by (first | exact bp BK101.out | exact BK101.out)) hb); have n1_ := Aside0.mk (below_step (by repeat (first | (with_reducible first | exact HB.out | apply ba | apply bd | apply be | refine bs ?_ GE101.out) | exact HB.out)) hb); clear BK101; clear HB; have BK101 := n0_; have HB := n1_; clear n0_ n1_; (try clear hb); (try clear hb2); (try clear hk); (try clear hi)))
  go_ret2
  exact ⟨_, by first | rfl | (simp <;> rfl) | (simp [*] <;> rfl), by first | exact Kd.S_nil _ _ _ _ _ | exact Kd.N_nil _ _ _ _ _ | exact Kd.V_nil _ _ _ _ _ | exact Kd.Q_nil _ _ _ _ _ | exact Kd.R_nil _ _ _ _ _, by repeat (first | (with_reducible first | exact HB.out | apply ba | apply bd | apply be | refine bs ?_ GE101.out) | exact HB.out)⟩

end Go.Proofs.Yticnoiflccbhcaa.Q

namespace Go.Proofs.Yticnoiflccbhcaa.Q
open Go.RowKit Go.Proofs.YticnoiflccbhcaaW.PrintWords Go.Proofs.YticnoiflccbhcaaW.PrintLast Go.Proofs.YticnoiflccbhcaaW.PrintMore Go.Proofs.YticnoiflccbhcaaM
set_option linter.unusedVariables false
set_option linter.unusedSimpArgs false
/-- A set that loses, but wins with any one member more. -/
def greatB (W : List Bool) (n m : Nat) : Bool := !(W.getD m false) && (List.range n).all fun i => bitB m i || W.getD (m + 2 ^ i) false
theorem bitB_or {m i : Nat} (h : ¬ bitB m i = true) (hm : m < 2 ^ 62) (hi : i ≤ 61) : Go.bits .or .i64 (m : Int) ((2 ^ i : Nat) : Int) = ((m + 2 ^ i : Nat) : Int) := by
  have hp : 2 ^ i ≤ 2 ^ 61 := Nat.pow_le_pow_right (by omega) hi
  have hb : m / 2 ^ i % 2 = 0 := by
    simp [bitB] at h
    omega
  rw [or_nat m (2 ^ i) hm (by omega), or_pow i m hb]
theorem bitB_lt {m n i : Nat} (h : ¬ bitB m i = true) (hm : m < 2 ^ n) (hi : i < n) : m + 2 ^ i < 2 ^ n := by
  have hb : m / 2 ^ i % 2 = 0 := by
    simp [bitB] at h
    omega
  have := or_pow i m hb
  rw [← this]
  exact Nat.or_lt_two_pow hm (Nat.pow_lt_pow_right (by omega) hi)
theorem impl_votes_isGreatest.ev_l (W : List Bool) (n m : Nat) (hW : W.length = 2 ^ n) (hn : n ≤ 18) (hm : m < 2 ^ n) : ∀ (d i : Nat), i + d = n → Ev (fun k => impl_votes_isGreatest.l0 k (m : Int) (n : Int) (i : Int) (n : Int) W) ((List.range' i d).all fun i => bitB m i || W.getD (m + 2 ^ i) false) := by
  have hp : 2 ^ n ≤ 2 ^ 18 := Nat.pow_le_pow_right (by omega) hn
  intro d
  induction d with
  | zero =>
    intro i h
    refine ev_step ?_
    simp only [impl_votes_isGreatest.l0]
    rw [ev_neg (by omega), ev_now]
    rfl
  | succ d ih =>
    intro i h
    refine ev_step ?_
    simp only [impl_votes_isGreatest.l0]
    have hih := ih (i + 1) (by omega)
    rw [ev_pos (by omega), ev_bind (ev_of (show impl_has.f (m : Int) (i : Int) = some (bitB m i) from impl_has.v m i (by omega) (by omega))), w64 (by omega) (by omega), List.range'_succ, List.all_cons]
    by_cases hb : bitB m i = true
    · rw [ev_pos hb, hb]
      exact hih
    · have hlt : m + 2 ^ i < W.length := by rw [hW]; exact bitB_lt hb hm (by omega)
      rw [ev_neg hb, ev_pos (by omega), shl_one i (by omega), bitB_or hb (by omega) (by omega), ev_pos (Int.natCast_nonneg _), ev_pos (Int.ofNat_lt.2 hlt), rdOf_nat, Bool.eq_false_iff.2 hb, Bool.false_or]
      cases hw : W.getD (m + 2 ^ i) false with
      | true =>
        rw [ev_pos rfl]
        exact hih
      | false =>
        rw [ev_neg (by decide), ev_now]
        rfl
theorem impl_votes_isGreatest.ev (W : List Bool) (n m : Nat) (hW : W.length = 2 ^ n) (hn : n ≤ 18) (hm : m < 2 ^ n) : Ev (fun k => impl_votes_isGreatest.f k (n : Int) W (m : Int)) (greatB W n m) := by
  simp only [impl_votes_isGreatest.f]
  rw [ev_pos (by omega), ev_pos (by omega), rdOf_nat, greatB]
  cases hw : W.getD m false with
  | true =>
    rw [ev_pos rfl, ev_now]
    rfl
  | false =>
    rw [ev_neg (by decide), List.range_eq_range']
    exact impl_votes_isGreatest.ev_l W n m hW hn hm n 0 (by omega)
def glV (q : Int) (ws : List Int) : List (List Int) × Bool := if goodB q ws = true then (Go.Proofs.YticnoiflccbhcaaS.sortL (takeL (greatB (winsL q ws) ws.length) (winsL q ws).length), true) else ([], false)
theorem impl_GreatestLosing.ev (q : Int) (ws : List Int) (hl : ws.length ≤ 9223372036854775807) : Ev (fun k => impl_GreatestLosing.f k q ws) (glV q ws) := by
  simp only [impl_GreatestLosing.f]
  rw [ev_bind (impl_IsCommittee.ev q ws hl)]
  unfold glV
  cases hg : goodB q ws with
  | false => rw [ev_neg (by decide), ev_now, if_neg (by decide)]
  | true =>
    have hc := (good_iff q ws).1 hg
    have h9 := hc.l9
    have hp := hc.pow
    have hwl := winsL_length q ws
    have hs := impl_votes_sets.ev (winsL q ws) (by omega) (fun k x => impl_votes_isGreatest.f k (ws.length : Int) (winsL q ws) x) (greatB (winsL q ws) ws.length) (fun m hm => impl_votes_isGreatest.ev (winsL q ws) ws.length m hwl (by omega) (by omega))
    rw [ev_pos rfl, if_pos rfl, ev_bind (impl_Committee_votes.ev q ws h9 hc.wb), ev_bind hs, ev_now]
theorem spec_GreatestLosing.ev_l1 (q : Int) (ws : List Int) (W : List Bool) (hW : W.length = 2 ^ ws.length) (hn : ws.length ≤ 18) (m : Nat) (hm : m < W.length) (out : List (List Int)) (ho : out.length ≤ 1000000) (R : List (List Int) × Bool) : ∀ (d j : Nat) (b : Bool), j + d = ws.length → Ev (fun k => spec_GreatestLosing.l0 k W (if (b && (List.range' j d).all fun i => bitB m i || W.getD (m + 2 ^ i) false) = true then out ++ [setN m] else out) W (W.length : Int) ((m : Int) + 1) q ws) R → Ev (fun k => spec_GreatestLosing.l1 k W out (m : Int) b W (W.length : Int) (m : Int) (ws.length : Int) (j : Int) q ws) R := by
  have hp : 2 ^ ws.length ≤ 2 ^ 18 := Nat.pow_le_pow_right (by omega) hn
  intro d
  induction d with
  | zero =>
    intro j b h hR
    refine ev_step ?_
    simp only [spec_GreatestLosing.l1]
    rw [List.range'_zero, List.all_nil, Bool.and_true] at hR
    rw [ev_neg (by omega), w64 (x := (m : Int) + 1) (by omega) (by omega)]
    cases b with
    | true =>
      rw [if_pos rfl] at hR
      rw [ev_pos rfl, ev_bind (spec_voList.ev m (by omega)), ev_pos (by omega)]
      exact hR
    | false =>
      rw [if_neg (by decide)] at hR
      rw [ev_neg (by decide)]
      exact hR
  | succ d ih =>
    intro j b h hR
    refine ev_step ?_
    simp only [spec_GreatestLosing.l1]
    rw [List.range'_succ, List.all_cons] at hR
    rw [ev_pos (by omega), w64 (x := (j : Int) + 1) (by omega) (by omega)]
    cases b with
    | true =>
      have et : Int.tmod (shr .i64 (m : Int) (j : Int)) 2 = ((m / 2 ^ j % 2 : Nat) : Int) := by
        rw [shr_nat m j (by omega)]
        exact (Int.ofNat_tmod (m / 2 ^ j) 2).symm
      rw [ev_pos rfl, ev_pos (by omega), et]
      rw [Bool.true_and] at hR
      by_cases hb : bitB m j = true
      · have hb1 : m / 2 ^ j % 2 = 1 := by simpa [bitB] using hb
        rw [hb, Bool.true_or] at hR
        rw [ev_pos (by rw [hb1]; rfl)]
        exact ih (j + 1) true (by omega) hR
      · have hb1 : ¬ m / 2 ^ j % 2 = 1 := by simpa [bitB] using hb
        have hlt : m + 2 ^ j < W.length := by rw [hW]; exact bitB_lt hb (by omega) (by omega)
        have e1 : wrap64 ((m : Int) + ((2 ^ j : Nat) : Int)) = ((m + 2 ^ j : Nat) : Int) := by
          generalize 2 ^ j = y at hlt ⊢
          rw [w64 (by omega) (by omega)]
          omega
        rw [Bool.eq_false_iff.2 hb, Bool.false_or] at hR
        rw [ev_neg (c := ((m / 2 ^ j % 2 : Nat) : Int) = 1) (fun h_ => hb1 (Int.ofNat_inj.1 h_)), shl_one j (by omega), e1, ev_pos (Int.natCast_nonneg _), ev_pos (Int.ofNat_lt.2 hlt), rdOf_nat]
        exact ih (j + 1) _ (by omega) hR
    | false =>
      rw [Bool.false_and] at hR
      rw [ev_neg (by decide)]
      exact ih (j + 1) false (by omega) (by rw [Bool.false_and]; exact hR)
theorem spec_GreatestLosing.ev_l0 (q : Int) (ws : List Int) (W : List Bool) (hW : W.length = 2 ^ ws.length) (hn : ws.length ≤ 18) : ∀ (d m : Nat), m + d = W.length → Ev (fun k => spec_GreatestLosing.l0 k W (takeL (greatB W ws.length) m) W (W.length : Int) (m : Int) q ws) (Go.Proofs.YticnoiflccbhcaaS.sortL (takeL (greatB W ws.length) W.length), true) := by
  have hp : 2 ^ ws.length ≤ 2 ^ 18 := Nat.pow_le_pow_right (by omega) hn
  intro d
  induction d with
  | zero =>
    intro m h
    refine ev_step ?_
    simp only [spec_GreatestLosing.l0]
    have hl := takeL_len (greatB W ws.length) m
    rw [ev_neg (by omega), ev_bind (spec_voSorted.ev _ (by omega) (fun x hx => by
      obtain ⟨a, ha, _, rfl⟩ := takeL_mem x hx
      have := setTo_len a ws.length
      rw [← setN_to (m := a) (n := ws.length) (by omega) (by omega)] at this
      omega)), ev_now, show m = W.length by omega]
  | succ d ih =>
    intro m h
    refine ev_step ?_
    simp only [spec_GreatestLosing.l0]
    have hm : m < W.length := by omega
    have hl := takeL_len (greatB W ws.length) m
    have hih := ih (m + 1) (by omega)
    rw [takeL_succ, greatB] at hih
    have ew : W.getD m false = W[m] := by simp [hm]
    rw [ev_pos (by omega), ev_pos (by omega), ev_pos (by omega), rdOf_lt false W m hm]
    cases hw : W[m] with
    | true =>
      rw [ew, hw, Bool.not_true, Bool.false_and, if_neg (by decide)] at hih
      rw [ev_pos rfl, w64 (by omega) (by omega)]
      exact hih
    | false =>
      rw [ew, hw, List.range_eq_range'] at hih
      rw [ev_neg (by decide)]
      exact spec_GreatestLosing.ev_l1 q ws W hW hn m hm _ (by omega) _ ws.length 0 true (by omega) hih
theorem spec_GreatestLosing.ev (q : Int) (ws : List Int) (hl : ws.length ≤ 9223372036854775807) : Ev (fun k => spec_GreatestLosing.f k q ws) (glV q ws) := by
  simp only [spec_GreatestLosing.f]
  rw [ev_bind (spec_voGood.ev q ws hl)]
  unfold glV
  cases hg : goodB q ws with
  | false => rw [ev_neg (by decide), ev_now, if_neg (by decide)]
  | true =>
    have hc := (good_iff q ws).1 hg
    have h9 := hc.l9
    have hwl := winsL_length q ws
    rw [ev_pos rfl, if_pos rfl, ev_bind (spec_voWins.ev q ws h9 hc.wb)]
    exact spec_GreatestLosing.ev_l0 q ws (winsL q ws) hwl (by omega) (winsL q ws).length 0 (by omega)
theorem glV_few (q : Int) (ws : List Int) : (glV q ws).1.length ≤ 512 ∧ ∀ s ∈ (glV q ws).1, s.length ≤ 9 := by
  unfold glV
  split
  · next h => exact sortL_few ((good_iff q ws).1 h) (winsL_length q ws)
  · simp
end Go.Proofs.Yticnoiflccbhcaa.Q

namespace Go.Proofs.Yticnoiflccbhcaa.Q
open Go.RowKit Go.Proofs.YticnoiflccbhcaaW.PrintWords Go.Proofs.YticnoiflccbhcaaW.PrintLast Go.Proofs.YticnoiflccbhcaaW.PrintMore Go.Proofs.YticnoiflccbhcaaM
set_option linter.unusedVariables false
set_option linter.unusedSimpArgs false
/-- A set that loses, but wins with a member. -/
def swingB (W : List Bool) (c m : Nat) : Bool := !(bitB m c) && (!(W.getD m false) && W.getD (m + 2 ^ c) false)
def memB (q : Int) (ws : List Int) (a : Int) : Bool := goodB q ws && (decide (0 ≤ a) && decide (a ≤ (ws.length : Int) - 1))
theorem impl_votes_isSwing.v (W : List Bool) (n c m : Nat) (hW : W.length = 2 ^ n) (hn : n ≤ 18) (hc : c < n) (hm : m < 2 ^ n) : impl_votes_isSwing.f (n : Int) W (m : Int) (c : Int) = some (swingB W c m) := by
  have hp : 2 ^ n ≤ 2 ^ 18 := Nat.pow_le_pow_right (by omega) hn
  simp only [impl_votes_isSwing.f]
  rw [show impl_has.f (m : Int) (c : Int) = some (bitB m c) from impl_has.v m c (by omega) (by omega), Option.bind_some, swingB]
  by_cases hb : bitB m c = true
  · rw [if_pos hb, hb]
    rfl
  · have hlt : m + 2 ^ c < W.length := by rw [hW]; exact bitB_lt hb hm hc
    rw [if_neg hb, if_pos (by omega), if_pos (by omega), rdOf_nat, Bool.eq_false_iff.2 hb, Bool.not_false, Bool.true_and]
    cases hw : W.getD m false with
    | true =>
      rw [if_pos rfl]
      rfl
    | false =>
      rw [if_neg (by decide), if_pos (by omega), shl_one c (by omega), bitB_or hb (by omega) (by omega), if_pos (Int.natCast_nonneg _), if_pos (Int.ofNat_lt.2 hlt), rdOf_nat]
      rfl
def swV (q : Int) (ws : List Int) (a : Int) : List (List Int) × Bool := if memB q ws a = true then (Go.Proofs.YticnoiflccbhcaaS.sortL (takeL (swingB (winsL q ws) a.toNat) (winsL q ws).length), true) else ([], false)
theorem impl_isMember.ev (q : Int) (ws : List Int) (a : Int) (hl : ws.length ≤ 9223372036854775807) : Ev (fun k => impl_isMember.f k q ws a) (memB q ws a) := by
  simp only [impl_isMember.f]
  rw [ev_bind (impl_IsCommittee.ev q ws hl)]
  unfold memB
  cases hg : goodB q ws with
  | false => rw [ev_neg (by decide), ev_now]; rfl
  | true =>
    have h9 := ((good_iff q ws).1 hg).l9
    rw [ev_pos rfl, w64 (by omega) (by omega), ev_bind (ev_of (impl_within.v _ _ _)), ev_now]
    rfl
theorem spec_pwMember.ev (q : Int) (ws : List Int) (a : Int) (hl : ws.length ≤ 9223372036854775807) : Ev (fun k => spec_pwMember.f k q ws a) (memB q ws a) := by
  simp only [spec_pwMember.f]
  rw [ev_bind (spec_voGood.ev q ws hl)]
  unfold memB
  cases hg : goodB q ws with
  | false => rw [ev_neg (by decide), ev_now]; rfl
  | true =>
    have h9 := ((good_iff q ws).1 hg).l9
    rw [ev_pos rfl, w64 (by omega) (by omega), ev_bind (ev_of (spec_l1In.v _ _ _)), ev_now]
    rfl
theorem memB_iff {q : Int} {ws : List Int} {a : Int} (h : memB q ws a = true) : GoodC q ws ∧ ∃ c : Nat, a = (c : Int) ∧ c < ws.length := by
  simp only [memB, Bool.and_eq_true, decide_eq_true_eq] at h
  obtain ⟨c, hc⟩ := Int.eq_ofNat_of_zero_le h.2.1
  exact ⟨(good_iff q ws).1 h.1, c, hc, by omega⟩
theorem impl_SwingSets.ev (q : Int) (ws : List Int) (a : Int) (hl : ws.length ≤ 9223372036854775807) : Ev (fun k => impl_SwingSets.f k q ws a) (swV q ws a) := by
  simp only [impl_SwingSets.f]
  rw [ev_bind (impl_isMember.ev q ws a hl)]
  unfold swV
  cases hg : memB q ws a with
  | false => rw [ev_neg (by decide), ev_now, if_neg (by decide)]
  | true =>
    obtain ⟨hc, c, rfl, hcl⟩ := memB_iff hg
    have h9 := hc.l9
    have hp := hc.pow
    have hwl := winsL_length q ws
    have hs := impl_votes_sets.ev (winsL q ws) (by omega) (fun _ x => impl_votes_isSwing.f (ws.length : Int) (winsL q ws) x (c : Int)) (swingB (winsL q ws) c) (fun m hm => ev_of (impl_votes_isSwing.v (winsL q ws) ws.length c m hwl (by omega) hcl (by omega)))
    rw [ev_pos rfl, if_pos rfl, Int.toNat_natCast, ev_bind (impl_Committee_votes.ev q ws h9 hc.wb), ev_bind hs, ev_now]
/-- The numbers of the sets that are taken, below a bound. -/
def takeM (P : Nat → Bool) (i : Nat) : List Int := ((List.range i).filter P).map fun (i : Nat) => (i : Int)
theorem takeM_succ (P : Nat → Bool) (i : Nat) : takeM P (i + 1) = if P i = true then takeM P i ++ [(i : Int)] else takeM P i := by
  unfold takeM
  rw [List.range_succ, List.filter_append, List.map_append]
  by_cases h : P i = true
  · rw [if_pos h]
    simp [h]
  · rw [if_neg h]
    simp [h]
theorem takeM_len (P : Nat → Bool) (i : Nat) : (takeM P i).length ≤ i := by
  unfold takeM
  rw [List.length_map]
  have := List.length_filter_le P (List.range i)
  rw [List.length_range] at this
  exact this
theorem takeM_in {P : Nat → Bool} {i : Nat} : ∀ x ∈ takeM P i, ∃ m : Nat, x = (m : Int) ∧ m < i := by
  intro x hx
  obtain ⟨m, hm, rfl⟩ := List.mem_map.1 hx
  exact ⟨m, rfl, List.mem_range.1 (List.mem_filter.1 hm).1⟩
theorem takeL_takeM (P : Nat → Bool) (i : Nat) : takeL P i = (takeM P i).map fun x => setN x.toNat := by
  unfold takeL takeM
  rw [List.map_map]
  rfl
theorem spec_pwSwings.ev_l (W : List Bool) (n c : Nat) (hW : W.length = 2 ^ n) (hn : n ≤ 18) (hc : c < n) : ∀ (d m : Nat), m + d = W.length → Ev (fun k => spec_pwSwings.l0 k W (c : Int) (takeM (swingB W c) m) W (W.length : Int) (m : Int)) (takeM (swingB W c) W.length) := by
  have hp : 2 ^ n ≤ 2 ^ 18 := Nat.pow_le_pow_right (by omega) hn
  intro d
  induction d with
  | zero =>
    intro m h
    refine ev_step ?_
    simp only [spec_pwSwings.l0]
    rw [ev_neg (by omega), ev_now, show m = W.length by omega]
  | succ d ih =>
    intro m h
    refine ev_step ?_
    simp only [spec_pwSwings.l0]
    have hm : m < W.length := by omega
    have hl := takeM_len (swingB W c) m
    have hll : (takeM (swingB W c) m).length < 17592186044416 := by omega
    have hih := ih (m + 1) (by omega)
    rw [takeM_succ, swingB] at hih
    have et : Int.tmod (shr .i64 (m : Int) (c : Int)) 2 = ((m / 2 ^ c % 2 : Nat) : Int) := by
      rw [shr_nat m c (by omega)]
      exact (Int.ofNat_tmod (m / 2 ^ c) 2).symm
    rw [ev_pos (by omega), ev_pos (by omega), ev_pos (by omega), ev_pos (by omega), et, rdOf_nat, w64 (x := (m : Int) + 1) (by omega) (by omega)]
    by_cases hb : bitB m c = true
    · have hb1 : m / 2 ^ c % 2 = 1 := by simpa [bitB] using hb
      rw [hb, Bool.not_true, Bool.false_and, if_neg (by decide)] at hih
      rw [ev_neg (c := ((m / 2 ^ c % 2 : Nat) : Int) = 0) (by rw [hb1]; decide)]
      exact hih
    · have hb1 : m / 2 ^ c % 2 = 0 := by
        simp [bitB] at hb
        omega
      have hlt : m + 2 ^ c < W.length := by rw [hW]; exact bitB_lt hb (by omega) hc
      have e1 : wrap64 ((m : Int) + ((2 ^ c : Nat) : Int)) = ((m + 2 ^ c : Nat) : Int) := by
        generalize 2 ^ c = y at hlt ⊢
        rw [w64 (by omega) (by omega)]
        omega
      rw [Bool.eq_false_iff.2 hb, Bool.not_false, Bool.true_and] at hih
      rw [ev_pos (c := ((m / 2 ^ c % 2 : Nat) : Int) = 0) (by rw [hb1]; rfl)]
      cases hw : W.getD m false with
      | true =>
        rw [hw, Bool.not_true, Bool.false_and, if_neg (by decide)] at hih
        rw [ev_pos rfl]
        exact hih
      | false =>
        rw [hw, Bool.not_false, Bool.true_and] at hih
        rw [ev_neg (by decide), shl_one c (by omega), e1, ev_pos (Int.natCast_nonneg _), ev_pos (Int.ofNat_lt.2 hlt), rdOf_nat]
        cases hv : W.getD (m + 2 ^ c) false with
        | true =>
          rw [hv, if_pos rfl] at hih
          rw [ev_pos rfl, ev_pos hll]
          exact hih
        | false =>
          rw [hv, if_neg (by decide)] at hih
          rw [ev_neg (by decide)]
          exact hih
theorem spec_SwingSets.ev_l (M : List Int) (n : Nat) (hn : n ≤ 18) (hM : M.length ≤ 300000) (hin : ∀ x ∈ M, ∃ m : Nat, x = (m : Int) ∧ m < 2 ^ n) : ∀ (d i : Nat), i + d = M.length → Ev (fun k => spec_SwingSets.l0 k ((M.take i).map fun x => setN x.toNat) M (M.length : Int) (i : Int)) (Go.Proofs.YticnoiflccbhcaaS.sortL (M.map fun x => setN x.toNat), true) := by
  have hp : 2 ^ n ≤ 2 ^ 18 := Nat.pow_le_pow_right (by omega) hn
  intro d
  induction d with
  | zero =>
    intro i h
    refine ev_step ?_
    simp only [spec_SwingSets.l0]
    rw [ev_neg (by omega), List.take_of_length_le (by omega), ev_bind (spec_voSorted.ev _ (by rw [List.length_map]; omega) (fun x hx => by
      obtain ⟨y, hy, rfl⟩ := List.mem_map.1 hx
      obtain ⟨m, rfl, hm⟩ := hin y hy
      have := setTo_len m n
      rw [← setN_to (m := m) (n := n) hm (by omega)] at this
      rw [Int.toNat_natCast]
      omega)), ev_now]
  | succ d ih =>
    intro i h
    refine ev_step ?_
    simp only [spec_SwingSets.l0]
    have hi : i < M.length := by omega
    obtain ⟨m, hm1, hm2⟩ := hin M[i] (List.getElem_mem hi)
    have hih := ih (i + 1) (by omega)
    rw [List.take_succ_eq_append_getElem hi, List.map_append, List.map_singleton, hm1, Int.toNat_natCast] at hih
    rw [ev_pos (by omega), ev_pos (by omega), ev_pos (by omega), rd_lt M i hi, hm1, ev_bind (spec_voList.ev m (by omega)), ev_pos (by rw [List.length_map, List.length_take]; omega), w64 (x := (i : Int) + 1) (by omega) (by omega)]
    exact hih
theorem spec_SwingSets.ev (q : Int) (ws : List Int) (a : Int) (hl : ws.length ≤ 9223372036854775807) : Ev (fun k => spec_SwingSets.f k q ws a) (swV q ws a) := by
  simp only [spec_SwingSets.f]
  rw [ev_bind (spec_pwMember.ev q ws a hl)]
  unfold swV
  cases hg : memB q ws a with
  | false => rw [ev_neg (by decide), ev_now, if_neg (by decide)]
  | true =>
    obtain ⟨hc, c, rfl, hcl⟩ := memB_iff hg
    have h9 := hc.l9
    have hp := hc.pow
    have hwl := winsL_length q ws
    have hlm := takeM_len (swingB (winsL q ws) c) (winsL q ws).length
    have hsw : Ev (fun k => spec_pwSwings.f k (winsL q ws) (c : Int)) (takeM (swingB (winsL q ws) c) (winsL q ws).length) := spec_pwSwings.ev_l (winsL q ws) ws.length c hwl (by omega) hcl (winsL q ws).length 0 (by omega)
    rw [ev_pos rfl, if_pos rfl, Int.toNat_natCast, ev_bind (spec_voWins.ev q ws h9 hc.wb), ev_bind hsw, takeL_takeM]
    exact spec_SwingSets.ev_l (takeM (swingB (winsL q ws) c) (winsL q ws).length) ws.length (by omega) (by omega) (fun x hx => by
      obtain ⟨m, h1, h2⟩ := takeM_in x hx
      exact ⟨m, h1, by omega⟩) _ 0 (Nat.zero_add _)
theorem swV_few (q : Int) (ws : List Int) (a : Int) : (swV q ws a).1.length ≤ 512 ∧ ∀ s ∈ (swV q ws a).1, s.length ≤ 9 := by
  unfold swV
  split
  · next h => exact sortL_few (memB_iff h).1 (winsL_length q ws)
  · simp
end Go.Proofs.Yticnoiflccbhcaa.Q

namespace Go.Proofs.Yticnoiflccbhcaa.Q
open Go.RowKit Go.Proofs.YticnoiflccbhcaaW.PrintWords Go.Proofs.YticnoiflccbhcaaW.PrintLast Go.Proofs.YticnoiflccbhcaaW.PrintMore Go.Proofs.YticnoiflccbhcaaM
set_option linter.unusedVariables false
set_option linter.unusedSimpArgs false
theorem laws_FnExactSwingSets.law (q : Int) (ws : List Int) (a : Int) (okq : OkI q) (okws : OkL ws) (oka : OkI a) : Ev (fun k => laws_FnExactSwingSets.f k q ws a) true := by
  have hl := okws.len
  simp only [laws_FnExactSwingSets.f, ev_bind (ev_of (laws_szCommittee.v q ws 1048576 (by omega) (by omega)))]
  by_cases hz : (1048576 : Int) - (ws.length : Int) < 0
  · rw [if_pos hz, ev_pos (by omega), ev_now]
  rw [if_neg hz, ev_neg hz]
  have ht := laws_toCommittee.ev q ws (by omega)
  have hs := spec_SwingSets.ev q ws a hl
  have hi := impl_SwingSets.ev q ws a hl
  have hn := swV_few q ws a
  generalize swV q ws a = r at hs hi hn
  obtain ⟨L, b⟩ := r
  have hn1 : L.length ≤ 512 := hn.1
  have htt := totSS_le L 9 hn.2
  have ht0 := totSS_nonneg L
  have he := laws_eqIntSS.ev L L (by omega) (fun s h => by have := hn.2 s h; omega)
  rw [decide_eq_true rfl] at he
  have he0 := laws_eqCommittee.ev_same q ws (by omega)
  have hm0 := laws_markCommittee.ev q ws 1 (by omega) (by omega)
  have hm := laws_markIntSS.ev L 1 (by omega) (by omega) (by omega)
  have hh := laws_heldIntSS.ev L 1 (by omega) (by omega) (by omega)
  rw [ev_bind ht, ev_bind hs, ev_bind hi, ev_bind he, ev_bind he0, ev_bind hm0, ev_bind hm, ev_bind hh, ev_pos ⟨rfl, rfl, rfl, by show ¬ (1 + (ws.length : Int) < 0); omega, by omega, rfl⟩, ev_now]
end Go.Proofs.Yticnoiflccbhcaa.Q

namespace Go.Proofs.YticnoiflccbhcaaO
open Go.RowKit Go.ChangeShapes Go.WideShapes Go.ChangeAt Go.Proofs.YticnoiflccbhcaaW.PrintWords Go.Proofs.YticnoiflccbhcaaM
section
variable {H : Type} {enc : TypeId × Value → H} {P : Program} {w : World} {α : Type}
/-- One cell of type t reads as a value of kind d. -/
def Reads1 (enc : TypeId × Value → H) (P : Program) (w : World) (t : TypeId) (d : Kd α) (ok : α → Prop) : Prop :=
  ∀ fuel v x, DataW.trod enc P w 0 (fun _ => true) true fuel t [v] = some x → ∃ a, d.K w a [v] ∧ ok a
theorem reads_int {t : TypeId} {k : IntKind} (hu : P.underlying t = some (.int k)) : Reads1 enc P w t (Kd.int k) (fun n => (Lit.int k n).wf = true) := by
  intro fuel v x h
  obtain ⟨n, e, _, hw⟩ := DataW.trod_int hu h
  exact ⟨n, e, hw⟩
theorem reads_slice {t e : TypeId} {d : Kd α} {ok : α → Prop} (hu : P.underlying t = some (.slice e)) (hc : P.cellsOf e = 1) (hs : d.sz = 1) (he : Reads1 enc P w e d ok) :
    Reads1 enc P w t (Kd.slice e d) (fun l => l.length ≤ maxLen ∧ ∀ x ∈ l, ok x) := by
  intro fuel v x h
  rcases Go.Deep.open_slice1 hu hc h with ⟨hcs, _⟩ | ⟨a, len, cap, m, n, V, D, Pl, hcs, _, hl, hm, hmm, _, hx⟩
  · obtain rfl : v = .slice none 0 0 := by simpa using hcs
    refine ⟨[], ⟨none, 0, rfl, Nat.le_refl _, rfl, Nat.zero_le _, fun h => absurd h (Nat.lt_irrefl _)⟩, Nat.zero_le _, fun _ h => by cases h⟩
  · obtain rfl : v = .slice (some a) len cap := by simpa using hcs
    have hlm : len ≤ m := by rw [hmm]; simpa using hl
    have hall : ∀ i, i < len → ∃ b, d.K w b [V i] ∧ ok b := fun i hi => he n (V i) _ (hx i (by omega)).2
    have key : ∀ j, j ≤ len → ∃ l : List α, l.length = j ∧ (∀ i b, l[i]? = some b → d.K w b [V i] ∧ ok b) := by
      intro j
      induction j with
      | zero => exact fun _ => ⟨[], rfl, fun i b h => by simp at h⟩
      | succ j ih =>
        intro hj
        obtain ⟨l, hl1, hl2⟩ := ih (by omega)
        obtain ⟨b, hb⟩ := hall j (by omega)
        refine ⟨l ++ [b], by simp [hl1], fun i c h => ?_⟩
        rcases Nat.lt_or_ge i l.length with hi | hi
        · rw [List.getElem?_append_left hi] at h
          exact hl2 i c h
        · have e : i = l.length := by
            have := (List.getElem?_eq_some_iff.1 h).1
            rw [List.length_append, List.length_singleton] at this
            omega
          subst e
          obtain rfl : b = c := by simpa using h
          rw [hl1]
          exact hb
    obtain ⟨l, hl1, hl2⟩ := key len (Nat.le_refl _)
    subst hl1
    refine ⟨l, ⟨some a, cap, rfl, hl, rfl, by unfold maxLen at hm; omega, fun _ => ⟨a, rfl, fun j p hj => ⟨[V j], by rw [hs]; rfl, (hl2 j p hj).1, fun i u hi => ?_⟩⟩⟩, Nat.le_trans hl hm, fun x hxm => ?_⟩
    · match i, hi with
      | 0, hi =>
        obtain rfl : V j = u := by simpa using hi
        have hj' := (List.getElem?_eq_some_iff.1 hj).1
        rw [hs, Nat.mul_one, Nat.add_zero]
        exact (hx j (by omega)).1
      | i + 1, hi => simp at hi
    · obtain ⟨i, hi, rfl⟩ := List.mem_iff_getElem.1 hxm
      exact (hl2 i _ (List.getElem?_eq_getElem hi)).2
/-- A slice that is an argument. -/
theorem open_slice_arg {r : Reach} {b0 : Nat} {t e : TypeId} {d : Kd α} {ok' : List α → Prop} {v : Value} {dd : DataW H} {ps : List MemPlace} (hu : P.underlying t = some (.slice e)) (hr : Reads1 enc P w t (Kd.slice e d) ok') (hv : Value.okWide P w r b0 t v)
    (h : DataW.Trod enc P w 0 (fun _ => true) true t v dd ps) : ∃ (A : Option Addr) (c : Nat) (l : List α), v = .slice A l.length c ∧ l.length ≤ c ∧ d.C w A l.length l ∧ ok' l := by
  obtain ⟨a, len, cap, rfl⟩ := okWide_slice hu hv
  obtain ⟨fuel, hf⟩ := h
  obtain ⟨l, ⟨A, c, hcs, hlc, hC⟩, ho⟩ := hr fuel _ _ hf
  exact ⟨A, c, l, by simpa using hcs, hlc, hC, ho⟩
end
end Go.Proofs.YticnoiflccbhcaaO
