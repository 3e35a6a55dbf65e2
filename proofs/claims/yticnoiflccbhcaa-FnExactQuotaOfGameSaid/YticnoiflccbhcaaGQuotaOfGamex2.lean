/- Printed functions, their contracts and plain facts on them: QLawsEqGame; QLawsFnExactQuotaOfGame; PSumOf; QImplIsCommittee; PIsCommittee; PSperner; PSetFacts; PIsSet; PMaskOf; PSlicesCompare; PIsGame; QLawsHeldIntS; QLawsMarkIntS; PLawInts; PLawGame; PVoBefore; PVoBits; PVoSum; QSpecVoGood; PVoGood; PVoSet; PGmGood; PVoWeight; QSpecVoWins; PVoWins; PGmWins; PGoodSets. Conditions: as each theorem states. -/
import Derived.Test.YticnoiflccbhcaaGQuotaOfGamex0
import Derived.Test.YticnoiflccbhcaaGQuotaOfGamex1
namespace Go.Proofs.Yticnoiflccbhcaa.Q
open Go.RowKit Go.Proofs.YticnoiflccbhcaaX Go.Proofs.YticnoiflccbhcaaW.PrintWords Go.Proofs.YticnoiflccbhcaaW.PrintLast Go.Proofs.YticnoiflccbhcaaW.PrintMore
attribute [local go_sem] max2_int min2_int max_two min_two max_three min_three max_four min_four   -- for this text's walks alone
set_option linter.unusedVariables false
set_option linter.unusedSimpArgs false

/-! ### laws_eqGame: function 27 -/
def laws_eqGame.f (k : Nat) (a0_0 : Int) (l0_1 : List (List Int)) (a1_0 : Int) (l1_1 : List (List Int)) : Option (Bool) := if a0_0 = a1_0 then ((laws_eqIntSS.f k l0_1 l1_1).bind fun t103 => (if t103 = true then (some true) else (some false))) else (some false)
theorem laws_eqGame.mono : ∀ a0 a1 a2 a3 k, LeO (laws_eqGame.f k a0 a1 a2 a3) (laws_eqGame.f (k + 1) a0 a1 a2 a3) := by
 intro a0 a1 a2 a3 k
 unfold laws_eqGame.f
 repeat' first
   | (with_reducible exact laws_eqIntSS.mono _ _ _)
   | (with_reducible exact LeO.refl _)
   | (with_reducible exact LeO.none _)
   | (with_reducible refine LeO.ite ?_ ?_)
   | (with_reducible refine LeO.bind ?_ (fun _ => ?_))
   | exact laws_eqIntSS.mono _ _ _
   | exact LeO.none _
   | refine LeO.ite ?_ ?_
   | refine LeO.bind ?_ (fun _ => ?_)
set_option maxHeartbeats 8000000 in
set_option maxRecDepth 100000 in
theorem laws_eqGame.calls (k : Nat) (a0_0 : Int) (A0_1 : Option Addr) (c0_1 : Nat) (l0_1 : List (List Int)) (a1_0 : Int) (A1_1 : Option Addr) (c1_1 : Nat) (l1_1 : List (List Int)) (r : Bool) (w : World) (hr0_1 : Kd.C (Kd.slice 3 (Kd.int .i64)) w A0_1 l0_1.length l0_1) (hc0_1 : l0_1.length ≤ c0_1) (hr1_1 : Kd.C (Kd.slice 3 (Kd.int .i64)) w A1_1 l1_1.length l1_1) (hc1_1 : l1_1.length ≤ c1_1) (h : laws_eqGame.f k a0_0 l0_1 a1_0 l1_1 = some r) :
  Calls Try.prog 27 #[.agg #[.int .i64 a0_0, .slice A0_1 l0_1.length c0_1], .agg #[.int .i64 a1_0, .slice A1_1 l1_1.length c1_1]] w fun e w' => e = .returned (.bool r) ∧ Below w.heap.size w w' := by
 have hu39 := Try.underlying39
 have HR0_1 := Aside0.mk hr0_1
 have HC0_1 := Aside0.mk hc0_1
 clear hr0_1 hc0_1
 have HR1_1 := Aside0.mk hr1_1
 have HC1_1 := Aside0.mk hc1_1
 clear hr1_1 hc1_1
 have HB := Aside0.mk (Below.refl w.heap.size w)
 have H : (if a0_0 = a1_0 then ((laws_eqIntSS.f k l0_1 l1_1).bind fun t103 => (if t103 = true then (some true) else (some false))) else (some false)) = some r := h
 clear h
 by_cases c3 : a0_0 = a1_0
 ·rw [if_pos c3] at H
  have c3b0 : (a0_0 == a1_0) = true := beq_iff_eq.mpr c3
  have c3b1 : (a0_0 != a1_0) = false := bne_eq_false_iff_eq.mpr c3
  clear c3
  replace H := oB H
  obtain ⟨t103, A40, H⟩ := H
  replace H : (if t103 = true then (some true) else (some false)) = some r := H
  have A4 := Aside0.mk A40
  clear A40
  by_cases c5 : t103 = true
  ·subst c5
   have H1 : (some true) = some r := by rw [if_pos rfl] at H; exact H
   clear H
   have H := H1
   clear H1
   obtain rfl := Option.some.inj H
   go_enter Try.func27, Try.ntmps27
   go_wp2_with (first | ((with_reducible refine gate_dst (N := 2) rfl ?_); refine box_event ?hg (N := 2) ?hd (cs := #[.int .i64 a0_0, .slice A0_1 l0_1.length c0_1]) (t := 39) ?hr ?_; (case hd => rfl); (case hg => rfl); (case hr => first | (go_simp; done) | (go_simp; rfl)); intro gb101 hg w6 hbox hb; have n0_ := Aside0.mk (below_step (by repeat (first | (with_reducible first | exact HB.out | apply ba | apply bd | apply be) | exact HB.out)) hb); have n1_ := Aside0.mk (hbox); have n2_ := Aside0.mk ((by rw [hg]; exact (below_size (by repeat (first | (with_reducible first | exact HB.out | apply ba | apply bd | apply be) | exact HB.out))) : w.heap.size ≤ gb101)); have n3_ := Aside0.mk ((by rw [hg]; exact (below_size (by repeat (first | (with_reducible first | exact HB.out | apply ba | apply bd | apply be) | exact HB.out))) : w.heap.size ≤ gb101)); clear HB; have HB := n0_; have BK101 := n1_; have GW101 := n2_; have GE101 := n3_; clear n0_ n1_ n2_ n3_; clear hb hbox hg) | ((with_reducible refine gate_dst (N := 3) rfl ?_); refine box_event ?hg (N := 3) ?hd (cs := #[.int .i64 a1_0, .slice A1_1 l1_1.length c1_1]) (t := 39) ?hr ?_; (case hd => rfl); (case hg => rfl); (case hr => first | (go_simp; done) | (go_simp; rfl)); intro gb102 hg w7 hbox hb; have n0_ := Aside0.mk (blk_below (g := gb101) (o := .cells #[.int .i64 a0_0, .slice A0_1 l0_1.length c0_1] 39 (0, 0)) (by (with_reducible repeat (first | refine kN ?_ _ | refine kD ?_ | refine kA ?_ _)); exact BK101.out) hb); have n1_ := Aside0.mk (below_step (by repeat (first | (with_reducible first | exact HB.out | apply ba | apply bd | apply be | refine bs ?_ GE101.out) | exact HB.out)) hb); have n2_ := Aside0.mk (hbox); have n3_ := Aside0.mk ((by rw [hg]; exact (below_size (by repeat (first | (with_reducible first | exact HB.out | apply ba | apply bd | apply be | refine bs ?_ GE101.out) | exact HB.out))) : w.heap.size ≤ gb102)); have n4_ := Aside0.mk ((by rw [hg]; exact (below_size (by repeat (first | (with_reducible first | exact HB.out | apply ba | apply bd | apply be | refine bs ?_ GE101.out) | exact HB.out))) : w.heap.size ≤ gb102)); have n5_ := Aside0.mk ((by rw [hg]; exact Nat.ne_of_lt (blk_lt (g := gb101) (o := .cells #[.int .i64 a0_0, .slice A0_1 l0_1.length c0_1] 39 (0, 0)) (by (with_reducible repeat (first | refine kN ?_ _ | refine kD ?_ | refine kA ?_ _)); exact BK101.out)) : gb101 ≠ gb102)); have n6_ := Aside0.mk ((by rw [hg]; exact Nat.ne_of_gt (blk_lt (g := gb101) (o := .cells #[.int .i64 a0_0, .slice A0_1 l0_1.length c0_1] 39 (0, 0)) (by (with_reducible repeat (first | refine kN ?_ _ | refine kD ?_ | refine kA ?_ _)); exact BK101.out)) : gb102 ≠ gb101)); clear BK101; clear HB; have BK101 := n0_; have HB := n1_; have BK102 := n2_; have GW102 := n3_; have GE102 := n4_; have NB101_102 := n5_; have NB102_101 := n6_; clear n0_ n1_ n2_ n3_ n4_ n5_ n6_; clear hb hbox hg; have hnb8 := NB101_102.out; have hnc8 := NB102_101.out; have hcz9_0 : w7.cell? ⟨gb101, 0, none⟩ = some (.int .i64 a0_0) := (blk_cell BK101.out 0).trans rfl; have hcz9_1 : w7.cell? ⟨gb101, 1, none⟩ = some (.slice A0_1 l0_1.length c0_1) := (blk_cell BK101.out 1).trans rfl; have hfz9_0 := blk_frozen BK101.out 0; have hfz9_1 := blk_frozen BK101.out 1; have hcz10_0 : w7.cell? ⟨gb102, 0, none⟩ = some (.int .i64 a1_0) := (blk_cell BK102.out 0).trans rfl; have hcz10_1 : w7.cell? ⟨gb102, 1, none⟩ = some (.slice A1_1 l1_1.length c1_1) := (blk_cell BK102.out 1).trans rfl; have hfz10_0 := blk_frozen BK102.out 0; have hfz10_1 := blk_frozen BK102.out 1) | ((with_reducible refine gate_callee (f := 41) rfl ?_); refine goesL_ (some 14) rfl rfl Try.func41 (by kernel_rfl) rfl #[.slice A0_1 l0_1.length c0_1, .slice A1_1 l1_1.length c1_1] rfl (by (try simp only [mA, mC, mN]); first | done | rfl | (simp only [List.length_drop, List.length_take]; rfl)) ?_; (with_reducible refine (laws_eqIntSS.calls k _ _ l0_1 _ _ l1_1 true _ ?side1 ?side2 ?side3 ?side4 A4.out).mono ?_); (case side1 => repeat (first | exact (Kd.C_below HR0_1.out HB.out) | (with_reducible refine Kd.C_alloc ?_ _) | (with_reducible refine Kd.C_drewN ?_ _) | (with_reducible refine Kd.C_drew ?_))); (case side2 => exact HC0_1.out); (case side3 => repeat (first | exact (Kd.C_below HR1_1.out HB.out) | (with_reducible refine Kd.C_alloc ?_ _) | (with_reducible refine Kd.C_drewN ?_ _) | (with_reducible refine Kd.C_drew ?_))); (case side4 => exact HC1_1.out); rintro e w' ⟨rfl, ⟨nd, rfl⟩⟩; refine ⟨_, rfl, ?_⟩))
   go_ret
   exact ⟨by first | rfl | (simp <;> rfl) | (simp [*] <;> rfl), by repeat (first | (with_reducible first | exact HB.out | apply ba | apply bd | apply be | refine bs ?_ GE101.out | refine bs ?_ GE102.out) | exact HB.out)⟩
  ·replace c5 := Bool.eq_false_iff.mpr c5
   subst c5
   have H1 : (some false) = some r := by rw [if_neg (show ¬ (false = true) by decide)] at H; exact H
   clear H
   have H := H1
   clear H1
   obtain rfl := Option.some.inj H
   go_enter Try.func27, Try.ntmps27
   go_wp2_with (first | ((with_reducible refine gate_dst (N := 2) rfl ?_); refine box_event ?hg (N := 2) ?hd (cs := #[.int .i64 a0_0, .slice A0_1 l0_1.length c0_1]) (t := 39) ?hr ?_; (case hd => rfl); (case hg => rfl); (case hr => first | (go_simp; done) | (go_simp; rfl)); intro gb101 hg w11 hbox hb; have n0_ := Aside0.mk (below_step (by repeat (first | (with_reducible first | exact HB.out | apply ba | apply bd | apply be) | exact HB.out)) hb); have n1_ := Aside0.mk (hbox); have n2_ := Aside0.mk ((by rw [hg]; exact (below_size (by repeat (first | (with_reducible first | exact HB.out | apply ba | apply bd | apply be) | exact HB.out))) : w.heap.size ≤ gb101)); have n3_ := Aside0.mk ((by rw [hg]; exact (below_size (by repeat (first | (with_reducible first | exact HB.out | apply ba | apply bd | apply be) | exact HB.out))) : w.heap.size ≤ gb101)); clear HB; have HB := n0_; have BK101 := n1_; have GW101 := n2_; have GE101 := n3_; clear n0_ n1_ n2_ n3_; clear hb hbox hg) | ((with_reducible refine gate_dst (N := 3) rfl ?_); refine box_event ?hg (N := 3) ?hd (cs := #[.int .i64 a1_0, .slice A1_1 l1_1.length c1_1]) (t := 39) ?hr ?_; (case hd => rfl); (case hg => rfl); (case hr => first | (go_simp; done) | (go_simp; rfl)); intro gb102 hg w12 hbox hb; have n0_ := Aside0.mk (blk_below (g := gb101) (o := .cells #[.int .i64 a0_0, .slice A0_1 l0_1.length c0_1] 39 (0, 0)) (by (with_reducible repeat (first | refine kN ?_ _ | refine kD ?_ | refine kA ?_ _)); exact BK101.out) hb); have n1_ := Aside0.mk (below_step (by repeat (first | (with_reducible first | exact HB.out | apply ba | apply bd | apply be | refine bs ?_ GE101.out) | exact HB.out)) hb); have n2_ := Aside0.mk (hbox); have n3_ := Aside0.mk ((by rw [hg]; exact (below_size (by repeat (first | (with_reducible first | exact HB.out | apply ba | apply bd | apply be | refine bs ?_ GE101.out) | exact HB.out))) : w.heap.size ≤ gb102)); have n4_ := Aside0.mk ((by rw [hg]; exact (below_size (by repeat (first | (with_reducible first | exact HB.out | apply ba | apply bd | apply be | refine bs ?_ GE101.out) | exact HB.out))) : w.heap.size ≤ gb102)); have n5_ := Aside0.mk ((by rw [hg]; exact Nat.ne_of_lt (blk_lt (g := gb101) (o := .cells #[.int .i64 a0_0, .slice A0_1 l0_1.length c0_1] 39 (0, 0)) (by (with_reducible repeat (first | refine kN ?_ _ | refine kD ?_ | refine kA ?_ _)); exact BK101.out)) : gb101 ≠ gb102)); have n6_ := Aside0.mk ((by rw [hg]; exact Nat.ne_of_gt (blk_lt (g := gb101) (o := .cells #[.int .i64 a0_0, .slice A0_1 l0_1.length c0_1] 39 (0, 0)) (by (with_reducible repeat (first | refine kN ?_ _ | refine kD ?_ | refine kA ?_ _)); exact BK101.out)) : gb102 ≠ gb101)); clear BK101; clear HB; have BK101 := n0_; have HB := n1_; have BK102 := n2_; have GW102 := n3_; have GE102 := n4_; have NB101_102 := n5_; have NB102_101 := n6_; clear n0_ n1_ n2_ n3_ n4_ n5_ n6_; clear hb hbox hg; have hnb13 := NB101_102.out; have hnc13 := NB102_101.out; have hcz14_0 : w12.cell? ⟨gb101, 0, none⟩ = some (.int .i64 a0_0) := (blk_cell BK101.out 0).trans rfl; have hcz14_1 : w12.cell? ⟨gb101, 1, none⟩ = some (.slice A0_1 l0_1.length c0_1) := (blk_cell BK101.out 1).trans rfl; have hfz14_0 := blk_frozen BK101.out 0; have hfz14_1 := blk_frozen BK101.out 1; have hcz15_0 : w12.cell? ⟨gb102, 0, none⟩ = some (.int .i64 a1_0) := (blk_cell BK102.out 0).trans rfl; have hcz15_1 : w12.cell? ⟨gb102, 1, none⟩ = some (.slice A1_1 l1_1.length c1_1) := (blk_cell BK102.out 1).trans rfl; have hfz15_0 := blk_frozen BK102.out 0; have hfz15_1 := blk_frozen BK102.out 1) | ((with_reducible refine gate_callee (f := 41) rfl ?_); refine goesL_ (some 14) rfl rfl Try.func41 (by kernel_rfl) rfl #[.slice A0_1 l0_1.length c0_1, .slice A1_1 l1_1.length c1_1] rfl (by (try simp only [mA, mC, mN]); first | done | rfl | (simp only [List.length_drop, List.length_take]; rfl)) ?_; (with_reducible refine (laws_eqIntSS.calls k _ _ l0_1 _ _ l1_1 false _ ?side1 ?side2 ?side3 ?side4 A4.out).mono ?_); (case side1 => repeat (first | exact (Kd.C_below HR0_1.out HB.out) | (with_reducible refine Kd.C_alloc ?_ _) | (with_reducible refine Kd.C_drewN ?_ _) | (with_reducible refine Kd.C_drew ?_))); (case side2 => exact HC0_1.out); (case side3 => repeat (first | exact (Kd.C_below HR1_1.out HB.out) | (with_reducible refine Kd.C_alloc ?_ _) | (with_reducible refine Kd.C_drewN ?_ _) | (with_reducible refine Kd.C_drew ?_))); (case side4 => exact HC1_1.out); rintro e w' ⟨rfl, ⟨nd, rfl⟩⟩; refine ⟨_, rfl, ?_⟩))
   go_ret
   exact ⟨by first | rfl | (simp <;> rfl) | (simp [*] <;> rfl), by repeat (first | (with_reducible first | exact HB.out | apply ba | apply bd | apply be | refine bs ?_ GE101.out | refine bs ?_ GE102.out) | exact HB.out)⟩
 ·rw [if_neg c3] at H
  have c3b0 : (a0_0 == a1_0) = false := beq_eq_false_iff_ne.mpr c3
  have c3b1 : (a0_0 != a1_0) = true := bne_iff_ne.mpr c3
  obtain rfl := Option.some.inj H
  go_enter Try.func27, Try.ntmps27
  go_wp2_with (first | ((with_reducible refine gate_dst (N := 2) rfl ?_); refine box_event ?hg (N := 2) ?hd (cs := #[.int .i64 a0_0, .slice A0_1 l0_1.length c0_1]) (t := 39) ?hr ?_; (case hd => rfl); (case hg => rfl); (case hr => first | (go_simp; done) | (go_simp; rfl)); intro gb101 hg w16 hbox hb; have n0_ := Aside0.mk (below_step (by repeat (first | (with_reducible first | exact HB.out | apply ba | apply bd | apply be) | exact HB.out)) hb); have n1_ := Aside0.mk (hbox); have n2_ := Aside0.mk ((by rw [hg]; exact (below_size (by repeat (first | (with_reducible first | exact HB.out | apply ba | apply bd | apply be) | exact HB.out))) : w.heap.size ≤ gb101)); have n3_ := Aside0.mk ((by rw [hg]; exact (below_size (by repeat (first | (with_reducible first | exact HB.out | apply ba | apply bd | apply be) | exact HB.out))) : w.heap.size ≤ gb101)); clear HB; have HB := n0_; have BK101 := n1_; have GW101 := n2_; have GE101 := n3_; clear n0_ n1_ n2_ n3_; clear hb hbox hg) | ((with_reducible refine gate_dst (N := 3) rfl ?_); refine box_event ?hg (N := 3) ?hd (cs := #[.int .i64 a1_0, .slice A1_1 l1_1.length c1_1]) (t := 39) ?hr ?_; (case hd => rfl); (case hg => rfl); (case hr => first | (go_simp; done) | (go_simp; rfl)); intro gb102 hg w17 hbox hb; have n0_ := Aside0.mk (blk_below (g := gb101) (o := .cells #[.int .i64 a0_0, .slice A0_1 l0_1.length c0_1] 39 (0, 0)) (by (with_reducible repeat (first | refine kN ?_ _ | refine kD ?_ | refine kA ?_ _)); exact BK101.out) hb); have n1_ := Aside0.mk (below_step (by repeat (first | (with_reducible first | exact HB.out | apply ba | apply bd | apply be | refine bs ?_ GE101.out) | exact HB.out)) hb); have n2_ := Aside0.mk (hbox); have n3_ := Aside0.mk ((by rw [hg]; exact (below_size (by repeat (first | (with_reducible first | exact HB.out | apply ba | apply bd | apply be | refine bs ?_ GE101.out) | exact HB.out))) : w.heap.size ≤ gb102)); have n4_ := Aside0.mk ((by rw [hg]; exact (below_size (by repeat (first | (with_reducible first | exact HB.out | apply ba | apply bd | apply be | refine bs ?_ GE101.out) | exact HB.out))) : w.heap.size ≤ gb102)); have n5_ := Aside0.mk ((by rw [hg]; exact Nat.ne_of_lt (blk_lt (g := gb101) (o := .cells #[.int .i64 a0_0, .slice A0_1 l0_1.length c0_1] 39 (0, 0)) (by (with_reducible repeat (first | refine kN ?_ _ | refine kD ?_ | refine kA ?_ _)); exact BK101.out)) : gb101 ≠ gb102)); have n6_ := Aside0.mk ((by rw [hg]; exact Nat.ne_of_gt (blk_lt (g := gb101) (o := .cells #[.int .i64 a0_0, .slice A0_1 l0_1.length c0_1] 39 (0, 0)) (by (with_reducible repeat (first | refine kN ?_ _ | refine kD ?_ | refine kA ?_ _)); exact BK101.out)) : gb102 ≠ gb101)); clear BK101; clear HB; have BK101 := n0_; have HB := n1_; have BK102 := n2_; have GW102 := n3_; have GE102 := n4_; have NB101_102 := n5_; have NB102_101 := n6_; clear n0_ n1_ n2_ n3_ n4_ n5_ n6_; clear hb hbox hg; have hnb18 := NB101_102.out; have hnc18 := NB102_101.out; have hcz19_0 : w17.cell? ⟨gb101, 0, none⟩ = some (.int .i64 a0_0) := (blk_cell BK101.out 0).trans rfl; have hcz19_1 : w17.cell? ⟨gb101, 1, none⟩ = some (.slice A0_1 l0_1.length c0_1) := (blk_cell BK101.out 1).trans rfl; have hfz19_0 := blk_frozen BK101.out 0; have hfz19_1 := blk_frozen BK101.out 1; have hcz20_0 : w17.cell? ⟨gb102, 0, none⟩ = some (.int .i64 a1_0) := (blk_cell BK102.out 0).trans rfl; have hcz20_1 : w17.cell? ⟨gb102, 1, none⟩ = some (.slice A1_1 l1_1.length c1_1) := (blk_cell BK102.out 1).trans rfl; have hfz20_0 := blk_frozen BK102.out 0; have hfz20_1 := blk_frozen BK102.out 1))
  go_ret
  exact ⟨by first | rfl | (simp <;> rfl) | (simp [*] <;> rfl), by repeat (first | (with_reducible first | exact HB.out | apply ba | apply bd | apply be | refine bs ?_ GE101.out | refine bs ?_ GE102.out) | exact HB.out)⟩

end Go.Proofs.Yticnoiflccbhcaa.Q

namespace Go.Proofs.Yticnoiflccbhcaa.Q
open Go.RowKit Go.Proofs.YticnoiflccbhcaaX Go.Proofs.YticnoiflccbhcaaW.PrintWords Go.Proofs.YticnoiflccbhcaaW.PrintLast Go.Proofs.YticnoiflccbhcaaW.PrintMore
attribute [local go_sem] max2_int min2_int max_two min_two max_three min_three max_four min_four   -- for this text's walks alone
set_option linter.unusedVariables false
set_option linter.unusedSimpArgs false

/-! ### laws_FnExactQuotaOfGame: function 4 -/
def laws_FnExactQuotaOfGame.j0 : Nat → List Int → List Int → Bool → Int → List (List Int) → Int → List (List Int) → Option (Bool)
 | 0, _, _, _, _, _, _, _ => none
 | k + 1, x1, x9, x45, x102000, x102001, x117000, x117001 => if x45 = true then (some false) else ((laws_toGame.f k x102000 x102001).bind fun bt122 => ((laws_eqGame.f k x117000 x117001 bt122.1 bt122.2).bind fun t126 => (if t126 = true then ((laws_toIntS.f k x1).bind fun t127 => ((laws_eqIntS.f k x9 t127).bind fun t130 => (if t130 = true then (some true) else (some false)))) else (some false))))
def laws_FnExactQuotaOfGame.f (k : Nat) (a0_0 : Int) (l0_1 : List (List Int)) (l1 : List Int) : Option (Bool) := if (l1.length : Int) > 1048576 then (some true) else ((laws_szGame.f k a0_0 l0_1 1048576).bind fun t102 => (if t102 < 0 then (some true) else ((laws_toGame.f k a0_0 l0_1).bind fun bt103 => ((laws_toIntS.f k l1).bind fun t107 => ((spec_QuotaOfGame.f k bt103.1 bt103.2 t107).bind fun bt110 => ((laws_toGame.f k a0_0 l0_1).bind fun bt112 => ((laws_toIntS.f k l1).bind fun t117 => ((impl_QuotaOfGame.f k bt112.1 bt112.2 t117).bind fun bt120 => (if bt120.1 = bt110.1 then (laws_FnExactQuotaOfGame.j0 k l1 t117 (bt120.2 != bt110.2) a0_0 l0_1 bt112.1 bt112.2) else (laws_FnExactQuotaOfGame.j0 k l1 t117 true a0_0 l0_1 bt112.1 bt112.2))))))))))
theorem laws_FnExactQuotaOfGame.mono_l : ∀ k, (∀ y0 y1 y2 y3 y4 y5 y6, LeO (laws_FnExactQuotaOfGame.j0 k y0 y1 y2 y3 y4 y5 y6) (laws_FnExactQuotaOfGame.j0 (k + 1) y0 y1 y2 y3 y4 y5 y6))
 | 0 => fun _ _ _ _ _ _ _ r h => by simp [laws_FnExactQuotaOfGame.j0] at h
 | k + 1 => by
  have ih0 := laws_FnExactQuotaOfGame.mono_l k
  ·intro y0 y1 y2 y3 y4 y5 y6
   unfold laws_FnExactQuotaOfGame.j0
   repeat' first
   | (with_reducible exact ih0 _ _ _ _ _ _ _)
   | (with_reducible exact impl_QuotaOfGame.mono _ _ _ _)
   | (with_reducible exact laws_eqGame.mono _ _ _ _ _)
   | (with_reducible exact laws_eqIntS.mono _ _ _)
   | (with_reducible exact laws_szGame.mono _ _ _ _)
   | (with_reducible exact laws_toGame.mono _ _ _)
   | (with_reducible exact laws_toIntS.mono _ _)
   | (with_reducible exact spec_QuotaOfGame.mono _ _ _ _)
   | (with_reducible exact LeO.refl _)
   | (with_reducible exact LeO.none _)
   | (with_reducible refine LeO.ite ?_ ?_)
   | (with_reducible refine LeO.bind ?_ (fun _ => ?_))
   | exact ih0 _ _ _ _ _ _ _
   | exact impl_QuotaOfGame.mono _ _ _ _
   | exact laws_eqGame.mono _ _ _ _ _
   | exact laws_eqIntS.mono _ _ _
   | exact laws_szGame.mono _ _ _ _
   | exact laws_toGame.mono _ _ _
   | exact laws_toIntS.mono _ _
   | exact spec_QuotaOfGame.mono _ _ _ _
   | exact LeO.none _
   | refine LeO.ite ?_ ?_
   | refine LeO.bind ?_ (fun _ => ?_)
theorem laws_FnExactQuotaOfGame.mono : ∀ a0 a1 a2 k, LeO (laws_FnExactQuotaOfGame.f k a0 a1 a2) (laws_FnExactQuotaOfGame.f (k + 1) a0 a1 a2) := by
 intro a0 a1 a2 k
 have ih0 := laws_FnExactQuotaOfGame.mono_l k
 unfold laws_FnExactQuotaOfGame.f
 repeat' first
   | (with_reducible exact ih0 _ _ _ _ _ _ _)
   | (with_reducible exact impl_QuotaOfGame.mono _ _ _ _)
   | (with_reducible exact laws_eqGame.mono _ _ _ _ _)
   | (with_reducible exact laws_eqIntS.mono _ _ _)
   | (with_reducible exact laws_szGame.mono _ _ _ _)
   | (with_reducible exact laws_toGame.mono _ _ _)
   | (with_reducible exact laws_toIntS.mono _ _)
   | (with_reducible exact spec_QuotaOfGame.mono _ _ _ _)
   | (with_reducible exact LeO.refl _)
   | (with_reducible exact LeO.none _)
   | (with_reducible refine LeO.ite ?_ ?_)
   | (with_reducible refine LeO.bind ?_ (fun _ => ?_))
   | exact ih0 _ _ _ _ _ _ _
   | exact impl_QuotaOfGame.mono _ _ _ _
   | exact laws_eqGame.mono _ _ _ _ _
   | exact laws_eqIntS.mono _ _ _
   | exact laws_szGame.mono _ _ _ _
   | exact laws_toGame.mono _ _ _
   | exact laws_toIntS.mono _ _
   | exact spec_QuotaOfGame.mono _ _ _ _
   | exact LeO.none _
   | refine LeO.ite ?_ ?_
   | refine LeO.bind ?_ (fun _ => ?_)
set_option maxHeartbeats 8000000 in
set_option maxRecDepth 100000 in
theorem laws_FnExactQuotaOfGame.calls (k : Nat) (a0_0 : Int) (A0_1 : Option Addr) (c0_1 : Nat) (l0_1 : List (List Int)) (A1 : Option Addr) (c1 : Nat) (l1 : List Int) (r : Bool) (w : World) (hr0_1 : Kd.C (Kd.slice 3 (Kd.int .i64)) w A0_1 l0_1.length l0_1) (hc0_1 : l0_1.length ≤ c0_1) (hr1 : Kd.C (Kd.int .i64) w A1 l1.length l1) (hc1 : l1.length ≤ c1) (h : laws_FnExactQuotaOfGame.f k a0_0 l0_1 l1 = some r) :
  Calls Try.prog 4 #[.agg #[.int .i64 a0_0, .slice A0_1 l0_1.length c0_1], .slice A1 l1.length c1] w fun e w' => e = .returned (.bool r) ∧ Below w.heap.size w w' := by
 have hu35 := Try.underlying35
 have hu39 := Try.underlying39
 have HR0_1 := Aside0.mk hr0_1
 have HC0_1 := Aside0.mk hc0_1
 clear hr0_1 hc0_1
 have HR1 := Aside0.mk hr1
 have HC1 := Aside0.mk hc1
 clear hr1 hc1
 have HB := Aside0.mk (Below.refl w.heap.size w)
 have H : (if (l1.length : Int) > 1048576 then (some true) else ((laws_szGame.f k a0_0 l0_1 1048576).bind fun t102 => (if t102 < 0 then (some true) else ((laws_toGame.f k a0_0 l0_1).bind fun bt103 => ((laws_toIntS.f k l1).bind fun t107 => ((spec_QuotaOfGame.f k bt103.1 bt103.2 t107).bind fun bt110 => ((laws_toGame.f k a0_0 l0_1).bind fun bt112 => ((laws_toIntS.f k l1).bind fun t117 => ((impl_QuotaOfGame.f k bt112.1 bt112.2 t117).bind fun bt120 => (if bt120.1 = bt110.1 then (laws_FnExactQuotaOfGame.j0 k l1 t117 (bt120.2 != bt110.2) a0_0 l0_1 bt112.1 bt112.2) else (laws_FnExactQuotaOfGame.j0 k l1 t117 true a0_0 l0_1 bt112.1 bt112.2))))))))))) = some r := h
 clear h
 by_cases c3 : (l1.length : Int) > 1048576
 ·rw [if_pos c3] at H
  have c3b0 : decide (1048576 < (l1.length : Int)) = true := decide_eq_true c3
  have c3b1 : decide (1048576 < l1.length) = true := decide_eq_true (by omega)
  clear c3
  obtain rfl := Option.some.inj H
  go_enter Try.func4, Try.ntmps4
  go_wp2_with (first | ((with_reducible refine gate_dst (N := 2) rfl ?_); refine box_event ?hg (N := 2) ?hd (cs := #[.int .i64 a0_0, .slice A0_1 l0_1.length c0_1]) (t := 35) ?hr ?_; (case hd => rfl); (case hg => rfl); (case hr => first | (go_simp; done) | (go_simp; rfl)); intro gb101 hg w4 hbox hb; have n0_ := Aside0.mk (below_step (by repeat (first | (with_reducible first | exact HB.out | apply ba | apply bd | apply be) | exact HB.out)) hb); have n1_ := Aside0.mk (hbox); have n2_ := Aside0.mk ((by rw [hg]; exact (below_size (by repeat (first | (with_reducible first | exact HB.out | apply ba | apply bd | apply be) | exact HB.out))) : w.heap.size ≤ gb101)); have n3_ := Aside0.mk ((by rw [hg]; exact (below_size (by repeat (first | (with_reducible first | exact HB.out | apply ba | apply bd | apply be) | exact HB.out))) : w.heap.size ≤ gb101)); clear HB; have HB := n0_; have BK101 := n1_; have GW101 := n2_; have GE101 := n3_; clear n0_ n1_ n2_ n3_; clear hb hbox hg))
  go_ret
  exact ⟨by first | rfl | (simp <;> rfl) | (simp [*] <;> rfl), by repeat (first | (with_reducible first | exact HB.out | apply ba | apply bd | apply be | refine bs ?_ GE101.out) | exact HB.out)⟩
 ·rw [if_neg c3] at H
  have c3b0 : decide (1048576 < (l1.length : Int)) = false := decide_eq_false c3
  have c3b1 : decide (1048576 < l1.length) = false := decide_eq_false (by omega)
  clear c3
  replace H := oB H
  obtain ⟨t102, A50, H⟩ := H
  replace H : (if t102 < 0 then (some true) else ((laws_toGame.f k a0_0 l0_1).bind fun bt103 => ((laws_toIntS.f k l1).bind fun t107 => ((spec_QuotaOfGame.f k bt103.1 bt103.2 t107).bind fun bt110 => ((laws_toGame.f k a0_0 l0_1).bind fun bt112 => ((laws_toIntS.f k l1).bind fun t117 => ((impl_QuotaOfGame.f k bt112.1 bt112.2 t117).bind fun bt120 => (if bt120.1 = bt110.1 then (laws_FnExactQuotaOfGame.j0 k l1 t117 (bt120.2 != bt110.2) a0_0 l0_1 bt112.1 bt112.2) else (laws_FnExactQuotaOfGame.j0 k l1 t117 true a0_0 l0_1 bt112.1 bt112.2))))))))) = some r := H
  have A5 := Aside0.mk A50
  clear A50
  by_cases c6 : t102 < 0
  ·rw [if_pos c6] at H
   have c6b0 : decide (t102 < 0) = true := decide_eq_true c6
   clear c6
   obtain rfl := Option.some.inj H
   go_enter Try.func4, Try.ntmps4
   go_wp2_with (first | ((with_reducible refine gate_dst (N := 2) rfl ?_); refine box_event ?hg (N := 2) ?hd (cs := #[.int .i64 a0_0, .slice A0_1 l0_1.length c0_1]) (t := 35) ?hr ?_; (case hd => rfl); (case hg => rfl); (case hr => first | (go_simp; done) | (go_simp; rfl)); intro gb101 hg w7 hbox hb; have n0_ := Aside0.mk (below_step (by repeat (first | (with_reducible first | exact HB.out | apply ba | apply bd | apply be) | exact HB.out)) hb); have n1_ := Aside0.mk (hbox); have n2_ := Aside0.mk ((by rw [hg]; exact (below_size (by repeat (first | (with_reducible first | exact HB.out | apply ba | apply bd | apply be) | exact HB.out))) : w.heap.size ≤ gb101)); have n3_ := Aside0.mk ((by rw [hg]; exact (below_size (by repeat (first | (with_reducible first | exact HB.out | apply ba | apply bd | apply be) | exact HB.out))) : w.heap.size ≤ gb101)); clear HB; have HB := n0_; have BK101 := n1_; have GW101 := n2_; have GE101 := n3_; clear n0_ n1_ n2_ n3_; clear hb hbox hg; have hcz8_0 : w7.cell? ⟨gb101, 0, none⟩ = some (.int .i64 a0_0) := (blk_cell BK101.out 0).trans rfl; have hcz8_1 : w7.cell? ⟨gb101, 1, none⟩ = some (.slice A0_1 l0_1.length c0_1) := (blk_cell BK101.out 1).trans rfl; have hfz8_0 := blk_frozen BK101.out 0; have hfz8_1 := blk_frozen BK101.out 1) | ((with_reducible refine gate_callee (f := 22) rfl ?_); refine goesL_ (some 17) rfl rfl Try.func22 (by kernel_rfl) rfl #[.agg #[.int .i64 a0_0, .slice A0_1 l0_1.length c0_1], .int .i64 1048576] rfl (by (try simp only [mA, mC, mN]); first | done | rfl | (simp only [List.length_drop, List.length_take]; rfl)) ?_; (with_reducible refine (laws_szGame.calls k a0_0 _ _ l0_1 1048576 t102 _ ?side1 ?side2 A5.out).mono ?_); (case side1 => repeat (first | exact (Kd.C_below HR0_1.out HB.out) | (with_reducible refine Kd.C_alloc ?_ _) | (with_reducible refine Kd.C_drewN ?_ _) | (with_reducible refine Kd.C_drew ?_))); (case side2 => exact HC0_1.out); rintro e w9 ⟨rfl, hb⟩; refine ⟨_, rfl, ?_⟩; have n0_ := Aside0.mk (blk_below (g := gb101) (o := .cells #[.int .i64 a0_0, .slice A0_1 l0_1.length c0_1] 35 (0, 0)) (by (with_reducible repeat (first | refine kN ?_ _ | refine kD ?_ | refine kA ?_ _)); exact BK101.out) hb); have n1_ := Aside0.mk (below_step (by repeat (first | (with_reducible first | exact HB.out | apply ba | apply bd | apply be | refine bs ?_ GE101.out) | exact HB.out)) hb); clear BK101; clear HB; have BK101 := n0_; have HB := n1_; clear n0_ n1_; (try clear hb); (try clear hb2); (try clear hk); (try clear hi)))
   go_ret
   exact ⟨by first | rfl | (simp <;> rfl) | (simp [*] <;> rfl), by repeat (first | (with_reducible first | exact HB.out | apply ba | apply bd | apply be | refine bs ?_ GE101.out) | exact HB.out)⟩
  ·rw [if_neg c6] at H
   have c6b0 : decide (t102 < 0) = false := decide_eq_false c6
   clear c6
   replace H := oB H
   obtain ⟨⟨t103, t104⟩, A100, H⟩ := H
   replace H : ((laws_toIntS.f k l1).bind fun t107 => ((spec_QuotaOfGame.f k t103 t104 t107).bind fun bt110 => ((laws_toGame.f k a0_0 l0_1).bind fun bt112 => ((laws_toIntS.f k l1).bind fun t117 => ((impl_QuotaOfGame.f k bt112.1 bt112.2 t117).bind fun bt120 => (if bt120.1 = bt110.1 then (laws_FnExactQuotaOfGame.j0 k l1 t117 (bt120.2 != bt110.2) a0_0 l0_1 bt112.1 bt112.2) else (laws_FnExactQuotaOfGame.j0 k l1 t117 true a0_0 l0_1 bt112.1 bt112.2))))))) = some r := H
   have A10 := Aside0.mk A100
   clear A100
   replace H := oB H
   obtain ⟨t107, A110, H⟩ := H
   replace H : ((spec_QuotaOfGame.f k t103 t104 t107).bind fun bt110 => ((laws_toGame.f k a0_0 l0_1).bind fun bt112 => ((laws_toIntS.f k l1).bind fun t117 => ((impl_QuotaOfGame.f k bt112.1 bt112.2 t117).bind fun bt120 => (if bt120.1 = bt110.1 then (laws_FnExactQuotaOfGame.j0 k l1 t117 (bt120.2 != bt110.2) a0_0 l0_1 bt112.1 bt112.2) else (laws_FnExactQuotaOfGame.j0 k l1 t117 true a0_0 l0_1 bt112.1 bt112.2)))))) = some r := H
   have A11 := Aside0.mk A110
   clear A110
   replace H := oB H
   obtain ⟨⟨t110, t111⟩, A120, H⟩ := H
   replace H : ((laws_toGame.f k a0_0 l0_1).bind fun bt112 => ((laws_toIntS.f k l1).bind fun t117 => ((impl_QuotaOfGame.f k bt112.1 bt112.2 t117).bind fun bt120 => (if bt120.1 = t110 then (laws_FnExactQuotaOfGame.j0 k l1 t117 (bt120.2 != t111) a0_0 l0_1 bt112.1 bt112.2) else (laws_FnExactQuotaOfGame.j0 k l1 t117 true a0_0 l0_1 bt112.1 bt112.2))))) = some r := H
   have A12 := Aside0.mk A120
   clear A120
   replace H := oB H
   obtain ⟨⟨t112, t113⟩, A130, H⟩ := H
   replace H : ((laws_toIntS.f k l1).bind fun t117 => ((impl_QuotaOfGame.f k t112 t113 t117).bind fun bt120 => (if bt120.1 = t110 then (laws_FnExactQuotaOfGame.j0 k l1 t117 (bt120.2 != t111) a0_0 l0_1 t112 t113) else (laws_FnExactQuotaOfGame.j0 k l1 t117 true a0_0 l0_1 t112 t113)))) = some r := H
   have A13 := Aside0.mk A130
   clear A130
   replace H := oB H
   obtain ⟨t117, A140, H⟩ := H
   replace H : ((impl_QuotaOfGame.f k t112 t113 t117).bind fun bt120 => (if bt120.1 = t110 then (laws_FnExactQuotaOfGame.j0 k l1 t117 (bt120.2 != t111) a0_0 l0_1 t112 t113) else (laws_FnExactQuotaOfGame.j0 k l1 t117 true a0_0 l0_1 t112 t113))) = some r := H
   have A14 := Aside0.mk A140
   clear A140
   replace H := oB H
   obtain ⟨⟨t120, t121⟩, A150, H⟩ := H
   replace H : (if t120 = t110 then (laws_FnExactQuotaOfGame.j0 k l1 t117 (t121 != t111) a0_0 l0_1 t112 t113) else (laws_FnExactQuotaOfGame.j0 k l1 t117 true a0_0 l0_1 t112 t113)) = some r := H
   have A15 := Aside0.mk A150
   clear A150
   have HC16 := Aside0.mk H
   clear H
   go_enter Try.func4, Try.ntmps4
   go_upto_region 11 with (first | ((with_reducible refine gate_dst (N := 2) rfl ?_); refine box_event ?hg (N := 2) ?hd (cs := #[.int .i64 a0_0, .slice A0_1 l0_1.length c0_1]) (t := 35) ?hr ?_; (case hd => rfl); (case hg => rfl); (case hr => first | (go_simp; done) | (go_simp; rfl)); intro gb101 hg w17 hbox hb; have n0_ := Aside0.mk (below_step (by repeat (first | (with_reducible first | exact HB.out | apply ba | apply bd | apply be) | exact HB.out)) hb); have n1_ := Aside0.mk (hbox); have n2_ := Aside0.mk ((by rw [hg]; exact (below_size (by repeat (first | (with_reducible first | exact HB.out | apply ba | apply bd | apply be) | exact HB.out))) : w.heap.size ≤ gb101)); have n3_ := Aside0.mk ((by rw [hg]; exact (below_size (by repeat (first | (with_reducible first | exact HB.out | apply ba | apply bd | apply be) | exact HB.out))) : w.heap.size ≤ gb101)); clear HB; have HB := n0_; have BK101 := n1_; have GW101 := n2_; have GE101 := n3_; clear n0_ n1_ n2_ n3_; clear hb hbox hg; have hcz18_0 : w17.cell? ⟨gb101, 0, none⟩ = some (.int .i64 a0_0) := (blk_cell BK101.out 0).trans rfl; have hcz18_1 : w17.cell? ⟨gb101, 1, none⟩ = some (.slice A0_1 l0_1.length c0_1) := (blk_cell BK101.out 1).trans rfl; have hfz18_0 := blk_frozen BK101.out 0; have hfz18_1 := blk_frozen BK101.out 1) | ((with_reducible refine gate_callee (f := 22) rfl ?_); refine goesL_ (some 17) rfl rfl Try.func22 (by kernel_rfl) rfl #[.agg #[.int .i64 a0_0, .slice A0_1 l0_1.length c0_1], .int .i64 1048576] rfl (by (try simp only [mA, mC, mN]); first | done | rfl | (simp only [List.length_drop, List.length_take]; rfl)) ?_; (with_reducible refine (laws_szGame.calls k a0_0 _ _ l0_1 1048576 t102 _ ?side1 ?side2 A5.out).mono ?_); (case side1 => repeat (first | exact (Kd.C_below HR0_1.out HB.out) | (with_reducible refine Kd.C_alloc ?_ _) | (with_reducible refine Kd.C_drewN ?_ _) | (with_reducible refine Kd.C_drew ?_))); (case side2 => exact HC0_1.out); rintro e w19 ⟨rfl, hb⟩; refine ⟨_, rfl, ?_⟩; have n0_ := Aside0.mk (blk_below (g := gb101) (o := .cells #[.int .i64 a0_0, .slice A0_1 l0_1.length c0_1] 35 (0, 0)) (by (with_reducible repeat (first | refine kN ?_ _ | refine kD ?_ | refine kA ?_ _)); exact BK101.out) hb); have n1_ := Aside0.mk (below_step (by repeat (first | (with_reducible first | exact HB.out | apply ba | apply bd | apply be | refine bs ?_ GE101.out) | exact HB.out)) hb); clear BK101; clear HB; have BK101 := n0_; have HB := n1_; clear n0_ n1_; (try clear hb); (try clear hb2); (try clear hk); (try clear hi); have hcz20_0 : w19.cell? ⟨gb101, 0, none⟩ = some (.int .i64 a0_0) := (blk_cell BK101.out 0).trans rfl; have hcz20_1 : w19.cell? ⟨gb101, 1, none⟩ = some (.slice A0_1 l0_1.length c0_1) := (blk_cell BK101.out 1).trans rfl; have hfz20_0 := blk_frozen BK101.out 0; have hfz20_1 := blk_frozen BK101.out 1) | ((with_reducible refine gate_callee (f := 24) rfl ?_); refine goesL_ (some 22) rfl rfl Try.func24 (by kernel_rfl) rfl #[.agg #[.int .i64 a0_0, .slice A0_1 l0_1.length c0_1]] rfl (by (try simp only [mA, mC, mN]); first | done | rfl | (simp only [List.length_drop, List.length_take]; rfl)) ?_; (with_reducible refine (laws_toGame.calls k a0_0 _ _ l0_1 t103 t104 _ ?side1 ?side2 A10.out).mono ?_); (case side1 => repeat (first | exact (Kd.C_below HR0_1.out HB.out) | (with_reducible refine Kd.C_alloc ?_ _) | (with_reducible refine Kd.C_drewN ?_ _) | (with_reducible refine Kd.C_drew ?_))); (case side2 => exact HC0_1.out); rintro e w21 ⟨v105, rfl, ho0, hb⟩; refine ⟨_, rfl, ?_⟩; have n0_ := Aside0.mk (Kd.S_lower ho0 (below_size (by repeat (first | (with_reducible first | exact HB.out | apply ba | apply bd | apply be | refine bs ?_ GE101.out) | exact HB.out)))); have n1_ := Aside0.mk (blk_below (g := gb101) (o := .cells #[.int .i64 a0_0, .slice A0_1 l0_1.length c0_1] 35 (0, 0)) (by (with_reducible repeat (first | refine kN ?_ _ | refine kD ?_ | refine kA ?_ _)); exact BK101.out) hb); have n2_ := Aside0.mk (below_step (by repeat (first | (with_reducible first | exact HB.out | apply ba | apply bd | apply be | refine bs ?_ GE101.out) | exact HB.out)) hb); clear BK101; clear HB; have HO106 := n0_; have BK101 := n1_; have HB := n2_; clear n0_ n1_ n2_; (try clear hb); (try clear hb2); (try clear hk); (try clear hi); (try clear ho0)) | ((with_reducible refine gate_callee (f := 25) rfl ?_); refine goesL_ (some 24) rfl rfl Try.func25 (by kernel_rfl) rfl #[.slice A1 l1.length c1] rfl (by (try simp only [mA, mC, mN]); first | done | rfl | (simp only [List.length_drop, List.length_take]; rfl)) ?_; (with_reducible refine (laws_toIntS.calls k _ _ l1 t107 _ ?side1 ?side2 A11.out).mono ?_); (case side1 => repeat (first | exact (Kd.C_below HR1.out HB.out) | (with_reducible refine Kd.C_alloc ?_ _) | (with_reducible refine Kd.C_drewN ?_ _) | (with_reducible refine Kd.C_drew ?_))); (case side2 => exact HC1.out); rintro e w22 ⟨v108, rfl, ho0, hb⟩; refine ⟨_, rfl, ?_⟩; have n0_ := Aside0.mk (Kd.S_elder' (by (with_reducible repeat (first | apply Kd.S_alloc | apply Kd.S_drewN | apply Kd.S_drew)); exact HO106.out) (Kd.R_base ho0) hb); have n1_ := Aside0.mk (Kd.R_lower ho0 (below_size (by repeat (first | (with_reducible first | exact HB.out | apply ba | apply bd | apply be | refine bs ?_ GE101.out) | exact HB.out)))); have n2_ := Aside0.mk (blk_below (g := gb101) (o := .cells #[.int .i64 a0_0, .slice A0_1 l0_1.length c0_1] 35 (0, 0)) (by (with_reducible repeat (first | refine kN ?_ _ | refine kD ?_ | refine kA ?_ _)); exact BK101.out) hb); have n3_ := Aside0.mk (below_step (by repeat (first | (with_reducible first | exact HB.out | apply ba | apply bd | apply be | refine bs ?_ GE101.out) | exact HB.out)) hb); clear HO106; clear BK101; clear HB; have HO106 := n0_; have HO109 := n1_; have BK101 := n2_; have HB := n3_; clear n0_ n1_ n2_ n3_; (try clear hb); (try clear hb2); (try clear hk); (try clear hi); (try clear ho0); obtain ⟨Ao23, co23, eo23⟩ := Kd.S_slice HO106.out; subst eo23; obtain ⟨Ao24, co24, eo24⟩ := Kd.R_slice HO109.out; subst eo24) | ((with_reducible refine gate_callee (f := 23) rfl ?_); refine goesL_ (some 25) rfl rfl Try.func23 (by kernel_rfl) rfl #[.agg #[.int .i64 t103, .slice Ao23 t104.length co23], .slice Ao24 t107.length co24] rfl (by (try simp only [mA, mC, mN]); first | done | rfl | (simp only [List.length_drop, List.length_take]; rfl)) ?_; (with_reducible refine (spec_QuotaOfGame.calls k t103 _ _ t104 _ _ t107 t110 t111 _ ?side1 ?side2 ?side3 ?side4 A12.out).mono ?_); (case side1 => repeat (first | exact (Kd.S_reads' HO106.out).2.2 | (with_reducible refine Kd.C_alloc ?_ _) | (with_reducible refine Kd.C_drewN ?_ _) | (with_reducible refine Kd.C_drew ?_))); (case side2 => exact (Kd.S_reads' HO106.out).2.1); (case side3 => repeat (first | exact (Kd.R_reads' HO109.out).2.2 | (with_reducible refine Kd.C_alloc ?_ _) | (with_reducible refine Kd.C_drewN ?_ _) | (with_reducible refine Kd.C_drew ?_))); (case side4 => exact (Kd.R_reads' HO109.out).2.1); rintro e w25 ⟨rfl, hb⟩; refine ⟨_, rfl, ?_⟩; have n0_ := Aside0.mk (Kd.S_below (by (with_reducible repeat (first | apply Kd.S_alloc | apply Kd.S_drewN | apply Kd.S_drew)); exact HO106.out) hb); have n1_ := Aside0.mk (Kd.R_below (by (with_reducible repeat (first | apply qA | apply qN | apply qD)); exact HO109.out) hb); have n2_ := Aside0.mk (blk_below (g := gb101) (o := .cells #[.int .i64 a0_0, .slice A0_1 l0_1.length c0_1] 35 (0, 0)) (by (with_reducible repeat (first | refine kN ?_ _ | refine kD ?_ | refine kA ?_ _)); exact BK101.out) hb); have n3_ := Aside0.mk (below_step (by repeat (first | (with_reducible first | exact HB.out | apply ba | apply bd | apply be | refine bs ?_ GE101.out) | exact HB.out)) hb); clear HO106; clear HO109; clear BK101; clear HB; have HO106 := n0_; have HO109 := n1_; have BK101 := n2_; have HB := n3_; clear n0_ n1_ n2_ n3_; (try clear hb); (try clear hb2); (try clear hk); (try clear hi); have hcz26_0 : w25.cell? ⟨gb101, 0, none⟩ = some (.int .i64 a0_0) := (blk_cell BK101.out 0).trans rfl; have hcz26_1 : w25.cell? ⟨gb101, 1, none⟩ = some (.slice A0_1 l0_1.length c0_1) := (blk_cell BK101.out 1).trans rfl; have hfz26_0 := blk_frozen BK101.out 0; have hfz26_1 := blk_frozen BK101.out 1) | ((with_reducible refine gate_callee (f := 24) rfl ?_); refine goesL_ (some 29) rfl rfl Try.func24 (by kernel_rfl) rfl #[.agg #[.int .i64 a0_0, .slice A0_1 l0_1.length c0_1]] rfl (by (try simp only [mA, mC, mN]); first | done | rfl | (simp only [List.length_drop, List.length_take]; rfl)) ?_; (with_reducible refine (laws_toGame.calls k a0_0 _ _ l0_1 t112 t113 _ ?side1 ?side2 A13.out).mono ?_); (case side1 => repeat (first | exact (Kd.C_below HR0_1.out HB.out) | (with_reducible refine Kd.C_alloc ?_ _) | (with_reducible refine Kd.C_drewN ?_ _) | (with_reducible refine Kd.C_drew ?_))); (case side2 => exact HC0_1.out); rintro e w27 ⟨v114, rfl, ho0, hb⟩; refine ⟨_, rfl, ?_⟩; have n0_ := Aside0.mk (Kd.S_elder' (by (with_reducible repeat (first | apply Kd.S_alloc | apply Kd.S_drewN | apply Kd.S_drew)); exact HO106.out) (Kd.S_base ho0) hb); have n1_ := Aside0.mk (Kd.R_below (by (with_reducible repeat (first | apply qA | apply qN | apply qD)); exact HO109.out) hb); have n2_ := Aside0.mk (Kd.S_lower (Kd.S_new' (Kd.S_new' ho0 (Kd.S_lt (by (with_reducible repeat (first | apply Kd.S_alloc | apply Kd.S_drewN | apply Kd.S_drew)); exact HO106.out))) (Kd.R_lt (by (with_reducible repeat (first | apply qA | apply qN | apply qD)); exact HO109.out))) (below_size (by repeat (first | (with_reducible first | exact HB.out | apply ba | apply bd | apply be | refine bs ?_ GE101.out) | exact HB.out)))); have n3_ := Aside0.mk (blk_below (g := gb101) (o := .cells #[.int .i64 a0_0, .slice A0_1 l0_1.length c0_1] 35 (0, 0)) (by (with_reducible repeat (first | refine kN ?_ _ | refine kD ?_ | refine kA ?_ _)); exact BK101.out) hb); have n4_ := Aside0.mk (below_step (by repeat (first | (with_reducible first | exact HB.out | apply ba | apply bd | apply be | refine bs ?_ GE101.out) | exact HB.out)) hb); clear HO106; clear HO109; clear BK101; clear HB; have HO106 := n0_; have HO109 := n1_; have HO115 := n2_; have BK101 := n3_; have HB := n4_; clear n0_ n1_ n2_ n3_ n4_; (try clear hb); (try clear hb2); (try clear hk); (try clear hi); (try clear ho0)) | ((with_reducible refine gate_dst (N := 8) rfl ?_); refine box_event ?hg (N := 8) ?hd (cs := #[.int .i64 0, .slice none 0 0]) (t := 39) ?hr ?_; (case hd => rfl); (case hg => rfl); (case hr => first | (go_simp; done) | (go_simp; rfl)); intro gb116 hg w28 hbox hb; have n0_ := Aside0.mk (Kd.S_below (by (with_reducible repeat (first | apply Kd.S_alloc | apply Kd.S_drewN | apply Kd.S_drew)); exact HO106.out) hb); have n1_ := Aside0.mk (Kd.R_below (by (with_reducible repeat (first | apply qA | apply qN | apply qD)); exact HO109.out) hb); have n2_ := Aside0.mk (Kd.S_below (by (with_reducible repeat (first | apply Kd.S_alloc | apply Kd.S_drewN | apply Kd.S_drew)); exact HO115.out) hb); have n3_ := Aside0.mk (blk_below (g := gb101) (o := .cells #[.int .i64 a0_0, .slice A0_1 l0_1.length c0_1] 35 (0, 0)) (by (with_reducible repeat (first | refine kN ?_ _ | refine kD ?_ | refine kA ?_ _)); exact BK101.out) hb); have n4_ := Aside0.mk (below_step (by repeat (first | (with_reducible first | exact HB.out | apply ba | apply bd | apply be | refine bs ?_ GE101.out) | exact HB.out)) hb); have n5_ := Aside0.mk (hbox); have n6_ := Aside0.mk ((by rw [hg]; exact (below_size (by repeat (first | (with_reducible first | exact HB.out | apply ba | apply bd | apply be | refine bs ?_ GE101.out) | exact HB.out))) : w.heap.size ≤ gb116)); have n7_ := Aside0.mk ((by rw [hg]; exact (below_size (by repeat (first | (with_reducible first | exact HB.out | apply ba | apply bd | apply be | refine bs ?_ GE101.out) | exact HB.out))) : w.heap.size ≤ gb116)); have n8_ := Aside0.mk ((by rw [hg]; exact Nat.ne_of_lt (blk_lt (g := gb101) (o := .cells #[.int .i64 a0_0, .slice A0_1 l0_1.length c0_1] 35 (0, 0)) (by (with_reducible repeat (first | refine kN ?_ _ | refine kD ?_ | refine kA ?_ _)); exact BK101.out)) : gb101 ≠ gb116)); have n9_ := Aside0.mk ((by rw [hg]; exact Nat.ne_of_gt (blk_lt (g := gb101) (o := .cells #[.int .i64 a0_0, .slice A0_1 l0_1.length c0_1] 35 (0, 0)) (by (with_reducible repeat (first | refine kN ?_ _ | refine kD ?_ | refine kA ?_ _)); exact BK101.out)) : gb116 ≠ gb101)); clear HO106; clear HO109; clear HO115; clear BK101; clear HB; have HO106 := n0_; have HO109 := n1_; have HO115 := n2_; have BK101 := n3_; have HB := n4_; have BK116 := n5_; have GW116 := n6_; have GE116 := n7_; have NB101_116 := n8_; have NB116_101 := n9_; clear n0_ n1_ n2_ n3_ n4_ n5_ n6_ n7_ n8_ n9_; clear hb hbox hg; have hnb29 := NB116_101.out; have hnc29 := NB101_116.out; have hcz30_0 : w28.cell? ⟨gb116, 0, none⟩ = some (.int .i64 0) := (blk_cell BK116.out 0).trans rfl; have hcz30_1 : w28.cell? ⟨gb116, 1, none⟩ = some (.slice none 0 0) := (blk_cell BK116.out 1).trans rfl; have hfz30_0 := blk_frozen BK116.out 0; have hfz30_1 := blk_frozen BK116.out 1; obtain ⟨Ao31, co31, eo31⟩ := Kd.S_slice HO115.out; subst eo31) | ((with_reducible refine gate_callee (f := 25) rfl ?_); refine goesL_ (some 31) rfl rfl Try.func25 (by kernel_rfl) rfl #[.slice A1 l1.length c1] rfl (by (try simp only [mA, mC, mN]); first | done | rfl | (simp only [List.length_drop, List.length_take]; rfl)) ?_; (with_reducible refine (laws_toIntS.calls k _ _ l1 t117 _ ?side1 ?side2 A14.out).mono ?_); (case side1 => exact Kd.C_below HR1.out (by repeat (first | (with_reducible first | exact HB.out | apply ba | apply bd | apply be | refine bs ?_ GE101.out | refine bs ?_ GE116.out) | exact HB.out))); (case side2 => exact HC1.out); rintro e w32 ⟨v118, rfl, ho0, hb⟩; refine ⟨_, rfl, ?_⟩; have n0_ := Aside0.mk (Kd.S_elder' (by (with_reducible repeat (first | apply Kd.S_alloc | apply Kd.S_drewN | apply Kd.S_drew)); exact (Kd.S_mono (Kd.S_far (p := ⟨gb116, 1, none⟩) (Kd.S_far (p := ⟨gb116, 0, none⟩) (Kd.S_types HO106.out BK116.out (by decide)) (fun _ hk => hk.2) (.int .i64 t112)) (fun _ hk => hk.2) (.slice Ao31 t113.length co31)) (fun _ h_ => h_.1))) (Kd.R_base ho0) hb); have n1_ := Aside0.mk (Kd.R_elder' (by (with_reducible repeat (first | apply qA | apply qN | apply qD)); exact (Kd.R_mono (Kd.R_far (p := ⟨gb116, 1, none⟩) (Kd.R_far (p := ⟨gb116, 0, none⟩) (Kd.R_types HO109.out BK116.out (by decide)) (fun _ hk => hk.2) (.int .i64 t112)) (fun _ hk => hk.2) (.slice Ao31 t113.length co31)) (fun _ h_ => h_.1))) (Kd.R_base ho0) hb); have n2_ := Aside0.mk (Kd.S_elder' (by (with_reducible repeat (first | apply Kd.S_alloc | apply Kd.S_drewN | apply Kd.S_drew)); exact (Kd.S_mono (Kd.S_far (p := ⟨gb116, 1, none⟩) (Kd.S_far (p := ⟨gb116, 0, none⟩) (Kd.S_types HO115.out BK116.out (by decide)) (fun _ hk => hk.2) (.int .i64 t112)) (fun _ hk => hk.2) (.slice Ao31 t113.length co31)) (fun _ h_ => h_.1))) (Kd.R_base ho0) hb); have n3_ := Aside0.mk (Kd.R_lower (Kd.R_new' ho0 (Kd.R_lt (by (with_reducible repeat (first | apply qA | apply qN | apply qD)); exact (Kd.R_mono (Kd.R_far (p := ⟨gb116, 1, none⟩) (Kd.R_far (p := ⟨gb116, 0, none⟩) (Kd.R_types HO109.out BK116.out (by decide)) (fun _ hk => hk.2) (.int .i64 t112)) (fun _ hk => hk.2) (.slice Ao31 t113.length co31)) (fun _ h_ => h_.1))))) (below_size (by repeat (first | (with_reducible first | exact HB.out | apply ba | apply bd | apply be | refine bs ?_ GE101.out | refine bs ?_ GE116.out) | exact HB.out)))); have n4_ := Aside0.mk (blk_below (g := gb101) (o := .cells #[.int .i64 a0_0, .slice A0_1 l0_1.length c0_1] 35 (0, 0)) (by (with_reducible repeat (first | refine kN ?_ _ | refine kD ?_ | refine kA ?_ _)); refine blk_far ?_ NB101_116.out _; (with_reducible repeat (first | refine kN ?_ _ | refine kD ?_ | refine kA ?_ _)); refine blk_far ?_ NB101_116.out _; (with_reducible repeat (first | refine kN ?_ _ | refine kD ?_ | refine kA ?_ _)); exact BK101.out) hb); have n5_ := Aside0.mk (blk_below (g := gb116) (o := .cells #[.int .i64 t112, .slice Ao31 t113.length co31] 39 (0, 0)) (by (with_reducible repeat (first | refine kN ?_ _ | refine kD ?_ | refine kA ?_ _)); refine blk_put (cs := #[.int .i64 t112, .slice none 0 0]) ?_ 1 _ rfl; (with_reducible repeat (first | refine kN ?_ _ | refine kD ?_ | refine kA ?_ _)); refine blk_put (cs := #[.int .i64 0, .slice none 0 0]) ?_ 0 _ rfl; (with_reducible repeat (first | refine kN ?_ _ | refine kD ?_ | refine kA ?_ _)); exact BK116.out) hb); have n6_ := Aside0.mk (below_step (by repeat (first | (with_reducible first | exact HB.out | apply ba | apply bd | apply be | refine bs ?_ GE101.out | refine bs ?_ GE116.out) | exact HB.out)) hb); clear HO106; clear HO109; clear HO115; clear BK101; clear BK116; clear HB; have HO106 := n0_; have HO109 := n1_; have HO115 := n2_; have HO119 := n3_; have BK101 := n4_; have BK116 := n5_; have HB := n6_; clear n0_ n1_ n2_ n3_ n4_ n5_ n6_; (try clear hb); (try clear hb2); (try clear hk); (try clear hi); (try clear ho0); have hcz33_0 : w32.cell? ⟨gb116, 0, none⟩ = some (.int .i64 t112) := (blk_cell BK116.out 0).trans rfl; have hcz33_1 : w32.cell? ⟨gb116, 1, none⟩ = some (.slice Ao31 t113.length co31) := (blk_cell BK116.out 1).trans rfl; have hfz33_0 := blk_frozen BK116.out 0; have hfz33_1 := blk_frozen BK116.out 1; obtain ⟨Ao34, co34, eo34⟩ := Kd.R_slice HO119.out; subst eo34) | ((with_reducible refine gate_callee (f := 26) rfl ?_); refine goesL_ (some 35) rfl rfl Try.func26 (by kernel_rfl) rfl #[.agg #[.int .i64 t112, .slice Ao31 t113.length co31], .slice Ao34 t117.length co34] rfl (by (try simp only [mA, mC, mN]); first | done | rfl | (simp only [List.length_drop, List.length_take]; rfl)) ?_; (with_reducible refine (impl_QuotaOfGame.calls k t112 _ _ t113 _ _ t117 t120 t121 _ ?side1 ?side2 ?side3 ?side4 A15.out).mono ?_); (case side1 => repeat (first | exact (Kd.S_reads' HO115.out).2.2 | (with_reducible refine Kd.C_alloc ?_ _) | (with_reducible refine Kd.C_drewN ?_ _) | (with_reducible refine Kd.C_drew ?_))); (case side2 => exact (Kd.S_reads' HO115.out).2.1); (case side3 => repeat (first | exact (Kd.R_reads' HO119.out).2.2 | (with_reducible refine Kd.C_alloc ?_ _) | (with_reducible refine Kd.C_drewN ?_ _) | (with_reducible refine Kd.C_drew ?_))); (case side4 => exact (Kd.R_reads' HO119.out).2.1); rintro e w35 ⟨rfl, hb⟩; refine ⟨_, rfl, ?_⟩; have n0_ := Aside0.mk (Kd.S_below (by (with_reducible repeat (first | apply Kd.S_alloc | apply Kd.S_drewN | apply Kd.S_drew)); exact HO106.out) hb); have n1_ := Aside0.mk (Kd.R_below (by (with_reducible repeat (first | apply qA | apply qN | apply qD)); exact HO109.out) hb); have n2_ := Aside0.mk (Kd.S_below (by (with_reducible repeat (first | apply Kd.S_alloc | apply Kd.S_drewN | apply Kd.S_drew)); exact HO115.out) hb); have n3_ := Aside0.mk (Kd.R_below (by (with_reducible repeat (first | apply qA | apply qN | apply qD)); exact HO119.out) hb); have n4_ := Aside0.mk (blk_below (g := gb101) (o := .cells #[.int .i64 a0_0, .slice A0_1 l0_1.length c0_1] 35 (0, 0)) (by (with_reducible repeat (first | refine kN ?_ _ | refine kD ?_ | refine kA ?_ _)); exact BK101.out) hb); have n5_ := Aside0.mk (blk_below (g := gb116) (o := .cells #[.int .i64 t112, .slice Ao31 t113.length co31] 39 (0, 0)) (by (with_reducible repeat (first | refine kN ?_ _ | refine kD ?_ | refine kA ?_ _)); exact BK116.out) hb); have n6_ := Aside0.mk (below_step (by repeat (first | (with_reducible first | exact HB.out | apply ba | apply bd | apply be | refine bs ?_ GE101.out | refine bs ?_ GE116.out) | exact HB.out)) hb); clear HO106; clear HO109; clear HO115; clear HO119; clear BK101; clear BK116; clear HB; have HO106 := n0_; have HO109 := n1_; have HO115 := n2_; have HO119 := n3_; have BK101 := n4_; have BK116 := n5_; have HB := n6_; clear n0_ n1_ n2_ n3_ n4_ n5_ n6_; (try clear hb); (try clear hb2); (try clear hk); (try clear hi)))
   (try simp only [Act.put, sA, sZ, sS])
   go_cut [45] (fun v45 wc => ∃ (kq : Nat) (x45_15 : Bool), v45 = .bool x45_15 ∧ Aside0 (laws_FnExactQuotaOfGame.j0 kq l1 t117 x45_15 a0_0 l0_1 t112 t113 = some r) ∧ Aside0 (kq ≤ k) ∧ Aside0 (Kd.R (Kd.int .i64) 3 wc w.heap.size (fun _ => True) (.slice Ao34 t117.length co34) t117) ∧ Aside0 (Kd.S (Kd.slice 3 (Kd.int .i64)) 22 wc w.heap.size (fun k_ => some k_ ≠ ((.slice Ao34 t117.length co34) : Value).ownBlock) (.slice Ao31 t113.length co31) t113) ∧ Aside0 (wc.heap[gb101]? = some (.cells #[.int .i64 a0_0, (.slice A0_1 l0_1.length c0_1)] 35 (0, 0))) ∧ Aside0 (wc.heap[gb116]? = some (.cells #[.int .i64 t112, (.slice Ao31 t113.length co31)] 39 (0, 0))) ∧ Aside0 (Below w.heap.size w wc))
   case first =>
    have H := HC16.out
    clear HC16
    by_cases c36 : t120 = t110
    ·rw [if_pos c36] at H
     have c36b0 : (t120 == t110) = true := beq_iff_eq.mpr c36
     have c36b1 : (t120 != t110) = false := bne_eq_false_iff_eq.mpr c36
     clear c36
     (first | rw [c36b0] | (simp only [i64_w, i32_w]; rw [c36b0]) | skip)
     have H' := Aside0.mk H
     clear H
     go_wp2
     go_meet
     case rel => exact ⟨_, ((t121 != t111)), (by first | rfl | (simp; done) | (simp [*]; done)), H', ⟨by first | omega | exact Nat.le_refl _⟩, ⟨by (with_reducible repeat (first | apply qA | apply qN | apply qD)); exact Kd.R_mono HO119.out (fun _ hk => trivial)⟩, ⟨by (with_reducible repeat (first | apply Kd.S_alloc | apply Kd.S_drewN | apply Kd.S_drew)); exact Kd.S_mono HO115.out (fun _ hk => hk.2)⟩, ⟨by (with_reducible repeat (first | refine kN ?_ _ | refine kD ?_ | refine kA ?_ _)); exact BK101.out⟩, ⟨by (with_reducible repeat (first | refine kN ?_ _ | refine kD ?_ | refine kA ?_ _)); exact BK116.out⟩, ⟨by repeat (first | (with_reducible first | exact HB.out | apply ba | apply bd | apply be | refine bs ?_ GE101.out | refine bs ?_ GE116.out) | exact HB.out)⟩⟩
    ·rw [if_neg c36] at H
     have c36b0 : (t120 == t110) = false := beq_eq_false_iff_ne.mpr c36
     have c36b1 : (t120 != t110) = true := bne_iff_ne.mpr c36
     (first | rw [c36b0] | (simp only [i64_w, i32_w]; rw [c36b0]) | skip)
     have H' := Aside0.mk H
     clear H
     go_wp2
     go_meet
     case rel => exact ⟨_, (true), (by first | rfl | (simp; done) | (simp [*]; done)), H', ⟨by first | omega | exact Nat.le_refl _⟩, ⟨by (with_reducible repeat (first | apply qA | apply qN | apply qD)); exact Kd.R_mono HO119.out (fun _ hk => trivial)⟩, ⟨by (with_reducible repeat (first | apply Kd.S_alloc | apply Kd.S_drewN | apply Kd.S_drew)); exact Kd.S_mono HO115.out (fun _ hk => hk.2)⟩, ⟨by (with_reducible repeat (first | refine kN ?_ _ | refine kD ?_ | refine kA ?_ _)); exact BK101.out⟩, ⟨by (with_reducible repeat (first | refine kN ?_ _ | refine kD ?_ | refine kA ?_ _)); exact BK116.out⟩, ⟨by repeat (first | (with_reducible first | exact HB.out | apply ba | apply bd | apply be | refine bs ?_ GE101.out | refine bs ?_ GE116.out) | exact HB.out)⟩⟩
   case rest =>
    clear HC16
    try clear c1
    try clear c2
    try clear p2
    try clear c3
    try clear c3b0
    try clear c3b1
    try clear c4
    try clear c6
    try clear c6b0
    try clear c22
    try clear c23
    try clear c24
    try clear c25
    try clear c26
    try clear c29
    try clear c36
    try clear c36b0
    try clear c36b1
    try clear hcz18_0
    try clear hcz18_1
    try clear hcz20_0
    try clear hcz20_1
    try clear hcz26_0
    try clear hcz26_1
    try clear hcz30_0
    try clear hcz30_1
    try clear hcz33_0
    try clear hcz33_1
    try clear hcz8_0
    try clear hcz8_1
    try clear hfz18_0
    try clear hfz18_1
    try clear hfz20_0
    try clear hfz20_1
    try clear hfz26_0
    try clear hfz26_1
    try clear hfz30_0
    try clear hfz30_1
    try clear hfz33_0
    try clear hfz33_1
    try clear hfz8_0
    try clear hfz8_1
    obtain ⟨kq, x45_15, rfl, HA, HJ15, HO_9, HO_117001, BK101, BK116, HB⟩ := hcut
    cases kq with
    | zero => exact absurd HA.out (by simp [laws_FnExactQuotaOfGame.j0])
    | succ kj15 =>
     have H := HA.out
     clear HA
     simp only [laws_FnExactQuotaOfGame.j0] at H
     by_cases c37 : x45_15 = true
     ·subst c37
      have H1 : (some false) = some r := by rw [if_pos rfl] at H; exact H
      clear H
      have H := H1
      clear H1
      obtain rfl := Option.some.inj H
      go_wp2
      go_ret
      exact ⟨by first | rfl | (simp <;> rfl) | (simp [*] <;> rfl), by repeat (first | (with_reducible first | exact HB.out | apply ba | apply bd | apply be | refine bs ?_ GE101.out | refine bs ?_ GE116.out) | exact HB.out)⟩
     ·replace c37 := Bool.eq_false_iff.mpr c37
      subst c37
      have H1 : ((laws_toGame.f kj15 a0_0 l0_1).bind fun bt122 => ((laws_eqGame.f kj15 t112 t113 bt122.1 bt122.2).bind fun t126 => (if t126 = true then ((laws_toIntS.f kj15 l1).bind fun t127 => ((laws_eqIntS.f kj15 t117 t127).bind fun t130 => (if t130 = true then (some true) else (some false)))) else (some false)))) = some r := by rw [if_neg (show ¬ (false = true) by decide)] at H; exact H
      clear H
      have H := H1
      clear H1
      replace H := oB H
      obtain ⟨⟨t122, t123⟩, A380, H⟩ := H
      replace H : ((laws_eqGame.f kj15 t112 t113 t122 t123).bind fun t126 => (if t126 = true then ((laws_toIntS.f kj15 l1).bind fun t127 => ((laws_eqIntS.f kj15 t117 t127).bind fun t130 => (if t130 = true then (some true) else (some false)))) else (some false))) = some r := H
      have A38 := Aside0.mk A380
      clear A380
      replace H := oB H
      obtain ⟨t126, A390, H⟩ := H
      replace H : (if t126 = true then ((laws_toIntS.f kj15 l1).bind fun t127 => ((laws_eqIntS.f kj15 t117 t127).bind fun t130 => (if t130 = true then (some true) else (some false)))) else (some false)) = some r := H
      have A39 := Aside0.mk A390
      clear A390
      by_cases c40 : t126 = true
      ·subst c40
       have H1 : ((laws_toIntS.f kj15 l1).bind fun t127 => ((laws_eqIntS.f kj15 t117 t127).bind fun t130 => (if t130 = true then (some true) else (some false)))) = some r := by rw [if_pos rfl] at H; exact H
       clear H
       have H := H1
       clear H1
       replace H := oB H
       obtain ⟨t127, A410, H⟩ := H
       replace H : ((laws_eqIntS.f kj15 t117 t127).bind fun t130 => (if t130 = true then (some true) else (some false))) = some r := H
       have A41 := Aside0.mk A410
       clear A410
       replace H := oB H
       obtain ⟨t130, A420, H⟩ := H
       replace H : (if t130 = true then (some true) else (some false)) = some r := H
       have A42 := Aside0.mk A420
       clear A420
       by_cases c43 : t130 = true
       ·subst c43
        have H1 : (some true) = some r := by rw [if_pos rfl] at H; exact H
        clear H
        have H := H1
        clear H1
        obtain rfl := Option.some.inj H
        try go_wp2
        have n0_ := Aside0.mk (Kd.R_drew HO_9.out)
        have n1_ := Aside0.mk (Kd.S_drew HO_117001.out)
        have n2_ := Aside0.mk (blk_drew BK101.out)
        have n3_ := Aside0.mk (blk_drew BK116.out)
        have n4_ := Aside0.mk (below_drew1 HB.out)
        clear HO_9
        clear HO_117001
        clear BK101
        clear BK116
        clear HB
        have HO_9 := n0_
        have HO_117001 := n1_
        have BK101 := n2_
        have BK116 := n3_
        have HB := n4_
        clear n0_ n1_ n2_ n3_ n4_
        refine start_ (n := 5) (S := fun w' => w'.cell? ⟨gb116, 0, none⟩ = some (.int .i64 t112) ∧ w'.cell? ⟨gb116, 1, none⟩ = some (.slice Ao31 t113.length co31) ∧ w'.cell? ⟨gb101, 0, none⟩ = some (.int .i64 a0_0) ∧ w'.cell? ⟨gb101, 1, none⟩ = some (.slice A0_1 l0_1.length c0_1)) (ds := []) #[false, false, false, false, false] (by kernel_rfl) rfl rfl ⟨(blk_cell BK116.out 0).trans rfl, (blk_cell BK116.out 1).trans rfl, (blk_cell BK101.out 0).trans rfl, (blk_cell BK101.out 1).trans rfl⟩ (fun hHeld => ?_)
        generalize wc.drew = w44 at HO_9 HO_117001 BK101 BK116 HB hHeld ⊢
        refine take_ (i := 0) (N := some 46) (v := ?_) (a' := ?_) #[true, false, false, false, false] rfl rfl (by kernel_rfl) (fun _ _ _ h => h) (Or.inl ⟨by rfl, ?_⟩) hHeld ?_ ?_
        rotate_left
        ·rintro w' ⟨s0, s1, s2, s3⟩
         go_simp
         with_reducible rfl
        rotate_left
        ·simp only [Act.put, sA, sZ, sS, i64_w, i32_w]
         rfl
        refine take_ (i := 1) (N := some 47) (v := ?_) (a' := ?_) #[true, true, false, false, false] rfl rfl (by kernel_rfl) (fun _ _ _ h => h) (Or.inl ⟨by rfl, ?_⟩) hHeld ?_ ?_
        rotate_left
        ·rintro w' ⟨s0, s1, s2, s3⟩
         go_simp
         with_reducible rfl
        rotate_left
        ·simp only [Act.put, sA, sZ, sS, i64_w, i32_w]
         rfl
        refine one_ (i := 2) (N := some 48) #[true, true, true, false, false] rfl rfl (by kernel_rfl) (by decide) (fun K hK => ?_)
        refine goes_ Try.func24 (by kernel_rfl) rfl #[.agg #[.int .i64 a0_0, .slice A0_1 l0_1.length c0_1]] (by rfl) rfl rfl (by (try simp only [mA, mC, mN]); first | done | rfl | (simp only [List.length_drop, List.length_take]; rfl)) ?_
        with_reducible refine (laws_toGame.calls kj15 a0_0 _ _ l0_1 t122 t123 _ ?side1 ?side2 A38.out).mono ?_
        (case side1 => repeat (first | exact (Kd.C_below HR0_1.out HB.out) | (with_reducible refine Kd.C_alloc ?_ _) | (with_reducible refine Kd.C_drewN ?_ _) | (with_reducible refine Kd.C_drew ?_)))
        (case side2 => exact HC0_1.out)
        rintro e w45 ⟨v124, rfl, ho0, hb⟩
        refine ⟨_, rfl, ?_⟩
        have n0_ := Aside0.mk (Kd.R_below (by (with_reducible repeat (first | apply qA | apply qN | apply qD)); exact HO_9.out) hb)
        have n1_ := Aside0.mk (Kd.S_elder' (by (with_reducible repeat (first | apply Kd.S_alloc | apply Kd.S_drewN | apply Kd.S_drew)); exact HO_117001.out) (Kd.S_base ho0) hb)
        have n2_ := Aside0.mk (Kd.S_lower (Kd.S_new' (Kd.S_new' ho0 (Kd.R_lt (by (with_reducible repeat (first | apply qA | apply qN | apply qD)); exact HO_9.out))) (Kd.S_lt (by (with_reducible repeat (first | apply Kd.S_alloc | apply Kd.S_drewN | apply Kd.S_drew)); exact HO_117001.out))) (below_size (by repeat (first | (with_reducible first | exact HB.out | apply ba | apply bd | apply be | refine bs ?_ GE101.out | refine bs ?_ GE116.out) | exact HB.out))))
        have n3_ := Aside0.mk (blk_below (g := gb101) (o := .cells #[.int .i64 a0_0, .slice A0_1 l0_1.length c0_1] 35 (0, 0)) (by (with_reducible repeat (first | refine kN ?_ _ | refine kD ?_ | refine kA ?_ _)); exact BK101.out) hb)
        have n4_ := Aside0.mk (blk_below (g := gb116) (o := .cells #[.int .i64 t112, .slice Ao31 t113.length co31] 39 (0, 0)) (by (with_reducible repeat (first | refine kN ?_ _ | refine kD ?_ | refine kA ?_ _)); exact BK116.out) hb)
        have n5_ := Aside0.mk (below_step (by repeat (first | (with_reducible first | exact HB.out | apply ba | apply bd | apply be | refine bs ?_ GE101.out | refine bs ?_ GE116.out) | exact HB.out)) hb)
        clear HO_9
        clear HO_117001
        clear BK101
        clear BK116
        clear HB
        have HO_9 := n0_
        have HO_117001 := n1_
        have HO125 := n2_
        have BK101 := n3_
        have BK116 := n4_
        have HB := n5_
        clear n0_ n1_ n2_ n3_ n4_ n5_
        (try clear hb)
        (try clear hb2)
        (try clear hk)
        (try clear hi)
        (try clear ho0)
        obtain ⟨Ao46, co46, eo46⟩ := Kd.S_slice HO125.out
        (first | subst eo46 | (injection eo46 with f1_ f2_ f3_; have f4_ := f1_.symm; have f5_ := f3_.symm; clear f1_ f2_ f3_; subst f4_; subst f5_))
        refine hK.out _ _ ⟨(blk_cell BK116.out 0).trans rfl, (blk_cell BK116.out 1).trans rfl, (blk_cell BK101.out 0).trans rfl, (blk_cell BK101.out 1).trans rfl⟩ (fun hHeld => ?_)
        clear hK K
        refine norm_ (a' := ?_) ?_ ?_
        rotate_left
        ·show Act.put _ (some 48) _ = _
         simp only [Act.put, sA, sZ, sS, i64_w, i32_w]
         rfl
        refine one_ (i := 3) (N := some 49) #[true, true, true, true, false] rfl rfl (by kernel_rfl) (by decide) (fun K hK => ?_)
        refine goes_ Try.func27 (by kernel_rfl) rfl #[.agg #[.int .i64 t112, .slice Ao31 t113.length co31], .agg #[.int .i64 t122, .slice Ao46 t123.length co46]] (by rfl) rfl rfl (by (try simp only [mA, mC, mN]); first | done | rfl | (simp only [List.length_drop, List.length_take]; rfl)) ?_
        with_reducible refine (laws_eqGame.calls kj15 t112 _ _ t113 t122 _ _ t123 true _ ?side1 ?side2 ?side3 ?side4 A39.out).mono ?_
        (case side1 => repeat (first | exact (Kd.S_reads' HO_117001.out).2.2 | (with_reducible refine Kd.C_alloc ?_ _) | (with_reducible refine Kd.C_drewN ?_ _) | (with_reducible refine Kd.C_drew ?_)))
        (case side2 => exact (Kd.S_reads' HO_117001.out).2.1)
        (case side3 => repeat (first | exact (Kd.S_reads' HO125.out).2.2 | (with_reducible refine Kd.C_alloc ?_ _) | (with_reducible refine Kd.C_drewN ?_ _) | (with_reducible refine Kd.C_drew ?_)))
        (case side4 => exact (Kd.S_reads' HO125.out).2.1)
        rintro e w47 ⟨rfl, hb⟩
        refine ⟨_, rfl, ?_⟩
        have n0_ := Aside0.mk (Kd.R_below (by (with_reducible repeat (first | apply qA | apply qN | apply qD)); exact HO_9.out) hb)
        have n1_ := Aside0.mk (Kd.S_below (by (with_reducible repeat (first | apply Kd.S_alloc | apply Kd.S_drewN | apply Kd.S_drew)); exact HO_117001.out) hb)
        have n2_ := Aside0.mk (Kd.S_below (by (with_reducible repeat (first | apply Kd.S_alloc | apply Kd.S_drewN | apply Kd.S_drew)); exact HO125.out) hb)
        have n3_ := Aside0.mk (blk_below (g := gb101) (o := .cells #[.int .i64 a0_0, .slice A0_1 l0_1.length c0_1] 35 (0, 0)) (by (with_reducible repeat (first | refine kN ?_ _ | refine kD ?_ | refine kA ?_ _)); exact BK101.out) hb)
        have n4_ := Aside0.mk (blk_below (g := gb116) (o := .cells #[.int .i64 t112, .slice Ao31 t113.length co31] 39 (0, 0)) (by (with_reducible repeat (first | refine kN ?_ _ | refine kD ?_ | refine kA ?_ _)); exact BK116.out) hb)
        have n5_ := Aside0.mk (below_step (by repeat (first | (with_reducible first | exact HB.out | apply ba | apply bd | apply be | refine bs ?_ GE101.out | refine bs ?_ GE116.out) | exact HB.out)) hb)
        clear HO_9
        clear HO_117001
        clear HO125
        clear BK101
        clear BK116
        clear HB
        have HO_9 := n0_
        have HO_117001 := n1_
        have HO125 := n2_
        have BK101 := n3_
        have BK116 := n4_
        have HB := n5_
        clear n0_ n1_ n2_ n3_ n4_ n5_
        (try clear hb)
        (try clear hb2)
        (try clear hk)
        (try clear hi)
        refine hK.out _ _ ⟨(blk_cell BK116.out 0).trans rfl, (blk_cell BK116.out 1).trans rfl, (blk_cell BK101.out 0).trans rfl, (blk_cell BK101.out 1).trans rfl⟩ (fun hHeld => ?_)
        clear hK K
        refine norm_ (a' := ?_) ?_ ?_
        rotate_left
        ·show Act.put _ (some 49) _ = _
         simp only [Act.put, sA, sZ, sS, i64_w, i32_w]
         rfl
        refine pure_ (i := 4) (N := some 50) (v := ?_) (a' := ?_) #[true, true, true, true, true] rfl rfl (by kernel_rfl) (fun _ _ _ h => h) (Or.inl ⟨by rfl, ?_⟩) ?_ ?_
        rotate_left
        ·intro w'
         go_simp
         with_reducible rfl
        rotate_left
        ·simp only [Act.put, sA, sZ, sS, i64_w, i32_w]
         rfl
        refine done_ (by kernel_rfl) ?_
        try go_wp2_with (first | ((with_reducible refine gate_callee (f := 25) rfl ?_); refine goesL_ (some 53) rfl rfl Try.func25 (by kernel_rfl) rfl #[.slice A1 l1.length c1] rfl (by (try simp only [mA, mC, mN]); first | done | rfl | (simp only [List.length_drop, List.length_take]; rfl)) ?_; (with_reducible refine (laws_toIntS.calls kj15 _ _ l1 t127 _ ?side1 ?side2 A41.out).mono ?_); (case side1 => repeat (first | exact (Kd.C_below HR1.out HB.out) | (with_reducible refine Kd.C_alloc ?_ _) | (with_reducible refine Kd.C_drewN ?_ _) | (with_reducible refine Kd.C_drew ?_))); (case side2 => exact HC1.out); rintro e w48 ⟨v128, rfl, ho0, hb⟩; refine ⟨_, rfl, ?_⟩; have n0_ := Aside0.mk (Kd.R_elder' (by (with_reducible repeat (first | apply qA | apply qN | apply qD)); exact HO_9.out) (Kd.R_base ho0) hb); have n1_ := Aside0.mk (Kd.S_elder' (by (with_reducible repeat (first | apply Kd.S_alloc | apply Kd.S_drewN | apply Kd.S_drew)); exact HO_117001.out) (Kd.R_base ho0) hb); have n2_ := Aside0.mk (Kd.S_elder' (by (with_reducible repeat (first | apply Kd.S_alloc | apply Kd.S_drewN | apply Kd.S_drew)); exact HO125.out) (Kd.R_base ho0) hb); have n3_ := Aside0.mk (Kd.R_lower (Kd.R_new' ho0 (Kd.R_lt (by (with_reducible repeat (first | apply qA | apply qN | apply qD)); exact HO_9.out))) (below_size (by repeat (first | (with_reducible first | exact HB.out | apply ba | apply bd | apply be | refine bs ?_ GE101.out | refine bs ?_ GE116.out) | exact HB.out)))); have n4_ := Aside0.mk (blk_below (g := gb101) (o := .cells #[.int .i64 a0_0, .slice A0_1 l0_1.length c0_1] 35 (0, 0)) (by (with_reducible repeat (first | refine kN ?_ _ | refine kD ?_ | refine kA ?_ _)); exact BK101.out) hb); have n5_ := Aside0.mk (blk_below (g := gb116) (o := .cells #[.int .i64 t112, .slice Ao31 t113.length co31] 39 (0, 0)) (by (with_reducible repeat (first | refine kN ?_ _ | refine kD ?_ | refine kA ?_ _)); exact BK116.out) hb); have n6_ := Aside0.mk (below_step (by repeat (first | (with_reducible first | exact HB.out | apply ba | apply bd | apply be | refine bs ?_ GE101.out | refine bs ?_ GE116.out) | exact HB.out)) hb); clear HO_9; clear HO_117001; clear HO125; clear BK101; clear BK116; clear HB; have HO_9 := n0_; have HO_117001 := n1_; have HO125 := n2_; have HO129 := n3_; have BK101 := n4_; have BK116 := n5_; have HB := n6_; clear n0_ n1_ n2_ n3_ n4_ n5_ n6_; (try clear hb); (try clear hb2); (try clear hk); (try clear hi); (try clear ho0); obtain ⟨Ao49, co49, eo49⟩ := Kd.R_slice HO129.out; subst eo49) | ((with_reducible refine gate_callee (f := 28) rfl ?_); refine goesL_ (some 54) rfl rfl Try.func28 (by kernel_rfl) rfl #[.slice Ao34 t117.length co34, .slice Ao49 t127.length co49] rfl (by (try simp only [mA, mC, mN]); first | done | rfl | (simp only [List.length_drop, List.length_take]; rfl)) ?_; (with_reducible refine (laws_eqIntS.calls kj15 _ _ t117 _ _ t127 true _ ?side1 ?side2 ?side3 ?side4 A42.out).mono ?_); (case side1 => repeat (first | exact (Kd.R_reads' HO_9.out).2.2 | (with_reducible refine Kd.C_alloc ?_ _) | (with_reducible refine Kd.C_drewN ?_ _) | (with_reducible refine Kd.C_drew ?_))); (case side2 => exact (Kd.R_reads' HO_9.out).2.1); (case side3 => repeat (first | exact (Kd.R_reads' HO129.out).2.2 | (with_reducible refine Kd.C_alloc ?_ _) | (with_reducible refine Kd.C_drewN ?_ _) | (with_reducible refine Kd.C_drew ?_))); (case side4 => exact (Kd.R_reads' HO129.out).2.1); rintro e w' ⟨rfl, ⟨nd, rfl⟩⟩; refine ⟨_, rfl, ?_⟩))
        go_ret
        exact ⟨by first | rfl | (simp <;> rfl) | (simp [*] <;> rfl), by repeat (first | (with_reducible first | exact HB.out | apply ba | apply bd | apply be | refine bs ?_ GE101.out | refine bs ?_ GE116.out) | exact HB.out)⟩
       ·replace c43 := Bool.eq_false_iff.mpr c43
        subst c43
        have H1 : (some false) = some r := by rw [if_neg (show ¬ (false = true) by decide)] at H; exact H
        clear H
        have H := H1
        clear H1
        obtain rfl := Option.some.inj H
        try go_wp2
        have n0_ := Aside0.mk (Kd.R_drew HO_9.out)
        have n1_ := Aside0.mk (Kd.S_drew HO_117001.out)
        have n2_ := Aside0.mk (blk_drew BK101.out)
        have n3_ := Aside0.mk (blk_drew BK116.out)
        have n4_ := Aside0.mk (below_drew1 HB.out)
        clear HO_9
        clear HO_117001
        clear BK101
        clear BK116
        clear HB
        have HO_9 := n0_
        have HO_117001 := n1_
        have BK101 := n2_
        have BK116 := n3_
        have HB := n4_
        clear n0_ n1_ n2_ n3_ n4_
        refine start_ (n := 5) (S := fun w' => w'.cell? ⟨gb116, 0, none⟩ = some (.int .i64 t112) ∧ w'.cell? ⟨gb116, 1, none⟩ = some (.slice Ao31 t113.length co31) ∧ w'.cell? ⟨gb101, 0, none⟩ = some (.int .i64 a0_0) ∧ w'.cell? ⟨gb101, 1, none⟩ = some (.slice A0_1 l0_1.length c0_1)) (ds := []) #[false, false, false, false, false] (by kernel_rfl) rfl rfl ⟨(blk_cell BK116.out 0).trans rfl, (blk_cell BK116.out 1).trans rfl, (blk_cell BK101.out 0).trans rfl, (blk_cell BK101.out 1).trans rfl⟩ (fun hHeld => ?_)
        generalize wc.drew = w50 at HO_9 HO_117001 BK101 BK116 HB hHeld ⊢
        refine take_ (i := 0) (N := some 46) (v := ?_) (a' := ?_) #[true, false, false, false, false] rfl rfl (by kernel_rfl) (fun _ _ _ h => h) (Or.inl ⟨by rfl, ?_⟩) hHeld ?_ ?_
        rotate_left
        ·rintro w' ⟨s0, s1, s2, s3⟩
         go_simp
         with_reducible rfl
        rotate_left
        ·simp only [Act.put, sA, sZ, sS, i64_w, i32_w]
         rfl
        refine take_ (i := 1) (N := some 47) (v := ?_) (a' := ?_) #[true, true, false, false, false] rfl rfl (by kernel_rfl) (fun _ _ _ h => h) (Or.inl ⟨by rfl, ?_⟩) hHeld ?_ ?_
        rotate_left
        ·rintro w' ⟨s0, s1, s2, s3⟩
         go_simp
         with_reducible rfl
        rotate_left
        ·simp only [Act.put, sA, sZ, sS, i64_w, i32_w]
         rfl
        refine one_ (i := 2) (N := some 48) #[true, true, true, false, false] rfl rfl (by kernel_rfl) (by decide) (fun K hK => ?_)
        refine goes_ Try.func24 (by kernel_rfl) rfl #[.agg #[.int .i64 a0_0, .slice A0_1 l0_1.length c0_1]] (by rfl) rfl rfl (by (try simp only [mA, mC, mN]); first | done | rfl | (simp only [List.length_drop, List.length_take]; rfl)) ?_
        with_reducible refine (laws_toGame.calls kj15 a0_0 _ _ l0_1 t122 t123 _ ?side1 ?side2 A38.out).mono ?_
        (case side1 => repeat (first | exact (Kd.C_below HR0_1.out HB.out) | (with_reducible refine Kd.C_alloc ?_ _) | (with_reducible refine Kd.C_drewN ?_ _) | (with_reducible refine Kd.C_drew ?_)))
        (case side2 => exact HC0_1.out)
        rintro e w51 ⟨v124, rfl, ho0, hb⟩
        refine ⟨_, rfl, ?_⟩
        have n0_ := Aside0.mk (Kd.R_below (by (with_reducible repeat (first | apply qA | apply qN | apply qD)); exact HO_9.out) hb)
        have n1_ := Aside0.mk (Kd.S_elder' (by (with_reducible repeat (first | apply Kd.S_alloc | apply Kd.S_drewN | apply Kd.S_drew)); exact HO_117001.out) (Kd.S_base ho0) hb)
        have n2_ := Aside0.mk (Kd.S_lower (Kd.S_new' (Kd.S_new' ho0 (Kd.R_lt (by (with_reducible repeat (first | apply qA | apply qN | apply qD)); exact HO_9.out))) (Kd.S_lt (by (with_reducible repeat (first | apply Kd.S_alloc | apply Kd.S_drewN | apply Kd.S_drew)); exact HO_117001.out))) (below_size (by repeat (first | (with_reducible first | exact HB.out | apply ba | apply bd | apply be | refine bs ?_ GE101.out | refine bs ?_ GE116.out) | exact HB.out))))
        have n3_ := Aside0.mk (blk_below (g := gb101) (o := .cells #[.int .i64 a0_0, .slice A0_1 l0_1.length c0_1] 35 (0, 0)) (by (with_reducible repeat (first | refine kN ?_ _ | refine kD ?_ | refine kA ?_ _)); exact BK101.out) hb)
        have n4_ := Aside0.mk (blk_below (g := gb116) (o := .cells #[.int .i64 t112, .slice Ao31 t113.length co31] 39 (0, 0)) (by (with_reducible repeat (first | refine kN ?_ _ | refine kD ?_ | refine kA ?_ _)); exact BK116.out) hb)
        have n5_ := Aside0.mk (below_step (by repeat (first | (with_reducible first | exact HB.out | apply ba | apply bd | apply be | refine bs ?_ GE101.out | refine bs ?_ GE116.out) | exact HB.out)) hb)
        clear HO_9
        clear HO_117001
        clear BK101
        clear BK116
        clear HB
        have HO_9 := n0_
        have HO_117001 := n1_
        have HO125 := n2_
        have BK101 := n3_
        have BK116 := n4_
        have HB := n5_
        clear n0_ n1_ n2_ n3_ n4_ n5_
        (try clear hb)
        (try clear hb2)
        (try clear hk)
        (try clear hi)
        (try clear ho0)
        obtain ⟨Ao52, co52, eo52⟩ := Kd.S_slice HO125.out
        (first | subst eo52 | (injection eo52 with f1_ f2_ f3_; have f4_ := f1_.symm; have f5_ := f3_.symm; clear f1_ f2_ f3_; subst f4_; subst f5_))
        refine hK.out _ _ ⟨(blk_cell BK116.out 0).trans rfl, (blk_cell BK116.out 1).trans rfl, (blk_cell BK101.out 0).trans rfl, (blk_cell BK101.out 1).trans rfl⟩ (fun hHeld => ?_)
        clear hK K
        refine norm_ (a' := ?_) ?_ ?_
        rotate_left
        ·show Act.put _ (some 48) _ = _
         simp only [Act.put, sA, sZ, sS, i64_w, i32_w]
         rfl
        refine one_ (i := 3) (N := some 49) #[true, true, true, true, false] rfl rfl (by kernel_rfl) (by decide) (fun K hK => ?_)
        refine goes_ Try.func27 (by kernel_rfl) rfl #[.agg #[.int .i64 t112, .slice Ao31 t113.length co31], .agg #[.int .i64 t122, .slice Ao52 t123.length co52]] (by rfl) rfl rfl (by (try simp only [mA, mC, mN]); first | done | rfl | (simp only [List.length_drop, List.length_take]; rfl)) ?_
        with_reducible refine (laws_eqGame.calls kj15 t112 _ _ t113 t122 _ _ t123 true _ ?side1 ?side2 ?side3 ?side4 A39.out).mono ?_
        (case side1 => repeat (first | exact (Kd.S_reads' HO_117001.out).2.2 | (with_reducible refine Kd.C_alloc ?_ _) | (with_reducible refine Kd.C_drewN ?_ _) | (with_reducible refine Kd.C_drew ?_)))
        (case side2 => exact (Kd.S_reads' HO_117001.out).2.1)
        (case side3 => repeat (first | exact (Kd.S_reads' HO125.out).2.2 | (with_reducible refine Kd.C_alloc ?_ _) | (with_reducible refine Kd.C_drewN ?_ _) | (with_reducible refine Kd.C_drew ?_)))
        (case side4 => exact (Kd.S_reads' HO125.out).2.1)
        rintro e w53 ⟨rfl, hb⟩
        refine ⟨_, rfl, ?_⟩
        have n0_ := Aside0.mk (Kd.R_below (by (with_reducible repeat (first | apply qA | apply qN | apply qD)); exact HO_9.out) hb)
        have n1_ := Aside0.mk (Kd.S_below (by (with_reducible repeat (first | apply Kd.S_alloc | apply Kd.S_drewN | apply Kd.S_drew)); exact HO_117001.out) hb)
        have n2_ := Aside0.mk (Kd.S_below (by (with_reducible repeat (first | apply Kd.S_alloc | apply Kd.S_drewN | apply Kd.S_drew)); exact HO125.out) hb)
        have n3_ := Aside0.mk (blk_below (g := gb101) (o := .cells #[.int .i64 a0_0, .slice A0_1 l0_1.length c0_1] 35 (0, 0)) (by (with_reducible repeat (first | refine kN ?_ _ | refine kD ?_ | refine kA ?_ _)); exact BK101.out) hb)
        have n4_ := Aside0.mk (blk_below (g := gb116) (o := .cells #[.int .i64 t112, .slice Ao31 t113.length co31] 39 (0, 0)) (by (with_reducible repeat (first | refine kN ?_ _ | refine kD ?_ | refine kA ?_ _)); exact BK116.out) hb)
        have n5_ := Aside0.mk (below_step (by repeat (first | (with_reducible first | exact HB.out | apply ba | apply bd | apply be | refine bs ?_ GE101.out | refine bs ?_ GE116.out) | exact HB.out)) hb)
        clear HO_9
        clear HO_117001
        clear HO125
        clear BK101
        clear BK116
        clear HB
        have HO_9 := n0_
        have HO_117001 := n1_
        have HO125 := n2_
        have BK101 := n3_
        have BK116 := n4_
        have HB := n5_
        clear n0_ n1_ n2_ n3_ n4_ n5_
        (try clear hb)
        (try clear hb2)
        (try clear hk)
        (try clear hi)
        refine hK.out _ _ ⟨(blk_cell BK116.out 0).trans rfl, (blk_cell BK116.out 1).trans rfl, (blk_cell BK101.out 0).trans rfl, (blk_cell BK101.out 1).trans rfl⟩ (fun hHeld => ?_)
        clear hK K
        refine norm_ (a' := ?_) ?_ ?_
        rotate_left
        ·show Act.put _ (some 49) _ = _
         simp only [Act.put, sA, sZ, sS, i64_w, i32_w]
         rfl
        refine pure_ (i := 4) (N := some 50) (v := ?_) (a' := ?_) #[true, true, true, true, true] rfl rfl (by kernel_rfl) (fun _ _ _ h => h) (Or.inl ⟨by rfl, ?_⟩) ?_ ?_
        rotate_left
        ·intro w'
         go_simp
         with_reducible rfl
        rotate_left
        ·simp only [Act.put, sA, sZ, sS, i64_w, i32_w]
         rfl
        refine done_ (by kernel_rfl) ?_
        try go_wp2_with (first | ((with_reducible refine gate_callee (f := 25) rfl ?_); refine goesL_ (some 53) rfl rfl Try.func25 (by kernel_rfl) rfl #[.slice A1 l1.length c1] rfl (by (try simp only [mA, mC, mN]); first | done | rfl | (simp only [List.length_drop, List.length_take]; rfl)) ?_; (with_reducible refine (laws_toIntS.calls kj15 _ _ l1 t127 _ ?side1 ?side2 A41.out).mono ?_); (case side1 => repeat (first | exact (Kd.C_below HR1.out HB.out) | (with_reducible refine Kd.C_alloc ?_ _) | (with_reducible refine Kd.C_drewN ?_ _) | (with_reducible refine Kd.C_drew ?_))); (case side2 => exact HC1.out); rintro e w54 ⟨v128, rfl, ho0, hb⟩; refine ⟨_, rfl, ?_⟩; have n0_ := Aside0.mk (Kd.R_elder' (by (with_reducible repeat (first | apply qA | apply qN | apply qD)); exact HO_9.out) (Kd.R_base ho0) hb); have n1_ := Aside0.mk (Kd.S_elder' (by (with_reducible repeat (first | apply Kd.S_alloc | apply Kd.S_drewN | apply Kd.S_drew)); exact HO_117001.out) (Kd.R_base ho0) hb); have n2_ := Aside0.mk (Kd.S_elder' (by (with_reducible repeat (first | apply Kd.S_alloc | apply Kd.S_drewN | apply Kd.S_drew)); exact HO125.out) (Kd.R_base ho0) hb); have n3_ := Aside0.mk (Kd.R_lower (Kd.R_new' ho0 (Kd.R_lt (by (with_reducible repeat (first | apply qA | apply qN | apply qD)); exact HO_9.out))) (below_size (by repeat (first | (with_reducible first | exact HB.out | apply ba | apply bd | apply be | refine bs ?_ GE101.out | refine bs ?_ GE116.out) | exact HB.out)))); have n4_ := Aside0.mk (blk_below (g := gb101) (o := .cells #[.int .i64 a0_0, .slice A0_1 l0_1.length c0_1] 35 (0, 0)) (by (with_reducible repeat (first | refine kN ?_ _ | refine kD ?_ | refine kA ?_ _)); exact BK101.out) hb); have n5_ := Aside0.mk (blk_below (g := gb116) (o := .cells #[.int .i64 t112, .slice Ao31 t113.length co31] 39 (0, 0)) (by (with_reducible repeat (first | refine kN ?_ _ | refine kD ?_ | refine kA ?_ _)); exact BK116.out) hb); have n6_ := Aside0.mk (below_step (by repeat (first | (with_reducible first | exact HB.out | apply ba | apply bd | apply be | refine bs ?_ GE101.out | refine bs ?_ GE116.out) | exact HB.out)) hb); clear HO_9; clear HO_117001; clear HO125; clear BK101; clear BK116; clear HB; have HO_9 := n0_; have HO_117001 := n1_; have HO125 := n2_; have HO129 := n3_; have BK101 := n4_; have BK116 := n5_; have HB := n6_; clear n0_ n1_ n2_ n3_ n4_ n5_ n6_; (try clear hb); (try clear hb2); (try clear hk); (try clear hi); (try clear ho0); obtain ⟨Ao55, co55, eo55⟩ := Kd.R_slice HO129.out; subst eo55) | ((with_reducible refine gate_callee (f := 28) rfl ?_); refine goesL_ (some 54) rfl rfl Try.func28 (by kernel_rfl) rfl #[.slice Ao34 t117.length co34, .slice Ao55 t127.length co55] rfl (by (try simp only [mA, mC, mN]); first | done | rfl | (simp only [List.length_drop, List.length_take]; rfl)) ?_; (with_reducible refine (laws_eqIntS.calls kj15 _ _ t117 _ _ t127 false _ ?side1 ?side2 ?side3 ?side4 A42.out).mono ?_); (case side1 => repeat (first | exact (Kd.R_reads' HO_9.out).2.2 | (with_reducible refine Kd.C_alloc ?_ _) | (with_reducible refine Kd.C_drewN ?_ _) | (with_reducible refine Kd.C_drew ?_))); (case side2 => exact (Kd.R_reads' HO_9.out).2.1); (case side3 => repeat (first | exact (Kd.R_reads' HO129.out).2.2 | (with_reducible refine Kd.C_alloc ?_ _) | (with_reducible refine Kd.C_drewN ?_ _) | (with_reducible refine Kd.C_drew ?_))); (case side4 => exact (Kd.R_reads' HO129.out).2.1); rintro e w' ⟨rfl, ⟨nd, rfl⟩⟩; refine ⟨_, rfl, ?_⟩))
        go_ret
        exact ⟨by first | rfl | (simp <;> rfl) | (simp [*] <;> rfl), by repeat (first | (with_reducible first | exact HB.out | apply ba | apply bd | apply be | refine bs ?_ GE101.out | refine bs ?_ GE116.out) | exact HB.out)⟩
      ·replace c40 := Bool.eq_false_iff.mpr c40
       subst c40
       have H1 : (some false) = some r := by rw [if_neg (show ¬ (false = true) by decide)] at H; exact H
       clear H
       have H := H1
       clear H1
       obtain rfl := Option.some.inj H
       try go_wp2
       have n0_ := Aside0.mk (Kd.R_drew HO_9.out)
       have n1_ := Aside0.mk (Kd.S_drew HO_117001.out)
       have n2_ := Aside0.mk (blk_drew BK101.out)
       have n3_ := Aside0.mk (blk_drew BK116.out)
       have n4_ := Aside0.mk (below_drew1 HB.out)
       clear HO_9
       clear HO_117001
       clear BK101
       clear BK116
       clear HB
       have HO_9 := n0_
       have HO_117001 := n1_
       have BK101 := n2_
       have BK116 := n3_
       have HB := n4_
       clear n0_ n1_ n2_ n3_ n4_
       refine start_ (n := 5) (S := fun w' => w'.cell? ⟨gb116, 0, none⟩ = some (.int .i64 t112) ∧ w'.cell? ⟨gb116, 1, none⟩ = some (.slice Ao31 t113.length co31) ∧ w'.cell? ⟨gb101, 0, none⟩ = some (.int .i64 a0_0) ∧ w'.cell? ⟨gb101, 1, none⟩ = some (.slice A0_1 l0_1.length c0_1)) (ds := []) #[false, false, false, false, false] (by kernel_rfl) rfl rfl ⟨(blk_cell BK116.out 0).trans rfl, (blk_cell BK116.out 1).trans rfl, (blk_cell BK101.out 0).trans rfl, (blk_cell BK101.out 1).trans rfl⟩ (fun hHeld => ?_)
       generalize wc.drew = w56 at HO_9 HO_117001 BK101 BK116 HB hHeld ⊢
       refine take_ (i := 0) (N := some 46) (v := ?_) (a' := ?_) #[true, false, false, false, false] rfl rfl (by kernel_rfl) (fun _ _ _ h => h) (Or.inl ⟨by rfl, ?_⟩) hHeld ?_ ?_
       rotate_left
       ·rintro w' ⟨s0, s1, s2, s3⟩
        go_simp
        with_reducible rfl
       rotate_left
       ·simp only [Act.put, sA, sZ, sS, i64_w, i32_w]
        rfl
       refine take_ (i := 1) (N := some 47) (v := ?_) (a' := ?_) #[true, true, false, false, false] rfl rfl (by kernel_rfl) (fun _ _ _ h => h) (Or.inl ⟨by rfl, ?_⟩) hHeld ?_ ?_
       rotate_left
       ·rintro w' ⟨s0, s1, s2, s3⟩
        go_simp
        with_reducible rfl
       rotate_left
       ·simp only [Act.put, sA, sZ, sS, i64_w, i32_w]
        rfl
       refine one_ (i := 2) (N := some 48) #[true, true, true, false, false] rfl rfl (by kernel_rfl) (by decide) (fun K hK => ?_)
       refine goes_ Try.func24 (by kernel_rfl) rfl #[.agg #[.int .i64 a0_0, .slice A0_1 l0_1.length c0_1]] (by rfl) rfl rfl (by (try simp only [mA, mC, mN]); first | done | rfl | (simp only [List.length_drop, List.length_take]; rfl)) ?_
       with_reducible refine (laws_toGame.calls kj15 a0_0 _ _ l0_1 t122 t123 _ ?side1 ?side2 A38.out).mono ?_
       (case side1 => repeat (first | exact (Kd.C_below HR0_1.out HB.out) | (with_reducible refine Kd.C_alloc ?_ _) | (with_reducible refine Kd.C_drewN ?_ _) | (with_reducible refine Kd.C_drew ?_)))
       (case side2 => exact HC0_1.out)
       rintro e w57 ⟨v124, rfl, ho0, hb⟩
       refine ⟨_, rfl, ?_⟩
       have n0_ := Aside0.mk (Kd.R_below (by (with_reducible repeat (first | apply qA | apply qN | apply qD)); exact HO_9.out) hb)
       have n1_ := Aside0.mk (Kd.S_elder' (by (with_reducible repeat (first | apply Kd.S_alloc | apply Kd.S_drewN | apply Kd.S_drew)); exact HO_117001.out) (Kd.S_base ho0) hb)
       have n2_ := Aside0.mk (Kd.S_lower (Kd.S_new' (Kd.S_new' ho0 (Kd.R_lt (by (with_reducible repeat (first | apply qA | apply qN | apply qD)); exact HO_9.out))) (Kd.S_lt (by (with_reducible repeat (first | apply Kd.S_alloc | apply Kd.S_drewN | apply Kd.S_drew)); exact HO_117001.out))) (below_size (by repeat (first | (with_reducible first | exact HB.out | apply ba | apply bd | apply be | refine bs ?_ GE101.out | refine bs ?_ GE116.out) | exact HB.out))))
       have n3_ := Aside0.mk (blk_below (g := gb101) (o := .cells #[.int .i64 a0_0, .slice A0_1 l0_1.length c0_1] 35 (0, 0)) (by (with_reducible repeat (first | refine kN ?_ _ | refine kD ?_ | refine kA ?_ _)); exact BK101.out) hb)
       have n4_ := Aside0.mk (blk_below (g := gb116) (o := .cells #[.int .i64 t112, .slice Ao31 t113.length co31] 39 (0, 0)) (by (with_reducible repeat (first | refine kN ?_ _ | refine kD ?_ | refine kA ?_ _)); exact BK116.out) hb)
       have n5_ := Aside0.mk (below_step (by repeat (first | (with_reducible first | exact HB.out | apply ba | apply bd | apply be | refine bs ?_ GE101.out | refine bs ?_ GE116.out) | exact HB.out)) hb)
       clear HO_9
       clear HO_117001
       clear BK101
       clear BK116
       clear HB
       have HO_9 := n0_
       have HO_117001 := n1_
       have HO125 := n2_
       have BK101 := n3_
       have BK116 := n4_
       have HB := n5_
       clear n0_ n1_ n2_ n3_ n4_ n5_
       (try clear hb)
       (try clear hb2)
       (try clear hk)
       (try clear hi)
       (try clear ho0)
       obtain ⟨Ao58, co58, eo58⟩ := Kd.S_slice HO125.out
       (first | subst eo58 | (injection eo58 with f1_ f2_ f3_; have f4_ := f1_.symm; have f5_ := f3_.symm; clear f1_ f2_ f3_; subst f4_; subst f5_))
       refine hK.out _ _ ⟨(blk_cell BK116.out 0).trans rfl, (blk_cell BK116.out 1).trans rfl, (blk_cell BK101.out 0).trans rfl, (blk_cell BK101.out 1).trans rfl⟩ (fun hHeld => ?_)
       clear hK K
       refine norm_ (a' := ?_) ?_ ?_
       rotate_left
       ·show Act.put _ (some 48) _ = _
        simp only [Act.put, sA, sZ, sS, i64_w, i32_w]
        rfl
       refine one_ (i := 3) (N := some 49) #[true, true, true, true, false] rfl rfl (by kernel_rfl) (by decide) (fun K hK => ?_)
       refine goes_ Try.func27 (by kernel_rfl) rfl #[.agg #[.int .i64 t112, .slice Ao31 t113.length co31], .agg #[.int .i64 t122, .slice Ao58 t123.length co58]] (by rfl) rfl rfl (by (try simp only [mA, mC, mN]); first | done | rfl | (simp only [List.length_drop, List.length_take]; rfl)) ?_
       with_reducible refine (laws_eqGame.calls kj15 t112 _ _ t113 t122 _ _ t123 false _ ?side1 ?side2 ?side3 ?side4 A39.out).mono ?_
       (case side1 => repeat (first | exact (Kd.S_reads' HO_117001.out).2.2 | (with_reducible refine Kd.C_alloc ?_ _) | (with_reducible refine Kd.C_drewN ?_ _) | (with_reducible refine Kd.C_drew ?_)))
       (case side2 => exact (Kd.S_reads' HO_117001.out).2.1)
       (case side3 => repeat (first | exact (Kd.S_reads' HO125.out).2.2 | (with_reducible refine Kd.C_alloc ?_ _) | (with_reducible refine Kd.C_drewN ?_ _) | (with_reducible refine Kd.C_drew ?_)))
       (case side4 => exact (Kd.S_reads' HO125.out).2.1)
       rintro e w59 ⟨rfl, hb⟩
       refine ⟨_, rfl, ?_⟩
       have n0_ := Aside0.mk (Kd.R_below (by (with_reducible repeat (first | apply qA | apply qN | apply qD)); exact HO_9.out) hb)
       have n1_ := Aside0.mk (Kd.S_below (by (with_reducible repeat (first | apply Kd.S_alloc | apply Kd.S_drewN | apply Kd.S_drew)); exact HO_117001.out) hb)
       have n2_ := Aside0.mk (Kd.S_below (by (with_reducible repeat (first | apply Kd.S_alloc | apply Kd.S_drewN | apply Kd.S_drew)); exact HO125.out) hb)
       have n3_ := Aside0.mk (blk_below (g := gb101) (o := .cells #[.int .i64 a0_0, .slice A0_1 l0_1.length c0_1] 35 (0, 0)) (by (with_reducible repeat (first | refine kN ?_ _ | refine kD ?_ | refine kA ?_ _)); exact BK101.out) hb)
       have n4_ := Aside0.mk (blk_below (g := gb116) (o := .cells #[.int .i64 t112, .slice Ao31 t113.length co31] 39 (0, 0)) (by (with_reducible repeat (first | refine kN ?_ _ | refine kD ?_ | refine kA ?_ _)); exact BK116.out) hb)
       have n5_ := Aside0.mk (below_step (by repeat (first | (with_reducible first | exact HB.out | apply ba | apply bd | apply be | refine bs ?_ GE101.out | refine bs ?_ GE116.out) | exact HB.out)) hb)
       clear HO_9
       clear HO_117001
       clear HO125
       clear BK101
       clear BK116
       clear HB
       have HO_9 := n0_
       have HO_117001 := n1_
       have HO125 := n2_
       have BK101 := n3_
       have BK116 := n4_
       have HB := n5_
       clear n0_ n1_ n2_ n3_ n4_ n5_
       (try clear hb)
       (try clear hb2)
       (try clear hk)
       (try clear hi)
       refine hK.out _ _ ⟨(blk_cell BK116.out 0).trans rfl, (blk_cell BK116.out 1).trans rfl, (blk_cell BK101.out 0).trans rfl, (blk_cell BK101.out 1).trans rfl⟩ (fun hHeld => ?_)
       clear hK K
       refine norm_ (a' := ?_) ?_ ?_
       rotate_left
       ·show Act.put _ (some 49) _ = _
        simp only [Act.put, sA, sZ, sS, i64_w, i32_w]
        rfl
       refine pure_ (i := 4) (N := some 50) (v := ?_) (a' := ?_) #[true, true, true, true, true] rfl rfl (by kernel_rfl) (fun _ _ _ h => h) (Or.inl ⟨by rfl, ?_⟩) ?_ ?_
       rotate_left
       ·intro w'
        go_simp
        with_reducible rfl
       rotate_left
       ·simp only [Act.put, sA, sZ, sS, i64_w, i32_w]
        rfl
       refine done_ (by kernel_rfl) ?_
       try go_wp2
       go_ret
       exact ⟨by first | rfl | (simp <;> rfl) | (simp [*] <;> rfl), by repeat (first | (with_reducible first | exact HB.out | apply ba | apply bd | apply be | refine bs ?_ GE101.out | refine bs ?_ GE116.out) | exact HB.out)⟩

end Go.Proofs.Yticnoiflccbhcaa.Q

namespace Go.Proofs.Yticnoiflccbhcaa.Q
open Go.RowKit Go.Proofs.YticnoiflccbhcaaW.PrintWords Go.Proofs.YticnoiflccbhcaaW.PrintLast Go.Proofs.YticnoiflccbhcaaW.PrintMore Go.Proofs.YticnoiflccbhcaaM
set_option linter.unusedVariables false
set_option linter.unusedSimpArgs false
theorem impl_sumOf.ev_l (l : List Int) (hl : l.length ≤ 9223372036854775807) : ∀ (d i : Nat) (s : Int), i + d = l.length → Ev (fun k => impl_sumOf.l0 k s l (l.length : Int) (i : Int)) (wfold (l.drop i) s) := by
  intro d
  induction d with
  | zero =>
    intro i s h
    refine ev_step ?_
    simp only [impl_sumOf.l0]
    rw [ev_neg (by omega), ev_now, List.drop_of_length_le (by omega)]
    rfl
  | succ d ih =>
    intro i s h
    refine ev_step ?_
    simp only [impl_sumOf.l0]
    have hi : i < l.length := by omega
    rw [ev_pos (by omega), ev_pos (by omega), ev_pos (by omega), w64i (n := l.length) (by omega) (by omega) hl, rd_lt l i hi, wfold_take l i hi]
    exact ih (i + 1) _ (by omega)
theorem impl_sumOf.ev (l : List Int) (hl : l.length ≤ 9223372036854775807) : Ev (fun k => impl_sumOf.f k l) (wfold l 0) := impl_sumOf.ev_l l hl l.length 0 0 (by omega)
end Go.Proofs.Yticnoiflccbhcaa.Q

namespace Go.Proofs.Yticnoiflccbhcaa.Q
open Go.RowKit Go.Proofs.YticnoiflccbhcaaX Go.Proofs.YticnoiflccbhcaaW.PrintWords Go.Proofs.YticnoiflccbhcaaW.PrintLast Go.Proofs.YticnoiflccbhcaaW.PrintMore
attribute [local go_sem] max2_int min2_int max_two min_two max_three min_three max_four min_four   -- for this text's walks alone
set_option linter.unusedVariables false
set_option linter.unusedSimpArgs false

/-! ### impl_IsCommittee: function 59 -/
def impl_IsCommittee.f (k : Nat) (a0_0 : Int) (l0_1 : List Int) : Option (Bool) := if (l0_1.length : Int) ≥ 1 then (if (l0_1.length : Int) ≤ 9 then ((impl_areIn.f l0_1 0 1000).bind fun t102 => (if t102 = true then ((impl_sumOf.f k l0_1).bind fun t103 => ((impl_within.f a0_0 1 t103).bind fun t104 => (some t104))) else (some false))) else (some false)) else (some false)
theorem impl_IsCommittee.mono : ∀ a0 a1 k, LeO (impl_IsCommittee.f k a0 a1) (impl_IsCommittee.f (k + 1) a0 a1) := by
 intro a0 a1 k
 unfold impl_IsCommittee.f
 repeat' first
   | (with_reducible exact impl_sumOf.mono _ _)
   | (with_reducible exact LeO.refl _)
   | (with_reducible exact LeO.none _)
   | (with_reducible refine LeO.ite ?_ ?_)
   | (with_reducible refine LeO.bind ?_ (fun _ => ?_))
   | exact impl_sumOf.mono _ _
   | exact LeO.none _
   | refine LeO.ite ?_ ?_
   | refine LeO.bind ?_ (fun _ => ?_)
def impl_IsCommittee.T1 : Bool × List (List Nat × List Nat) := (true, [([], []), ([0], [0]), ([1], [1]), ([2], [2]), ([3], [3]), ([4], [4]), ([5, 4], [4, 5]), ([6, 4], [4, 6]), ([7, 4], [4, 7]), ([4, 8], [4, 8]), ([9, 4], [9]), ([10], [10]), ([11, 10], [10, 11]), ([12, 10, 10], [10, 12]), ([10, 13], [10, 13]), ([14, 13], [14]), ([15], [15]), ([16, 15], [15, 16]), ([15], [15]), ([18, 15], [15, 18]), ([19, 15, 15], [15, 19]), ([17, 20, 20, 15], [15, 17, 20]), ([15, 21], [15, 21]), ([22, 21, 0, 1, 2, 3, 4, 5, 6, 7, 8, 9, 10, 11, 12, 13, 14, 15, 16, 17, 18, 19, 20, 21, 22], [22])])
def impl_IsCommittee.B1 : List Nat := [0, 1, 3, 7, 15, 31, 63, 127, 255, 511, 1023, 2047, 4095, 8191, 16383, 32767, 65535, 131071, 65535, 327679, 851967, 2097151, 4194303, 8388607]
theorem impl_IsCommittee.tab1 : rtab .any (opsOf Try.f59 1) = impl_IsCommittee.T1 := by kernel_rfl
theorem impl_IsCommittee.bits1 : waitsOk impl_IsCommittee.T1.2 impl_IsCommittee.B1 = true := by kernel_rfl
set_option maxHeartbeats 8000000 in
set_option maxRecDepth 100000 in
theorem impl_IsCommittee.calls (k : Nat) (a0_0 : Int) (A0_1 : Option Addr) (c0_1 : Nat) (l0_1 : List Int) (r : Bool) (w : World) (hr0_1 : Kd.C (Kd.int .i64) w A0_1 l0_1.length l0_1) (hc0_1 : l0_1.length ≤ c0_1) (h : impl_IsCommittee.f k a0_0 l0_1 = some r) :
  Calls Try.prog 59 #[.agg #[.int .i64 a0_0, .slice A0_1 l0_1.length c0_1]] w fun e w' => e = .returned (.bool r) ∧ Below w.heap.size w w' := by
 have hu26 := Try.underlying26
 have HR0_1 := Aside0.mk hr0_1
 have HC0_1 := Aside0.mk hc0_1
 clear hr0_1 hc0_1
 have HB := Aside0.mk (Below.refl w.heap.size w)
 have H : (if (l0_1.length : Int) ≥ 1 then (if (l0_1.length : Int) ≤ 9 then ((impl_areIn.f l0_1 0 1000).bind fun t102 => (if t102 = true then ((impl_sumOf.f k l0_1).bind fun t103 => ((impl_within.f a0_0 1 t103).bind fun t104 => (some t104))) else (some false))) else (some false)) else (some false)) = some r := h
 clear h
 by_cases c2 : (l0_1.length : Int) ≥ 1
 ·rw [if_pos c2] at H
  have c2b0 : decide (1 ≤ (l0_1.length : Int)) = true := decide_eq_true c2
  have c2b1 : decide (1 ≤ l0_1.length) = true := decide_eq_true (by omega)
  clear c2
  by_cases c3 : (l0_1.length : Int) ≤ 9
  ·rw [if_pos c3] at H
   have c3b0 : decide ((l0_1.length : Int) ≤ 9) = true := decide_eq_true c3
   have c3b1 : decide (l0_1.length ≤ 9) = true := decide_eq_true (by omega)
   clear c3
   replace H := oB H
   obtain ⟨t102, A40, H⟩ := H
   replace H : (if t102 = true then ((impl_sumOf.f k l0_1).bind fun t103 => ((impl_within.f a0_0 1 t103).bind fun t104 => (some t104))) else (some false)) = some r := H
   have A4 := Aside0.mk A40
   clear A40
   by_cases c5 : t102 = true
   ·subst c5
    have H1 : ((impl_sumOf.f k l0_1).bind fun t103 => ((impl_within.f a0_0 1 t103).bind fun t104 => (some t104))) = some r := by rw [if_pos rfl] at H; exact H
    clear H
    have H := H1
    clear H1
    replace H := oB H
    obtain ⟨t103, A60, H⟩ := H
    replace H : ((impl_within.f a0_0 1 t103).bind fun t104 => (some t104)) = some r := H
    have A6 := Aside0.mk A60
    clear A60
    replace H := oB H
    obtain ⟨t104, A70, H⟩ := H
    replace H : (some t104) = some r := H
    have A7 := Aside0.mk A70
    clear A70
    obtain rfl := Option.some.inj H
    go_enter Try.func59, Try.ntmps59
    try go_wp2_with (first | ((with_reducible refine gate_dst (N := 1) rfl ?_); (try (refine gate_guard (by rfl) ?_; dsimp only)); refine box_event ?hg (N := 1) ?hd (cs := #[.int .i64 a0_0, .slice A0_1 l0_1.length c0_1]) (t := 26) ?hr ?_; (case hd => rfl); (case hg => rfl); (case hr => first | (go_simp; done) | (go_simp; rfl)); intro gb101 hg w8 hbox hb; have n0_ := Aside0.mk (below_step (by repeat (first | (with_reducible first | exact HB.out | apply ba | apply bd | apply be) | exact HB.out)) hb); have n1_ := Aside0.mk (hbox); have n2_ := Aside0.mk ((by rw [hg]; exact (below_size (by repeat (first | (with_reducible first | exact HB.out | apply ba | apply bd | apply be) | exact HB.out))) : w.heap.size ≤ gb101)); have n3_ := Aside0.mk ((by rw [hg]; exact (below_size (by repeat (first | (with_reducible first | exact HB.out | apply ba | apply bd | apply be) | exact HB.out))) : w.heap.size ≤ gb101)); clear HB; have HB := n0_; have BK101 := n1_; have GW101 := n2_; have GE101 := n3_; clear n0_ n1_ n2_ n3_; clear hb hbox hg))
    have n0_ := Aside0.mk (blk_drew BK101.out)
    have n1_ := Aside0.mk (below_drew1 HB.out)
    clear BK101
    clear HB
    have BK101 := n0_
    have HB := n1_
    clear n0_ n1_
    refine start_ (n := 24) (S := fun w' => w'.cell? ⟨gb101, 0, none⟩ = some (.int .i64 a0_0) ∧ w'.cell? ⟨gb101, 1, none⟩ = some (.slice A0_1 l0_1.length c0_1)) (ds := []) #[false, false, false, false, false, false, false, false, false, false, false, false, false, false, false, false, false, false, false, false, false, false, false, false] (by kernel_rfl) rfl rfl ⟨(blk_cell BK101.out 0).trans rfl, (blk_cell BK101.out 1).trans rfl⟩ (fun hHeld => ?_); refine with_tabW impl_IsCommittee.tab1 impl_IsCommittee.bits1 (fun HT_ HW_ => ?_)
    generalize w8.drew = w9 at BK101 HB hHeld ⊢
    refine pure_ (i := 0) (N := some 3) (v := ?_) (a' := ?_) #[true, false, false, false, false, false, false, false, false, false, false, false, false, false, false, false, false, false, false, false, false, false, false, false] rfl rfl (any_of HT_.out (by kernel_rfl)) (fun _ _ _ h => h) (Or.inl ⟨by rfl, ?_⟩) ?_ ?_
    rotate_left
    ·intro w'
     go_simp
     with_reducible rfl
    rotate_left
    ·simp only [Act.put, sA, sZ, sS, i64_w, i32_w]
     rfl
    refine take_ (i := 1) (N := some 4) (v := ?_) (a' := ?_) #[true, true, false, false, false, false, false, false, false, false, false, false, false, false, false, false, false, false, false, false, false, false, false, false] rfl rfl (take_ofW HT_.out HW_.out (by kernel_rfl)) (fun _ _ _ h => h) (Or.inl ⟨by rfl, ?_⟩) hHeld ?_ ?_
    rotate_left
    ·rintro w' ⟨s0, s1⟩
     go_simp
     with_reducible rfl
    rotate_left
    ·simp only [Act.put, sA, sZ, sS, i64_w, i32_w]
     rfl
    refine pure_ (i := 2) (N := some 5) (v := ?_) (a' := ?_) #[true, true, true, false, false, false, false, false, false, false, false, false, false, false, false, false, false, false, false, false, false, false, false, false] rfl rfl (any_of HT_.out (by kernel_rfl)) (fun _ _ _ h => h) (Or.inl ⟨by rfl, ?_⟩) ?_ ?_
    rotate_left
    ·intro w'
     go_simp
     with_reducible rfl
    rotate_left
    ·simp only [Act.put, sA, sZ, sS, i64_w, i32_w]
     rfl
    refine pure_ (i := 3) (N := some 6) (v := ?_) (a' := ?_) #[true, true, true, true, false, false, false, false, false, false, false, false, false, false, false, false, false, false, false, false, false, false, false, false] rfl rfl (any_of HT_.out (by kernel_rfl)) (fun _ _ _ h => h) (Or.inl ⟨by rfl, ?_⟩) ?_ ?_
    rotate_left
    ·intro w'
     go_simp
     with_reducible rfl
    rotate_left
    ·simp only [Act.put, sA, sZ, sS, i64_w, i32_w]
     rfl
    refine pure_ (i := 4) (N := some 7) (v := ?_) (a' := ?_) #[true, true, true, true, true, false, false, false, false, false, false, false, false, false, false, false, false, false, false, false, false, false, false, false] rfl rfl (any_of HT_.out (by kernel_rfl)) (fun _ _ _ h => h) (Or.inl ⟨by rfl, ?_⟩) ?_ ?_
    rotate_left
    ·intro w'
     go_simp
     with_reducible rfl
    rotate_left
    ·simp only [Act.put, sA, sZ, sS, i64_w, i32_w]
     rfl
    refine pure_ (i := 5) (N := some 8) (v := ?_) (a' := ?_) #[true, true, true, true, true, true, false, false, false, false, false, false, false, false, false, false, false, false, false, false, false, false, false, false] rfl rfl (any_of HT_.out (by kernel_rfl)) (fun _ _ _ h => h) (Or.inl ⟨by rfl, ?_⟩) ?_ ?_
    rotate_left
    ·intro w'
     go_simp
     with_reducible rfl
    rotate_left
    ·simp only [Act.put, sA, sZ, sS, i64_w, i32_w]
     rfl
    refine take_ (i := 6) (N := some 9) (v := ?_) (a' := ?_) #[true, true, true, true, true, true, true, false, false, false, false, false, false, false, false, false, false, false, false, false, false, false, false, false] rfl rfl (take_ofW HT_.out HW_.out (by kernel_rfl)) (fun _ _ _ h => h) (Or.inl ⟨by rfl, ?_⟩) hHeld ?_ ?_
    rotate_left
    ·rintro w' ⟨s0, s1⟩
     go_simp
     with_reducible rfl
    rotate_left
    ·simp only [Act.put, sA, sZ, sS, i64_w, i32_w]
     rfl
    refine pure_ (i := 7) (N := some 10) (v := ?_) (a' := ?_) #[true, true, true, true, true, true, true, true, false, false, false, false, false, false, false, false, false, false, false, false, false, false, false, false] rfl rfl (any_of HT_.out (by kernel_rfl)) (fun _ _ _ h => h) (Or.inl ⟨by rfl, ?_⟩) ?_ ?_
    rotate_left
    ·intro w'
     go_simp
     with_reducible rfl
    rotate_left
    ·simp only [Act.put, sA, sZ, sS, i64_w, i32_w]
     rfl
    refine pure_ (i := 8) (N := some 11) (v := ?_) (a' := ?_) #[true, true, true, true, true, true, true, true, true, false, false, false, false, false, false, false, false, false, false, false, false, false, false, false] rfl rfl (any_of HT_.out (by kernel_rfl)) (fun _ _ _ h => h) (Or.inl ⟨by rfl, ?_⟩) ?_ ?_
    rotate_left
    ·intro w'
     go_simp
     with_reducible rfl
    rotate_left
    ·simp only [Act.put, sA, sZ, sS, i64_w, i32_w]
     rfl
    refine pure_ (i := 9) (N := some 12) (v := ?_) (a' := ?_) #[true, true, true, true, true, true, true, true, true, true, false, false, false, false, false, false, false, false, false, false, false, false, false, false] rfl rfl (any_of HT_.out (by kernel_rfl)) (fun _ _ _ h => h) (Or.inl ⟨by rfl, ?_⟩) ?_ ?_
    rotate_left
    ·intro w'
     go_simp
     with_reducible rfl
    rotate_left
    ·simp only [Act.put, sA, sZ, sS, i64_w, i32_w]
     rfl
    refine pure_ (i := 10) (N := some 13) (v := ?_) (a' := ?_) #[true, true, true, true, true, true, true, true, true, true, true, false, false, false, false, false, false, false, false, false, false, false, false, false] rfl rfl (any_of HT_.out (by kernel_rfl)) (fun _ _ _ h => h) (Or.inl ⟨by rfl, ?_⟩) ?_ ?_
    rotate_left
    ·intro w'
     go_simp
     with_reducible rfl
    rotate_left
    ·simp only [Act.put, sA, sZ, sS, i64_w, i32_w]
     rfl
    refine pure_ (i := 11) (N := some 14) (v := ?_) (a' := ?_) #[true, true, true, true, true, true, true, true, true, true, true, true, false, false, false, false, false, false, false, false, false, false, false, false] rfl rfl (any_of HT_.out (by kernel_rfl)) (fun _ _ _ h => h) (Or.inl ⟨by rfl, ?_⟩) ?_ ?_
    rotate_left
    ·intro w'
     go_simp
     with_reducible rfl
    rotate_left
    ·simp only [Act.put, sA, sZ, sS, i64_w, i32_w]
     rfl
    refine take_ (i := 12) (N := some 15) (v := ?_) (a' := ?_) #[true, true, true, true, true, true, true, true, true, true, true, true, true, false, false, false, false, false, false, false, false, false, false, false] rfl rfl (take_ofW HT_.out HW_.out (by kernel_rfl)) (fun _ _ _ h => h) (Or.inl ⟨by rfl, ?_⟩) hHeld ?_ ?_
    rotate_left
    ·rintro w' ⟨s0, s1⟩
     go_simp
     with_reducible rfl
    rotate_left
    ·simp only [Act.put, sA, sZ, sS, i64_w, i32_w]
     rfl
    refine one_ (i := 13) (N := some 16) #[true, true, true, true, true, true, true, true, true, true, true, true, true, true, false, false, false, false, false, false, false, false, false, false] rfl rfl (one_of HT_.out (by kernel_rfl)) (by decide) (fun K hK => ?_)
    refine goes_ Try.func70 (by kernel_rfl) rfl #[.slice A0_1 l0_1.length c0_1, .int .i64 0, .int .i64 1000] (by rfl) rfl rfl (by (try simp only [mA, mC, mN]); first | done | rfl | (simp only [List.length_drop, List.length_take]; rfl)) ?_
    with_reducible refine (impl_areIn.calls _ _ l0_1 0 1000 true _ ?side1 ?side2 A4.out).mono ?_
    (case side1 => repeat (first | exact (Kd.C_below HR0_1.out HB.out) | (with_reducible refine Kd.C_alloc ?_ _) | (with_reducible refine Kd.C_drewN ?_ _) | (with_reducible refine Kd.C_drew ?_)))
    (case side2 => exact HC0_1.out)
    rintro e w10 ⟨rfl, hb⟩
    refine ⟨_, rfl, ?_⟩
    have n0_ := Aside0.mk (blk_below (g := gb101) (o := .cells #[.int .i64 a0_0, .slice A0_1 l0_1.length c0_1] 26 (0, 0)) (by (first | exact bp BK101.out | exact BK101.out)) hb)
    have n1_ := Aside0.mk (below_step (by repeat (first | (with_reducible first | exact HB.out | apply ba | apply bd | apply be | refine bs ?_ GE101.out) | exact HB.out)) hb)
    clear BK101
    clear HB
    have BK101 := n0_
    have HB := n1_
    clear n0_ n1_
    (try clear hb)
    (try clear hb2)
    (try clear hk)
    (try clear hi)
    refine hK.out _ _ ⟨(blk_cell BK101.out 0).trans rfl, (blk_cell BK101.out 1).trans rfl⟩ (fun hHeld => ?_)
    clear hK K
    refine norm_ (a' := ?_) ?_ ?_
    rotate_left
    ·show Act.put _ (some 16) _ = _
     simp only [Act.put, sA, sZ, sS, i64_w, i32_w]
     rfl
    refine pure_ (i := 14) (N := some 17) (v := ?_) (a' := ?_) #[true, true, true, true, true, true, true, true, true, true, true, true, true, true, true, false, false, false, false, false, false, false, false, false] rfl rfl (any_of HT_.out (by kernel_rfl)) (fun _ _ _ h => h) (Or.inl ⟨by rfl, ?_⟩) ?_ ?_
    rotate_left
    ·intro w'
     go_simp
     with_reducible rfl
    rotate_left
    ·simp only [Act.put, sA, sZ, sS, i64_w, i32_w]
     rfl
    refine pure_ (i := 15) (N := some 18) (v := ?_) (a' := ?_) #[true, true, true, true, true, true, true, true, true, true, true, true, true, true, true, true, false, false, false, false, false, false, false, false] rfl rfl (any_of HT_.out (by kernel_rfl)) (fun _ _ _ h => h) (Or.inl ⟨by rfl, ?_⟩) ?_ ?_
    rotate_left
    ·intro w'
     go_simp
     with_reducible rfl
    rotate_left
    ·simp only [Act.put, sA, sZ, sS, i64_w, i32_w]
     rfl
    refine pure_ (i := 16) (N := some 19) (v := ?_) (a' := ?_) #[true, true, true, true, true, true, true, true, true, true, true, true, true, true, true, true, true, false, false, false, false, false, false, false] rfl rfl (any_of HT_.out (by kernel_rfl)) (fun _ _ _ h => h) (Or.inl ⟨by rfl, ?_⟩) ?_ ?_
    rotate_left
    ·intro w'
     go_simp
     with_reducible rfl
    rotate_left
    ·simp only [Act.put, sA, sZ, sS, i64_w, i32_w]
     rfl
    refine pure_ (i := 18) (N := some 21) (v := ?_) (a' := ?_) #[true, true, true, true, true, true, true, true, true, true, true, true, true, true, true, true, true, false, true, false, false, false, false, false] rfl rfl (any_of HT_.out (by kernel_rfl)) (fun _ _ _ h => h) (Or.inl ⟨by rfl, ?_⟩) ?_ ?_
    rotate_left
    ·intro w'
     go_simp
     with_reducible rfl
    rotate_left
    ·simp only [Act.put, sA, sZ, sS, i64_w, i32_w]
     rfl
    refine take_ (i := 17) (N := some 20) (v := ?_) (a' := ?_) #[true, true, true, true, true, true, true, true, true, true, true, true, true, true, true, true, true, true, true, false, false, false, false, false] rfl rfl (take_ofW HT_.out HW_.out (by kernel_rfl)) (fun _ _ _ h => h) (Or.inl ⟨by rfl, ?_⟩) hHeld ?_ ?_
    rotate_left
    ·rintro w' ⟨s0, s1⟩
     go_simp
     with_reducible rfl
    rotate_left
    ·simp only [Act.put, sA, sZ, sS, i64_w, i32_w]
     rfl
    refine take_ (i := 19) (N := some 22) (v := ?_) (a' := ?_) #[true, true, true, true, true, true, true, true, true, true, true, true, true, true, true, true, true, true, true, true, false, false, false, false] rfl rfl (take_ofW HT_.out HW_.out (by kernel_rfl)) (fun _ _ _ h => h) (Or.inl ⟨by rfl, ?_⟩) hHeld ?_ ?_
    rotate_left
    ·rintro w' ⟨s0, s1⟩
     go_simp
     with_reducible rfl
    rotate_left
    ·simp only [Act.put, sA, sZ, sS, i64_w, i32_w]
     rfl
    refine one_ (i := 20) (N := some 23) #[true, true, true, true, true, true, true, true, true, true, true, true, true, true, true, true, true, true, true, true, true, false, false, false] rfl rfl (one_of HT_.out (by kernel_rfl)) (by decide) (fun K hK => ?_)
    refine goes_ Try.func71 (by kernel_rfl) rfl #[.slice A0_1 l0_1.length c0_1] (by rfl) rfl rfl (by (try simp only [mA, mC, mN]); first | done | rfl | (simp only [List.length_drop, List.length_take]; rfl)) ?_
    with_reducible refine (impl_sumOf.calls k _ _ l0_1 t103 _ ?side1 ?side2 A6.out).mono ?_
    (case side1 => repeat (first | exact (Kd.C_below HR0_1.out HB.out) | (with_reducible refine Kd.C_alloc ?_ _) | (with_reducible refine Kd.C_drewN ?_ _) | (with_reducible refine Kd.C_drew ?_)))
    (case side2 => exact HC0_1.out)
    rintro e w' ⟨rfl, ⟨nd, rfl⟩⟩
    refine ⟨_, rfl, ?_⟩
    refine hK.out _ _ ⟨(blk_cell BK101.out 0).trans rfl, (blk_cell BK101.out 1).trans rfl⟩ (fun hHeld => ?_)
    clear hK K
    refine norm_ (a' := ?_) ?_ ?_
    rotate_left
    ·show Act.put _ (some 23) _ = _
     simp only [Act.put, sA, sZ, sS, i64_w, i32_w]
     rfl
    refine one_ (i := 21) (N := some 24) #[true, true, true, true, true, true, true, true, true, true, true, true, true, true, true, true, true, true, true, true, true, true, false, false] rfl rfl (one_of HT_.out (by kernel_rfl)) (by decide) (fun K hK => ?_)
    refine goes_ Try.func102 (by kernel_rfl) rfl #[.int .i64 a0_0, .int .i64 1, .int .i64 t103] (by rfl) rfl rfl (by (try simp only [mA, mC, mN]); first | done | rfl | (simp only [List.length_drop, List.length_take]; rfl)) ?_
    with_reducible refine (impl_within.calls a0_0 1 t103 t104 _ A7.out).mono ?_
    rintro e w' ⟨rfl, ⟨nd, rfl⟩⟩
    refine ⟨_, rfl, ?_⟩
    refine hK.out _ _ ⟨(blk_cell BK101.out 0).trans rfl, (blk_cell BK101.out 1).trans rfl⟩ (fun hHeld => ?_)
    clear hK K
    refine norm_ (a' := ?_) ?_ ?_
    rotate_left
    ·show Act.put _ (some 24) _ = _
     simp only [Act.put, sA, sZ, sS, i64_w, i32_w]
     rfl
    refine pure_ (i := 22) (N := some 25) (v := ?_) (a' := ?_) #[true, true, true, true, true, true, true, true, true, true, true, true, true, true, true, true, true, true, true, true, true, true, true, false] rfl rfl (any_of HT_.out (by kernel_rfl)) (fun _ _ _ h => h) (Or.inl ⟨by rfl, ?_⟩) ?_ ?_
    rotate_left
    ·intro w'
     go_simp
     with_reducible rfl
    rotate_left
    ·simp only [Act.put, sA, sZ, sS, i64_w, i32_w]
     rfl
    refine pure_ (i := 23) (N := some 2) (v := ?_) (a' := ?_) #[true, true, true, true, true, true, true, true, true, true, true, true, true, true, true, true, true, true, true, true, true, true, true, true] rfl rfl (any_of HT_.out (by kernel_rfl)) (fun _ _ _ h => h) (Or.inl ⟨by rfl, ?_⟩) ?_ ?_
    rotate_left
    ·intro w'
     go_simp
     with_reducible rfl
    rotate_left
    ·simp only [Act.put, sA, sZ, sS, i64_w, i32_w]
     rfl
    refine done_ (done_of HT_.out (by kernel_rfl)) ?_
    try go_wp2
    go_ret
    exact ⟨by first | rfl | (simp <;> rfl) | (simp [*] <;> rfl), by repeat (first | (with_reducible first | exact HB.out | apply ba | apply bd | apply be | refine bs ?_ GE101.out) | exact HB.out)⟩
   ·replace c5 := Bool.eq_false_iff.mpr c5
    subst c5
    have H1 : (some false) = some r := by rw [if_neg (show ¬ (false = true) by decide)] at H; exact H
    clear H
    have H := H1
    clear H1
    obtain rfl := Option.some.inj H
    go_enter Try.func59, Try.ntmps59
    try go_wp2_with (first | ((with_reducible refine gate_dst (N := 1) rfl ?_); (try (refine gate_guard (by rfl) ?_; dsimp only)); refine box_event ?hg (N := 1) ?hd (cs := #[.int .i64 a0_0, .slice A0_1 l0_1.length c0_1]) (t := 26) ?hr ?_; (case hd => rfl); (case hg => rfl); (case hr => first | (go_simp; done) | (go_simp; rfl)); intro gb101 hg w11 hbox hb; have n0_ := Aside0.mk (below_step (by repeat (first | (with_reducible first | exact HB.out | apply ba | apply bd | apply be) | exact HB.out)) hb); have n1_ := Aside0.mk (hbox); have n2_ := Aside0.mk ((by rw [hg]; exact (below_size (by repeat (first | (with_reducible first | exact HB.out | apply ba | apply bd | apply be) | exact HB.out))) : w.heap.size ≤ gb101)); have n3_ := Aside0.mk ((by rw [hg]; exact (below_size (by repeat (first | (with_reducible first | exact HB.out | apply ba | apply bd | apply be) | exact HB.out))) : w.heap.size ≤ gb101)); clear HB; have HB := n0_; have BK101 := n1_; have GW101 := n2_; have GE101 := n3_; clear n0_ n1_ n2_ n3_; clear hb hbox hg))
    have n0_ := Aside0.mk (blk_drew BK101.out)
    have n1_ := Aside0.mk (below_drew1 HB.out)
    clear BK101
    clear HB
    have BK101 := n0_
    have HB := n1_
    clear n0_ n1_
    refine start_ (n := 24) (S := fun w' => w'.cell? ⟨gb101, 0, none⟩ = some (.int .i64 a0_0) ∧ w'.cell? ⟨gb101, 1, none⟩ = some (.slice A0_1 l0_1.length c0_1)) (ds := []) #[false, false, false, false, false, false, false, false, false, false, false, false, false, false, false, false, false, false, false, false, false, false, false, false] (by kernel_rfl) rfl rfl ⟨(blk_cell BK101.out 0).trans rfl, (blk_cell BK101.out 1).trans rfl⟩ (fun hHeld => ?_); refine with_tabW impl_IsCommittee.tab1 impl_IsCommittee.bits1 (fun HT_ HW_ => ?_)
    generalize w11.drew = w12 at BK101 HB hHeld ⊢
    refine pure_ (i := 0) (N := some 3) (v := ?_) (a' := ?_) #[true, false, false, false, false, false, false, false, false, false, false, false, false, false, false, false, false, false, false, false, false, false, false, false] rfl rfl (any_of HT_.out (by kernel_rfl)) (fun _ _ _ h => h) (Or.inl ⟨by rfl, ?_⟩) ?_ ?_
    rotate_left
    ·intro w'
     go_simp
     with_reducible rfl
    rotate_left
    ·simp only [Act.put, sA, sZ, sS, i64_w, i32_w]
     rfl
    refine take_ (i := 1) (N := some 4) (v := ?_) (a' := ?_) #[true, true, false, false, false, false, false, false, false, false, false, false, false, false, false, false, false, false, false, false, false, false, false, false] rfl rfl (take_ofW HT_.out HW_.out (by kernel_rfl)) (fun _ _ _ h => h) (Or.inl ⟨by rfl, ?_⟩) hHeld ?_ ?_
    rotate_left
    ·rintro w' ⟨s0, s1⟩
     go_simp
     with_reducible rfl
    rotate_left
    ·simp only [Act.put, sA, sZ, sS, i64_w, i32_w]
     rfl
    refine pure_ (i := 2) (N := some 5) (v := ?_) (a' := ?_) #[true, true, true, false, false, false, false, false, false, false, false, false, false, false, false, false, false, false, false, false, false, false, false, false] rfl rfl (any_of HT_.out (by kernel_rfl)) (fun _ _ _ h => h) (Or.inl ⟨by rfl, ?_⟩) ?_ ?_
    rotate_left
    ·intro w'
     go_simp
     with_reducible rfl
    rotate_left
    ·simp only [Act.put, sA, sZ, sS, i64_w, i32_w]
     rfl
    refine pure_ (i := 3) (N := some 6) (v := ?_) (a' := ?_) #[true, true, true, true, false, false, false, false, false, false, false, false, false, false, false, false, false, false, false, false, false, false, false, false] rfl rfl (any_of HT_.out (by kernel_rfl)) (fun _ _ _ h => h) (Or.inl ⟨by rfl, ?_⟩) ?_ ?_
    rotate_left
    ·intro w'
     go_simp
     with_reducible rfl
    rotate_left
    ·simp only [Act.put, sA, sZ, sS, i64_w, i32_w]
     rfl
    refine pure_ (i := 4) (N := some 7) (v := ?_) (a' := ?_) #[true, true, true, true, true, false, false, false, false, false, false, false, false, false, false, false, false, false, false, false, false, false, false, false] rfl rfl (any_of HT_.out (by kernel_rfl)) (fun _ _ _ h => h) (Or.inl ⟨by rfl, ?_⟩) ?_ ?_
    rotate_left
    ·intro w'
     go_simp
     with_reducible rfl
    rotate_left
    ·simp only [Act.put, sA, sZ, sS, i64_w, i32_w]
     rfl
    refine pure_ (i := 5) (N := some 8) (v := ?_) (a' := ?_) #[true, true, true, true, true, true, false, false, false, false, false, false, false, false, false, false, false, false, false, false, false, false, false, false] rfl rfl (any_of HT_.out (by kernel_rfl)) (fun _ _ _ h => h) (Or.inl ⟨by rfl, ?_⟩) ?_ ?_
    rotate_left
    ·intro w'
     go_simp
     with_reducible rfl
    rotate_left
    ·simp only [Act.put, sA, sZ, sS, i64_w, i32_w]
     rfl
    refine take_ (i := 6) (N := some 9) (v := ?_) (a' := ?_) #[true, true, true, true, true, true, true, false, false, false, false, false, false, false, false, false, false, false, false, false, false, false, false, false] rfl rfl (take_ofW HT_.out HW_.out (by kernel_rfl)) (fun _ _ _ h => h) (Or.inl ⟨by rfl, ?_⟩) hHeld ?_ ?_
    rotate_left
    ·rintro w' ⟨s0, s1⟩
     go_simp
     with_reducible rfl
    rotate_left
    ·simp only [Act.put, sA, sZ, sS, i64_w, i32_w]
     rfl
    refine pure_ (i := 7) (N := some 10) (v := ?_) (a' := ?_) #[true, true, true, true, true, true, true, true, false, false, false, false, false, false, false, false, false, false, false, false, false, false, false, false] rfl rfl (any_of HT_.out (by kernel_rfl)) (fun _ _ _ h => h) (Or.inl ⟨by rfl, ?_⟩) ?_ ?_
    rotate_left
    ·intro w'
     go_simp
     with_reducible rfl
    rotate_left
    ·simp only [Act.put, sA, sZ, sS, i64_w, i32_w]
     rfl
    refine pure_ (i := 8) (N := some 11) (v := ?_) (a' := ?_) #[true, true, true, true, true, true, true, true, true, false, false, false, false, false, false, false, false, false, false, false, false, false, false, false] rfl rfl (any_of HT_.out (by kernel_rfl)) (fun _ _ _ h => h) (Or.inl ⟨by rfl, ?_⟩) ?_ ?_
    rotate_left
    ·intro w'
     go_simp
     with_reducible rfl
    rotate_left
    ·simp only [Act.put, sA, sZ, sS, i64_w, i32_w]
     rfl
    refine pure_ (i := 9) (N := some 12) (v := ?_) (a' := ?_) #[true, true, true, true, true, true, true, true, true, true, false, false, false, false, false, false, false, false, false, false, false, false, false, false] rfl rfl (any_of HT_.out (by kernel_rfl)) (fun _ _ _ h => h) (Or.inl ⟨by rfl, ?_⟩) ?_ ?_
    rotate_left
    ·intro w'
     go_simp
     with_reducible rfl
    rotate_left
    ·simp only [Act.put, sA, sZ, sS, i64_w, i32_w]
     rfl
    refine pure_ (i := 10) (N := some 13) (v := ?_) (a' := ?_) #[true, true, true, true, true, true, true, true, true, true, true, false, false, false, false, false, false, false, false, false, false, false, false, false] rfl rfl (any_of HT_.out (by kernel_rfl)) (fun _ _ _ h => h) (Or.inl ⟨by rfl, ?_⟩) ?_ ?_
    rotate_left
    ·intro w'
     go_simp
     with_reducible rfl
    rotate_left
    ·simp only [Act.put, sA, sZ, sS, i64_w, i32_w]
     rfl
    refine pure_ (i := 11) (N := some 14) (v := ?_) (a' := ?_) #[true, true, true, true, true, true, true, true, true, true, true, true, false, false, false, false, false, false, false, false, false, false, false, false] rfl rfl (any_of HT_.out (by kernel_rfl)) (fun _ _ _ h => h) (Or.inl ⟨by rfl, ?_⟩) ?_ ?_
    rotate_left
    ·intro w'
     go_simp
     with_reducible rfl
    rotate_left
    ·simp only [Act.put, sA, sZ, sS, i64_w, i32_w]
     rfl
    refine take_ (i := 12) (N := some 15) (v := ?_) (a' := ?_) #[true, true, true, true, true, true, true, true, true, true, true, true, true, false, false, false, false, false, false, false, false, false, false, false] rfl rfl (take_ofW HT_.out HW_.out (by kernel_rfl)) (fun _ _ _ h => h) (Or.inl ⟨by rfl, ?_⟩) hHeld ?_ ?_
    rotate_left
    ·rintro w' ⟨s0, s1⟩
     go_simp
     with_reducible rfl
    rotate_left
    ·simp only [Act.put, sA, sZ, sS, i64_w, i32_w]
     rfl
    refine one_ (i := 13) (N := some 16) #[true, true, true, true, true, true, true, true, true, true, true, true, true, true, false, false, false, false, false, false, false, false, false, false] rfl rfl (one_of HT_.out (by kernel_rfl)) (by decide) (fun K hK => ?_)
    refine goes_ Try.func70 (by kernel_rfl) rfl #[.slice A0_1 l0_1.length c0_1, .int .i64 0, .int .i64 1000] (by rfl) rfl rfl (by (try simp only [mA, mC, mN]); first | done | rfl | (simp only [List.length_drop, List.length_take]; rfl)) ?_
    with_reducible refine (impl_areIn.calls _ _ l0_1 0 1000 false _ ?side1 ?side2 A4.out).mono ?_
    (case side1 => repeat (first | exact (Kd.C_below HR0_1.out HB.out) | (with_reducible refine Kd.C_alloc ?_ _) | (with_reducible refine Kd.C_drewN ?_ _) | (with_reducible refine Kd.C_drew ?_)))
    (case side2 => exact HC0_1.out)
    rintro e w13 ⟨rfl, hb⟩
    refine ⟨_, rfl, ?_⟩
    have n0_ := Aside0.mk (blk_below (g := gb101) (o := .cells #[.int .i64 a0_0, .slice A0_1 l0_1.length c0_1] 26 (0, 0)) (by (first | exact bp BK101.out | exact BK101.out)) hb)
    have n1_ := Aside0.mk (below_step (by repeat (first | (with_reducible first | exact HB.out | apply ba | apply bd | apply be | refine bs ?_ GE101.out) | exact HB.out)) hb)
    clear BK101
    clear HB
    have BK101 := n0_
    have HB := n1_
    clear n0_ n1_
    (try clear hb)
    (try clear hb2)
    (try clear hk)
    (try clear hi)
    refine hK.out _ _ ⟨(blk_cell BK101.out 0).trans rfl, (blk_cell BK101.out 1).trans rfl⟩ (fun hHeld => ?_)
    clear hK K
    refine norm_ (a' := ?_) ?_ ?_
    rotate_left
    ·show Act.put _ (some 16) _ = _
     simp only [Act.put, sA, sZ, sS, i64_w, i32_w]
     rfl
    refine pure_ (i := 14) (N := some 17) (v := ?_) (a' := ?_) #[true, true, true, true, true, true, true, true, true, true, true, true, true, true, true, false, false, false, false, false, false, false, false, false] rfl rfl (any_of HT_.out (by kernel_rfl)) (fun _ _ _ h => h) (Or.inl ⟨by rfl, ?_⟩) ?_ ?_
    rotate_left
    ·intro w'
     go_simp
     with_reducible rfl
    rotate_left
    ·simp only [Act.put, sA, sZ, sS, i64_w, i32_w]
     rfl
    refine pure_ (i := 15) (N := some 18) (v := ?_) (a' := ?_) #[true, true, true, true, true, true, true, true, true, true, true, true, true, true, true, true, false, false, false, false, false, false, false, false] rfl rfl (any_of HT_.out (by kernel_rfl)) (fun _ _ _ h => h) (Or.inl ⟨by rfl, ?_⟩) ?_ ?_
    rotate_left
    ·intro w'
     go_simp
     with_reducible rfl
    rotate_left
    ·simp only [Act.put, sA, sZ, sS, i64_w, i32_w]
     rfl
    refine pure_ (i := 16) (N := some 19) (v := undef) (a' := ?_) #[true, true, true, true, true, true, true, true, true, true, true, true, true, true, true, true, true, false, false, false, false, false, false, false] rfl rfl (any_of HT_.out (by kernel_rfl)) (fun _ _ _ h => h) (Or.inr ⟨by rfl, rfl⟩) ?_ ?_
    rotate_left
    ·simp only [Act.put, sA, sZ, sS, i64_w, i32_w]
     rfl
    refine pure_ (i := 17) (N := some 20) (v := undef) (a' := ?_) #[true, true, true, true, true, true, true, true, true, true, true, true, true, true, true, true, true, true, false, false, false, false, false, false] rfl rfl (any_of HT_.out (by kernel_rfl)) (fun _ _ _ h => h) (Or.inr ⟨by rfl, rfl⟩) ?_ ?_
    rotate_left
    ·simp only [Act.put, sA, sZ, sS, i64_w, i32_w]
     rfl
    refine pure_ (i := 18) (N := some 21) (v := undef) (a' := ?_) #[true, true, true, true, true, true, true, true, true, true, true, true, true, true, true, true, true, true, true, false, false, false, false, false] rfl rfl (any_of HT_.out (by kernel_rfl)) (fun _ _ _ h => h) (Or.inr ⟨by rfl, rfl⟩) ?_ ?_
    rotate_left
    ·simp only [Act.put, sA, sZ, sS, i64_w, i32_w]
     rfl
    refine pure_ (i := 19) (N := some 22) (v := undef) (a' := ?_) #[true, true, true, true, true, true, true, true, true, true, true, true, true, true, true, true, true, true, true, true, false, false, false, false] rfl rfl (any_of HT_.out (by kernel_rfl)) (fun _ _ _ h => h) (Or.inr ⟨by rfl, rfl⟩) ?_ ?_
    rotate_left
    ·simp only [Act.put, sA, sZ, sS, i64_w, i32_w]
     rfl
    refine pure_ (i := 20) (N := some 23) (v := undef) (a' := ?_) #[true, true, true, true, true, true, true, true, true, true, true, true, true, true, true, true, true, true, true, true, true, false, false, false] rfl rfl (any_of HT_.out (by kernel_rfl)) (fun _ _ _ h => h) (Or.inr ⟨by rfl, rfl⟩) ?_ ?_
    rotate_left
    ·simp only [Act.put, sA, sZ, sS, i64_w, i32_w]
     rfl
    refine pure_ (i := 21) (N := some 24) (v := undef) (a' := ?_) #[true, true, true, true, true, true, true, true, true, true, true, true, true, true, true, true, true, true, true, true, true, true, false, false] rfl rfl (any_of HT_.out (by kernel_rfl)) (fun _ _ _ h => h) (Or.inr ⟨by rfl, rfl⟩) ?_ ?_
    rotate_left
    ·simp only [Act.put, sA, sZ, sS, i64_w, i32_w]
     rfl
    refine pure_ (i := 22) (N := some 25) (v := ?_) (a' := ?_) #[true, true, true, true, true, true, true, true, true, true, true, true, true, true, true, true, true, true, true, true, true, true, true, false] rfl rfl (any_of HT_.out (by kernel_rfl)) (fun _ _ _ h => h) (Or.inl ⟨by rfl, ?_⟩) ?_ ?_
    rotate_left
    ·intro w'
     go_simp
     with_reducible rfl
    rotate_left
    ·simp only [Act.put, sA, sZ, sS, i64_w, i32_w]
     rfl
    refine pure_ (i := 23) (N := some 2) (v := ?_) (a' := ?_) #[true, true, true, true, true, true, true, true, true, true, true, true, true, true, true, true, true, true, true, true, true, true, true, true] rfl rfl (any_of HT_.out (by kernel_rfl)) (fun _ _ _ h => h) (Or.inl ⟨by rfl, ?_⟩) ?_ ?_
    rotate_left
    ·intro w'
     go_simp
     with_reducible rfl
    rotate_left
    ·simp only [Act.put, sA, sZ, sS, i64_w, i32_w]
     rfl
    refine done_ (done_of HT_.out (by kernel_rfl)) ?_
    try go_wp2
    go_ret
    exact ⟨by first | rfl | (simp <;> rfl) | (simp [*] <;> rfl), by repeat (first | (with_reducible first | exact HB.out | apply ba | apply bd | apply be | refine bs ?_ GE101.out) | exact HB.out)⟩
  ·rw [if_neg c3] at H
   have c3b0 : decide ((l0_1.length : Int) ≤ 9) = false := decide_eq_false c3
   have c3b1 : decide (l0_1.length ≤ 9) = false := decide_eq_false (by omega)
   clear c3
   obtain rfl := Option.some.inj H
   go_enter Try.func59, Try.ntmps59
   try go_wp2_with (first | ((with_reducible refine gate_dst (N := 1) rfl ?_); (try (refine gate_guard (by rfl) ?_; dsimp only)); refine box_event ?hg (N := 1) ?hd (cs := #[.int .i64 a0_0, .slice A0_1 l0_1.length c0_1]) (t := 26) ?hr ?_; (case hd => rfl); (case hg => rfl); (case hr => first | (go_simp; done) | (go_simp; rfl)); intro gb101 hg w14 hbox hb; have n0_ := Aside0.mk (below_step (by repeat (first | (with_reducible first | exact HB.out | apply ba | apply bd | apply be) | exact HB.out)) hb); have n1_ := Aside0.mk (hbox); have n2_ := Aside0.mk ((by rw [hg]; exact (below_size (by repeat (first | (with_reducible first | exact HB.out | apply ba | apply bd | apply be) | exact HB.out))) : w.heap.size ≤ gb101)); have n3_ := Aside0.mk ((by rw [hg]; exact (below_size (by repeat (first | (with_reducible first | exact HB.out | apply ba | apply bd | apply be) | exact HB.out))) : w.heap.size ≤ gb101)); clear HB; have HB := n0_; have BK101 := n1_; have GW101 := n2_; have GE101 := n3_; clear n0_ n1_ n2_ n3_; clear hb hbox hg))
   have n0_ := Aside0.mk (blk_drew BK101.out)
   have n1_ := Aside0.mk (below_drew1 HB.out)
   clear BK101
   clear HB
   have BK101 := n0_
   have HB := n1_
   clear n0_ n1_
   refine start_ (n := 24) (S := fun w' => w'.cell? ⟨gb101, 0, none⟩ = some (.int .i64 a0_0) ∧ w'.cell? ⟨gb101, 1, none⟩ = some (.slice A0_1 l0_1.length c0_1)) (ds := []) #[false, false, false, false, false, false, false, false, false, false, false, false, false, false, false, false, false, false, false, false, false, false, false, false] (by kernel_rfl) rfl rfl ⟨(blk_cell BK101.out 0).trans rfl, (blk_cell BK101.out 1).trans rfl⟩ (fun hHeld => ?_); refine with_tabW impl_IsCommittee.tab1 impl_IsCommittee.bits1 (fun HT_ HW_ => ?_)
   generalize w14.drew = w15 at BK101 HB hHeld ⊢
   refine pure_ (i := 0) (N := some 3) (v := ?_) (a' := ?_) #[true, false, false, false, false, false, false, false, false, false, false, false, false, false, false, false, false, false, false, false, false, false, false, false] rfl rfl (any_of HT_.out (by kernel_rfl)) (fun _ _ _ h => h) (Or.inl ⟨by rfl, ?_⟩) ?_ ?_
   rotate_left
   ·intro w'
    go_simp
    with_reducible rfl
   rotate_left
   ·simp only [Act.put, sA, sZ, sS, i64_w, i32_w]
    rfl
   refine take_ (i := 1) (N := some 4) (v := ?_) (a' := ?_) #[true, true, false, false, false, false, false, false, false, false, false, false, false, false, false, false, false, false, false, false, false, false, false, false] rfl rfl (take_ofW HT_.out HW_.out (by kernel_rfl)) (fun _ _ _ h => h) (Or.inl ⟨by rfl, ?_⟩) hHeld ?_ ?_
   rotate_left
   ·rintro w' ⟨s0, s1⟩
    go_simp
    with_reducible rfl
   rotate_left
   ·simp only [Act.put, sA, sZ, sS, i64_w, i32_w]
    rfl
   refine pure_ (i := 2) (N := some 5) (v := ?_) (a' := ?_) #[true, true, true, false, false, false, false, false, false, false, false, false, false, false, false, false, false, false, false, false, false, false, false, false] rfl rfl (any_of HT_.out (by kernel_rfl)) (fun _ _ _ h => h) (Or.inl ⟨by rfl, ?_⟩) ?_ ?_
   rotate_left
   ·intro w'
    go_simp
    with_reducible rfl
   rotate_left
   ·simp only [Act.put, sA, sZ, sS, i64_w, i32_w]
    rfl
   refine pure_ (i := 3) (N := some 6) (v := ?_) (a' := ?_) #[true, true, true, true, false, false, false, false, false, false, false, false, false, false, false, false, false, false, false, false, false, false, false, false] rfl rfl (any_of HT_.out (by kernel_rfl)) (fun _ _ _ h => h) (Or.inl ⟨by rfl, ?_⟩) ?_ ?_
   rotate_left
   ·intro w'
    go_simp
    with_reducible rfl
   rotate_left
   ·simp only [Act.put, sA, sZ, sS, i64_w, i32_w]
    rfl
   refine pure_ (i := 4) (N := some 7) (v := ?_) (a' := ?_) #[true, true, true, true, true, false, false, false, false, false, false, false, false, false, false, false, false, false, false, false, false, false, false, false] rfl rfl (any_of HT_.out (by kernel_rfl)) (fun _ _ _ h => h) (Or.inl ⟨by rfl, ?_⟩) ?_ ?_
   rotate_left
   ·intro w'
    go_simp
    with_reducible rfl
   rotate_left
   ·simp only [Act.put, sA, sZ, sS, i64_w, i32_w]
    rfl
   refine pure_ (i := 5) (N := some 8) (v := ?_) (a' := ?_) #[true, true, true, true, true, true, false, false, false, false, false, false, false, false, false, false, false, false, false, false, false, false, false, false] rfl rfl (any_of HT_.out (by kernel_rfl)) (fun _ _ _ h => h) (Or.inl ⟨by rfl, ?_⟩) ?_ ?_
   rotate_left
   ·intro w'
    go_simp
    with_reducible rfl
   rotate_left
   ·simp only [Act.put, sA, sZ, sS, i64_w, i32_w]
    rfl
   refine take_ (i := 6) (N := some 9) (v := ?_) (a' := ?_) #[true, true, true, true, true, true, true, false, false, false, false, false, false, false, false, false, false, false, false, false, false, false, false, false] rfl rfl (take_ofW HT_.out HW_.out (by kernel_rfl)) (fun _ _ _ h => h) (Or.inl ⟨by rfl, ?_⟩) hHeld ?_ ?_
   rotate_left
   ·rintro w' ⟨s0, s1⟩
    go_simp
    with_reducible rfl
   rotate_left
   ·simp only [Act.put, sA, sZ, sS, i64_w, i32_w]
    rfl
   refine pure_ (i := 7) (N := some 10) (v := ?_) (a' := ?_) #[true, true, true, true, true, true, true, true, false, false, false, false, false, false, false, false, false, false, false, false, false, false, false, false] rfl rfl (any_of HT_.out (by kernel_rfl)) (fun _ _ _ h => h) (Or.inl ⟨by rfl, ?_⟩) ?_ ?_
   rotate_left
   ·intro w'
    go_simp
    with_reducible rfl
   rotate_left
   ·simp only [Act.put, sA, sZ, sS, i64_w, i32_w]
    rfl
   refine pure_ (i := 8) (N := some 11) (v := ?_) (a' := ?_) #[true, true, true, true, true, true, true, true, true, false, false, false, false, false, false, false, false, false, false, false, false, false, false, false] rfl rfl (any_of HT_.out (by kernel_rfl)) (fun _ _ _ h => h) (Or.inl ⟨by rfl, ?_⟩) ?_ ?_
   rotate_left
   ·intro w'
    go_simp
    with_reducible rfl
   rotate_left
   ·simp only [Act.put, sA, sZ, sS, i64_w, i32_w]
    rfl
   refine pure_ (i := 9) (N := some 12) (v := ?_) (a' := ?_) #[true, true, true, true, true, true, true, true, true, true, false, false, false, false, false, false, false, false, false, false, false, false, false, false] rfl rfl (any_of HT_.out (by kernel_rfl)) (fun _ _ _ h => h) (Or.inl ⟨by rfl, ?_⟩) ?_ ?_
   rotate_left
   ·intro w'
    go_simp
    with_reducible rfl
   rotate_left
   ·simp only [Act.put, sA, sZ, sS, i64_w, i32_w]
    rfl
   refine pure_ (i := 10) (N := some 13) (v := ?_) (a' := ?_) #[true, true, true, true, true, true, true, true, true, true, true, false, false, false, false, false, false, false, false, false, false, false, false, false] rfl rfl (any_of HT_.out (by kernel_rfl)) (fun _ _ _ h => h) (Or.inl ⟨by rfl, ?_⟩) ?_ ?_
   rotate_left
   ·intro w'
    go_simp
    with_reducible rfl
   rotate_left
   ·simp only [Act.put, sA, sZ, sS, i64_w, i32_w]
    rfl
   refine pure_ (i := 11) (N := some 14) (v := undef) (a' := ?_) #[true, true, true, true, true, true, true, true, true, true, true, true, false, false, false, false, false, false, false, false, false, false, false, false] rfl rfl (any_of HT_.out (by kernel_rfl)) (fun _ _ _ h => h) (Or.inr ⟨by rfl, rfl⟩) ?_ ?_
   rotate_left
   ·simp only [Act.put, sA, sZ, sS, i64_w, i32_w]
    rfl
   refine pure_ (i := 12) (N := some 15) (v := undef) (a' := ?_) #[true, true, true, true, true, true, true, true, true, true, true, true, true, false, false, false, false, false, false, false, false, false, false, false] rfl rfl (any_of HT_.out (by kernel_rfl)) (fun _ _ _ h => h) (Or.inr ⟨by rfl, rfl⟩) ?_ ?_
   rotate_left
   ·simp only [Act.put, sA, sZ, sS, i64_w, i32_w]
    rfl
   refine pure_ (i := 13) (N := some 16) (v := undef) (a' := ?_) #[true, true, true, true, true, true, true, true, true, true, true, true, true, true, false, false, false, false, false, false, false, false, false, false] rfl rfl (any_of HT_.out (by kernel_rfl)) (fun _ _ _ h => h) (Or.inr ⟨by rfl, rfl⟩) ?_ ?_
   rotate_left
   ·simp only [Act.put, sA, sZ, sS, i64_w, i32_w]
    rfl
   refine pure_ (i := 14) (N := some 17) (v := ?_) (a' := ?_) #[true, true, true, true, true, true, true, true, true, true, true, true, true, true, true, false, false, false, false, false, false, false, false, false] rfl rfl (any_of HT_.out (by kernel_rfl)) (fun _ _ _ h => h) (Or.inl ⟨by rfl, ?_⟩) ?_ ?_
   rotate_left
   ·intro w'
    go_simp
    with_reducible rfl
   rotate_left
   ·simp only [Act.put, sA, sZ, sS, i64_w, i32_w]
    rfl
   refine pure_ (i := 15) (N := some 18) (v := ?_) (a' := ?_) #[true, true, true, true, true, true, true, true, true, true, true, true, true, true, true, true, false, false, false, false, false, false, false, false] rfl rfl (any_of HT_.out (by kernel_rfl)) (fun _ _ _ h => h) (Or.inl ⟨by rfl, ?_⟩) ?_ ?_
   rotate_left
   ·intro w'
    go_simp
    with_reducible rfl
   rotate_left
   ·simp only [Act.put, sA, sZ, sS, i64_w, i32_w]
    rfl
   refine pure_ (i := 16) (N := some 19) (v := undef) (a' := ?_) #[true, true, true, true, true, true, true, true, true, true, true, true, true, true, true, true, true, false, false, false, false, false, false, false] rfl rfl (any_of HT_.out (by kernel_rfl)) (fun _ _ _ h => h) (Or.inr ⟨by rfl, rfl⟩) ?_ ?_
   rotate_left
   ·simp only [Act.put, sA, sZ, sS, i64_w, i32_w]
    rfl
   refine pure_ (i := 17) (N := some 20) (v := undef) (a' := ?_) #[true, true, true, true, true, true, true, true, true, true, true, true, true, true, true, true, true, true, false, false, false, false, false, false] rfl rfl (any_of HT_.out (by kernel_rfl)) (fun _ _ _ h => h) (Or.inr ⟨by rfl, rfl⟩) ?_ ?_
   rotate_left
   ·simp only [Act.put, sA, sZ, sS, i64_w, i32_w]
    rfl
   refine pure_ (i := 18) (N := some 21) (v := undef) (a' := ?_) #[true, true, true, true, true, true, true, true, true, true, true, true, true, true, true, true, true, true, true, false, false, false, false, false] rfl rfl (any_of HT_.out (by kernel_rfl)) (fun _ _ _ h => h) (Or.inr ⟨by rfl, rfl⟩) ?_ ?_
   rotate_left
   ·simp only [Act.put, sA, sZ, sS, i64_w, i32_w]
    rfl
   refine pure_ (i := 19) (N := some 22) (v := undef) (a' := ?_) #[true, true, true, true, true, true, true, true, true, true, true, true, true, true, true, true, true, true, true, true, false, false, false, false] rfl rfl (any_of HT_.out (by kernel_rfl)) (fun _ _ _ h => h) (Or.inr ⟨by rfl, rfl⟩) ?_ ?_
   rotate_left
   ·simp only [Act.put, sA, sZ, sS, i64_w, i32_w]
    rfl
   refine pure_ (i := 20) (N := some 23) (v := undef) (a' := ?_) #[true, true, true, true, true, true, true, true, true, true, true, true, true, true, true, true, true, true, true, true, true, false, false, false] rfl rfl (any_of HT_.out (by kernel_rfl)) (fun _ _ _ h => h) (Or.inr ⟨by rfl, rfl⟩) ?_ ?_
   rotate_left
   ·simp only [Act.put, sA, sZ, sS, i64_w, i32_w]
    rfl
   refine pure_ (i := 21) (N := some 24) (v := undef) (a' := ?_) #[true, true, true, true, true, true, true, true, true, true, true, true, true, true, true, true, true, true, true, true, true, true, false, false] rfl rfl (any_of HT_.out (by kernel_rfl)) (fun _ _ _ h => h) (Or.inr ⟨by rfl, rfl⟩) ?_ ?_
   rotate_left
   ·simp only [Act.put, sA, sZ, sS, i64_w, i32_w]
    rfl
   refine pure_ (i := 22) (N := some 25) (v := ?_) (a' := ?_) #[true, true, true, true, true, true, true, true, true, true, true, true, true, true, true, true, true, true, true, true, true, true, true, false] rfl rfl (any_of HT_.out (by kernel_rfl)) (fun _ _ _ h => h) (Or.inl ⟨by rfl, ?_⟩) ?_ ?_
   rotate_left
   ·intro w'
    go_simp
    with_reducible rfl
   rotate_left
   ·simp only [Act.put, sA, sZ, sS, i64_w, i32_w]
    rfl
   refine pure_ (i := 23) (N := some 2) (v := ?_) (a' := ?_) #[true, true, true, true, true, true, true, true, true, true, true, true, true, true, true, true, true, true, true, true, true, true, true, true] rfl rfl (any_of HT_.out (by kernel_rfl)) (fun _ _ _ h => h) (Or.inl ⟨by rfl, ?_⟩) ?_ ?_
   rotate_left
   ·intro w'
    go_simp
    with_reducible rfl
   rotate_left
   ·simp only [Act.put, sA, sZ, sS, i64_w, i32_w]
    rfl
   refine done_ (done_of HT_.out (by kernel_rfl)) ?_
   try go_wp2
   go_ret
   exact ⟨by first | rfl | (simp <;> rfl) | (simp [*] <;> rfl), by repeat (first | (with_reducible first | exact HB.out | apply ba | apply bd | apply be | refine bs ?_ GE101.out) | exact HB.out)⟩
 ·rw [if_neg c2] at H
  have c2b0 : decide (1 ≤ (l0_1.length : Int)) = false := decide_eq_false c2
  have c2b1 : decide (1 ≤ l0_1.length) = false := decide_eq_false (by omega)
  clear c2
  obtain rfl := Option.some.inj H
  go_enter Try.func59, Try.ntmps59
  try go_wp2_with (first | ((with_reducible refine gate_dst (N := 1) rfl ?_); (try (refine gate_guard (by rfl) ?_; dsimp only)); refine box_event ?hg (N := 1) ?hd (cs := #[.int .i64 a0_0, .slice A0_1 l0_1.length c0_1]) (t := 26) ?hr ?_; (case hd => rfl); (case hg => rfl); (case hr => first | (go_simp; done) | (go_simp; rfl)); intro gb101 hg w16 hbox hb; have n0_ := Aside0.mk (below_step (by repeat (first | (with_reducible first | exact HB.out | apply ba | apply bd | apply be) | exact HB.out)) hb); have n1_ := Aside0.mk (hbox); have n2_ := Aside0.mk ((by rw [hg]; exact (below_size (by repeat (first | (with_reducible first | exact HB.out | apply ba | apply bd | apply be) | exact HB.out))) : w.heap.size ≤ gb101)); have n3_ := Aside0.mk ((by rw [hg]; exact (below_size (by repeat (first | (with_reducible first | exact HB.out | apply ba | apply bd | apply be) | exact HB.out))) : w.heap.size ≤ gb101)); clear HB; have HB := n0_; have BK101 := n1_; have GW101 := n2_; have GE101 := n3_; clear n0_ n1_ n2_ n3_; clear hb hbox hg))
  have n0_ := Aside0.mk (blk_drew BK101.out)
  have n1_ := Aside0.mk (below_drew1 HB.out)
  clear BK101
  clear HB
  have BK101 := n0_
  have HB := n1_
  clear n0_ n1_
  refine start_ (n := 24) (S := fun w' => w'.cell? ⟨gb101, 0, none⟩ = some (.int .i64 a0_0) ∧ w'.cell? ⟨gb101, 1, none⟩ = some (.slice A0_1 l0_1.length c0_1)) (ds := []) #[false, false, false, false, false, false, false, false, false, false, false, false, false, false, false, false, false, false, false, false, false, false, false, false] (by kernel_rfl) rfl rfl ⟨(blk_cell BK101.out 0).trans rfl, (blk_cell BK101.out 1).trans rfl⟩ (fun hHeld => ?_); refine with_tabW impl_IsCommittee.tab1 impl_IsCommittee.bits1 (fun HT_ HW_ => ?_)
  generalize w16.drew = w17 at BK101 HB hHeld ⊢
  refine pure_ (i := 0) (N := some 3) (v := ?_) (a' := ?_) #[true, false, false, false, false, false, false, false, false, false, false, false, false, false, false, false, false, false, false, false, false, false, false, false] rfl rfl (any_of HT_.out (by kernel_rfl)) (fun _ _ _ h => h) (Or.inl ⟨by rfl, ?_⟩) ?_ ?_
  rotate_left
  ·intro w'
   go_simp
   with_reducible rfl
  rotate_left
  ·simp only [Act.put, sA, sZ, sS, i64_w, i32_w]
   rfl
  refine take_ (i := 1) (N := some 4) (v := ?_) (a' := ?_) #[true, true, false, false, false, false, false, false, false, false, false, false, false, false, false, false, false, false, false, false, false, false, false, false] rfl rfl (take_ofW HT_.out HW_.out (by kernel_rfl)) (fun _ _ _ h => h) (Or.inl ⟨by rfl, ?_⟩) hHeld ?_ ?_
  rotate_left
  ·rintro w' ⟨s0, s1⟩
   go_simp
   with_reducible rfl
  rotate_left
  ·simp only [Act.put, sA, sZ, sS, i64_w, i32_w]
   rfl
  refine pure_ (i := 2) (N := some 5) (v := ?_) (a' := ?_) #[true, true, true, false, false, false, false, false, false, false, false, false, false, false, false, false, false, false, false, false, false, false, false, false] rfl rfl (any_of HT_.out (by kernel_rfl)) (fun _ _ _ h => h) (Or.inl ⟨by rfl, ?_⟩) ?_ ?_
  rotate_left
  ·intro w'
   go_simp
   with_reducible rfl
  rotate_left
  ·simp only [Act.put, sA, sZ, sS, i64_w, i32_w]
   rfl
  refine pure_ (i := 3) (N := some 6) (v := ?_) (a' := ?_) #[true, true, true, true, false, false, false, false, false, false, false, false, false, false, false, false, false, false, false, false, false, false, false, false] rfl rfl (any_of HT_.out (by kernel_rfl)) (fun _ _ _ h => h) (Or.inl ⟨by rfl, ?_⟩) ?_ ?_
  rotate_left
  ·intro w'
   go_simp
   with_reducible rfl
  rotate_left
  ·simp only [Act.put, sA, sZ, sS, i64_w, i32_w]
   rfl
  refine pure_ (i := 4) (N := some 7) (v := ?_) (a' := ?_) #[true, true, true, true, true, false, false, false, false, false, false, false, false, false, false, false, false, false, false, false, false, false, false, false] rfl rfl (any_of HT_.out (by kernel_rfl)) (fun _ _ _ h => h) (Or.inl ⟨by rfl, ?_⟩) ?_ ?_
  rotate_left
  ·intro w'
   go_simp
   with_reducible rfl
  rotate_left
  ·simp only [Act.put, sA, sZ, sS, i64_w, i32_w]
   rfl
  refine pure_ (i := 5) (N := some 8) (v := undef) (a' := ?_) #[true, true, true, true, true, true, false, false, false, false, false, false, false, false, false, false, false, false, false, false, false, false, false, false] rfl rfl (any_of HT_.out (by kernel_rfl)) (fun _ _ _ h => h) (Or.inr ⟨by rfl, rfl⟩) ?_ ?_
  rotate_left
  ·simp only [Act.put, sA, sZ, sS, i64_w, i32_w]
   rfl
  refine pure_ (i := 6) (N := some 9) (v := undef) (a' := ?_) #[true, true, true, true, true, true, true, false, false, false, false, false, false, false, false, false, false, false, false, false, false, false, false, false] rfl rfl (any_of HT_.out (by kernel_rfl)) (fun _ _ _ h => h) (Or.inr ⟨by rfl, rfl⟩) ?_ ?_
  rotate_left
  ·simp only [Act.put, sA, sZ, sS, i64_w, i32_w]
   rfl
  refine pure_ (i := 7) (N := some 10) (v := undef) (a' := ?_) #[true, true, true, true, true, true, true, true, false, false, false, false, false, false, false, false, false, false, false, false, false, false, false, false] rfl rfl (any_of HT_.out (by kernel_rfl)) (fun _ _ _ h => h) (Or.inr ⟨by rfl, rfl⟩) ?_ ?_
  rotate_left
  ·simp only [Act.put, sA, sZ, sS, i64_w, i32_w]
   rfl
  refine pure_ (i := 8) (N := some 11) (v := undef) (a' := ?_) #[true, true, true, true, true, true, true, true, true, false, false, false, false, false, false, false, false, false, false, false, false, false, false, false] rfl rfl (any_of HT_.out (by kernel_rfl)) (fun _ _ _ h => h) (Or.inr ⟨by rfl, rfl⟩) ?_ ?_
  rotate_left
  ·simp only [Act.put, sA, sZ, sS, i64_w, i32_w]
   rfl
  refine pure_ (i := 9) (N := some 12) (v := ?_) (a' := ?_) #[true, true, true, true, true, true, true, true, true, true, false, false, false, false, false, false, false, false, false, false, false, false, false, false] rfl rfl (any_of HT_.out (by kernel_rfl)) (fun _ _ _ h => h) (Or.inl ⟨by rfl, ?_⟩) ?_ ?_
  rotate_left
  ·intro w'
   go_simp
   with_reducible rfl
  rotate_left
  ·simp only [Act.put, sA, sZ, sS, i64_w, i32_w]
   rfl
  refine pure_ (i := 10) (N := some 13) (v := ?_) (a' := ?_) #[true, true, true, true, true, true, true, true, true, true, true, false, false, false, false, false, false, false, false, false, false, false, false, false] rfl rfl (any_of HT_.out (by kernel_rfl)) (fun _ _ _ h => h) (Or.inl ⟨by rfl, ?_⟩) ?_ ?_
  rotate_left
  ·intro w'
   go_simp
   with_reducible rfl
  rotate_left
  ·simp only [Act.put, sA, sZ, sS, i64_w, i32_w]
   rfl
  refine pure_ (i := 11) (N := some 14) (v := undef) (a' := ?_) #[true, true, true, true, true, true, true, true, true, true, true, true, false, false, false, false, false, false, false, false, false, false, false, false] rfl rfl (any_of HT_.out (by kernel_rfl)) (fun _ _ _ h => h) (Or.inr ⟨by rfl, rfl⟩) ?_ ?_
  rotate_left
  ·simp only [Act.put, sA, sZ, sS, i64_w, i32_w]
   rfl
  refine pure_ (i := 12) (N := some 15) (v := undef) (a' := ?_) #[true, true, true, true, true, true, true, true, true, true, true, true, true, false, false, false, false, false, false, false, false, false, false, false] rfl rfl (any_of HT_.out (by kernel_rfl)) (fun _ _ _ h => h) (Or.inr ⟨by rfl, rfl⟩) ?_ ?_
  rotate_left
  ·simp only [Act.put, sA, sZ, sS, i64_w, i32_w]
   rfl
  refine pure_ (i := 13) (N := some 16) (v := undef) (a' := ?_) #[true, true, true, true, true, true, true, true, true, true, true, true, true, true, false, false, false, false, false, false, false, false, false, false] rfl rfl (any_of HT_.out (by kernel_rfl)) (fun _ _ _ h => h) (Or.inr ⟨by rfl, rfl⟩) ?_ ?_
  rotate_left
  ·simp only [Act.put, sA, sZ, sS, i64_w, i32_w]
   rfl
  refine pure_ (i := 14) (N := some 17) (v := ?_) (a' := ?_) #[true, true, true, true, true, true, true, true, true, true, true, true, true, true, true, false, false, false, false, false, false, false, false, false] rfl rfl (any_of HT_.out (by kernel_rfl)) (fun _ _ _ h => h) (Or.inl ⟨by rfl, ?_⟩) ?_ ?_
  rotate_left
  ·intro w'
   go_simp
   with_reducible rfl
  rotate_left
  ·simp only [Act.put, sA, sZ, sS, i64_w, i32_w]
   rfl
  refine pure_ (i := 15) (N := some 18) (v := ?_) (a' := ?_) #[true, true, true, true, true, true, true, true, true, true, true, true, true, true, true, true, false, false, false, false, false, false, false, false] rfl rfl (any_of HT_.out (by kernel_rfl)) (fun _ _ _ h => h) (Or.inl ⟨by rfl, ?_⟩) ?_ ?_
  rotate_left
  ·intro w'
   go_simp
   with_reducible rfl
  rotate_left
  ·simp only [Act.put, sA, sZ, sS, i64_w, i32_w]
   rfl
  refine pure_ (i := 16) (N := some 19) (v := undef) (a' := ?_) #[true, true, true, true, true, true, true, true, true, true, true, true, true, true, true, true, true, false, false, false, false, false, false, false] rfl rfl (any_of HT_.out (by kernel_rfl)) (fun _ _ _ h => h) (Or.inr ⟨by rfl, rfl⟩) ?_ ?_
  rotate_left
  ·simp only [Act.put, sA, sZ, sS, i64_w, i32_w]
   rfl
  refine pure_ (i := 17) (N := some 20) (v := undef) (a' := ?_) #[true, true, true, true, true, true, true, true, true, true, true, true, true, true, true, true, true, true, false, false, false, false, false, false] rfl rfl (any_of HT_.out (by kernel_rfl)) (fun _ _ _ h => h) (Or.inr ⟨by rfl, rfl⟩) ?_ ?_
  rotate_left
  ·simp only [Act.put, sA, sZ, sS, i64_w, i32_w]
   rfl
  refine pure_ (i := 18) (N := some 21) (v := undef) (a' := ?_) #[true, true, true, true, true, true, true, true, true, true, true, true, true, true, true, true, true, true, true, false, false, false, false, false] rfl rfl (any_of HT_.out (by kernel_rfl)) (fun _ _ _ h => h) (Or.inr ⟨by rfl, rfl⟩) ?_ ?_
  rotate_left
  ·simp only [Act.put, sA, sZ, sS, i64_w, i32_w]
   rfl
  refine pure_ (i := 19) (N := some 22) (v := undef) (a' := ?_) #[true, true, true, true, true, true, true, true, true, true, true, true, true, true, true, true, true, true, true, true, false, false, false, false] rfl rfl (any_of HT_.out (by kernel_rfl)) (fun _ _ _ h => h) (Or.inr ⟨by rfl, rfl⟩) ?_ ?_
  rotate_left
  ·simp only [Act.put, sA, sZ, sS, i64_w, i32_w]
   rfl
  refine pure_ (i := 20) (N := some 23) (v := undef) (a' := ?_) #[true, true, true, true, true, true, true, true, true, true, true, true, true, true, true, true, true, true, true, true, true, false, false, false] rfl rfl (any_of HT_.out (by kernel_rfl)) (fun _ _ _ h => h) (Or.inr ⟨by rfl, rfl⟩) ?_ ?_
  rotate_left
  ·simp only [Act.put, sA, sZ, sS, i64_w, i32_w]
   rfl
  refine pure_ (i := 21) (N := some 24) (v := undef) (a' := ?_) #[true, true, true, true, true, true, true, true, true, true, true, true, true, true, true, true, true, true, true, true, true, true, false, false] rfl rfl (any_of HT_.out (by kernel_rfl)) (fun _ _ _ h => h) (Or.inr ⟨by rfl, rfl⟩) ?_ ?_
  rotate_left
  ·simp only [Act.put, sA, sZ, sS, i64_w, i32_w]
   rfl
  refine pure_ (i := 22) (N := some 25) (v := ?_) (a' := ?_) #[true, true, true, true, true, true, true, true, true, true, true, true, true, true, true, true, true, true, true, true, true, true, true, false] rfl rfl (any_of HT_.out (by kernel_rfl)) (fun _ _ _ h => h) (Or.inl ⟨by rfl, ?_⟩) ?_ ?_
  rotate_left
  ·intro w'
   go_simp
   with_reducible rfl
  rotate_left
  ·simp only [Act.put, sA, sZ, sS, i64_w, i32_w]
   rfl
  refine pure_ (i := 23) (N := some 2) (v := ?_) (a' := ?_) #[true, true, true, true, true, true, true, true, true, true, true, true, true, true, true, true, true, true, true, true, true, true, true, true] rfl rfl (any_of HT_.out (by kernel_rfl)) (fun _ _ _ h => h) (Or.inl ⟨by rfl, ?_⟩) ?_ ?_
  rotate_left
  ·intro w'
   go_simp
   with_reducible rfl
  rotate_left
  ·simp only [Act.put, sA, sZ, sS, i64_w, i32_w]
   rfl
  refine done_ (done_of HT_.out (by kernel_rfl)) ?_
  try go_wp2
  go_ret
  exact ⟨by first | rfl | (simp <;> rfl) | (simp [*] <;> rfl), by repeat (first | (with_reducible first | exact HB.out | apply ba | apply bd | apply be | refine bs ?_ GE101.out) | exact HB.out)⟩

end Go.Proofs.Yticnoiflccbhcaa.Q

namespace Go.Proofs.Yticnoiflccbhcaa.Q
open Go.RowKit Go.Proofs.YticnoiflccbhcaaW.PrintWords Go.Proofs.YticnoiflccbhcaaW.PrintLast Go.Proofs.YticnoiflccbhcaaW.PrintMore Go.Proofs.YticnoiflccbhcaaM
set_option linter.unusedVariables false
set_option linter.unusedSimpArgs false
theorem impl_within.v (a b c : Int) : impl_within.f a b c = some (decide (b ≤ a) && decide (a ≤ c)) := by
  unfold impl_within.f
  by_cases h : b ≤ a
  · rw [if_pos h]; simp [h]
  · rw [if_neg h]; simp [h]
theorem impl_IsCommittee.ev (q : Int) (l : List Int) (hl : l.length ≤ 9223372036854775807) : Ev (fun k => impl_IsCommittee.f k q l) (goodB q l) := by
  simp only [impl_IsCommittee.f]
  unfold goodB
  by_cases h1 : 1 ≤ l.length
  · rw [ev_pos (by omega)]
    by_cases h2 : l.length ≤ 9
    · rw [ev_pos (by omega), ev_bind (ev_of (show impl_areIn.f l 0 1000 = some _ from rfl))]
      cases hb : (l.all fun x => decide (0 ≤ x) && decide (x ≤ 1000)) with
      | true =>
        rw [ev_pos rfl, ev_bind (impl_sumOf.ev l hl), ev_bind (ev_of (impl_within.v _ _ _)), ev_now, wfold_w l h2 hb]
        simp [h1, h2]
      | false =>
        rw [ev_neg (by simp), ev_now]
        simp
    · rw [ev_neg (by omega), ev_now]
      simp [h2]
  · rw [ev_neg (by omega), ev_now]
    simp [h1]
end Go.Proofs.Yticnoiflccbhcaa.Q

namespace Go.Proofs.Yticnoiflccbhcaa.Q
open Go.RowKit Go.Proofs.YticnoiflccbhcaaW.PrintWords Go.Proofs.YticnoiflccbhcaaW.PrintLast Go.Proofs.YticnoiflccbhcaaW.PrintMore Go.Proofs.YticnoiflccbhcaaM
set_option linter.unusedVariables false
set_option linter.unusedSimpArgs false
def chainsC : List (List Nat) := [[0, 1, 3, 7, 15, 31, 63, 127, 255, 511], [256, 257, 259, 263, 271, 287, 319, 383], [128, 129, 131, 135, 143, 159, 191, 447], [384, 385, 387, 391, 399, 415], [64, 65, 67, 71, 79, 95, 223, 479], [320, 321, 323, 327, 335, 351], [192, 193, 195, 199, 207, 463], [448, 449, 451, 455], [32, 33, 35, 39, 47, 111, 239, 495], [288, 289, 291, 295, 303, 367], [160, 161, 163, 167, 175, 431], [416, 417, 419, 423], [96, 97, 99, 103, 231, 487], [352, 353, 355, 359], [224, 225, 227, 483], [480, 481], [16, 17, 19, 23, 55, 119, 247, 503], [272, 273, 275, 279, 311, 375], [144, 145, 147, 151, 183, 439], [400, 401, 403, 407], [80, 81, 83, 87, 215, 471], [336, 337, 339, 343], [208, 209, 211, 467], [464, 465], [48, 49, 51, 115, 243, 499], [304, 305, 307, 371], [176, 177, 179, 435], [432, 433], [112, 113, 241, 497], [368, 369], [240, 496], [8, 9, 11, 27, 59, 123, 251, 507], [264, 265, 267, 283, 315, 379], [136, 137, 139, 155, 187, 443], [392, 393, 395, 411], [72, 73, 75, 91, 219, 475], [328, 329, 331, 347], [200, 201, 203, 459], [456, 457], [40, 41, 43, 107, 235, 491], [296, 297, 299, 363], [168, 169, 171, 427], [424, 425], [104, 105, 233, 489], [360, 361], [232, 488], [24, 25, 57, 121, 249, 505], [280, 281, 313, 377], [152, 153, 185, 441], [408, 409], [88, 89, 217, 473], [344, 345], [216, 472], [56, 120, 248, 504], [312, 376], [184, 440], [4, 5, 13, 29, 61, 125, 253, 509], [260, 261, 269, 285, 317, 381], [132, 133, 141, 157, 189, 445], [388, 389, 397, 413], [68, 69, 77, 93, 221, 477], [324, 325, 333, 349], [196, 197, 205, 461], [452, 453], [36, 37, 45, 109, 237, 493], [292, 293, 301, 365], [164, 165, 173, 429], [420, 421], [100, 101, 229, 485], [356, 357], [228, 484], [20, 21, 53, 117, 245, 501], [276, 277, 309, 373], [148, 149, 181, 437], [404, 405], [84, 85, 213, 469], [340, 341], [212, 468], [52, 116, 244, 500], [308, 372], [180, 436], [12, 28, 60, 124, 252, 508], [268, 284, 316, 380], [140, 156, 188, 444], [396, 412], [76, 92, 220, 476], [332, 348], [204, 460], [44, 108, 236, 492], [300, 364], [172, 428], [2, 6, 14, 30, 62, 126, 254, 510], [258, 262, 270, 286, 318, 382], [130, 134, 142, 158, 190, 446], [386, 390, 398, 414], [66, 70, 78, 94, 222, 478], [322, 326, 334, 350], [194, 198, 206, 462], [450, 454], [34, 38, 46, 110, 238, 494], [290, 294, 302, 366], [162, 166, 174, 430], [418, 422], [98, 102, 230, 486], [354, 358], [226, 482], [18, 22, 54, 118, 246, 502], [274, 278, 310, 374], [146, 150, 182, 438], [402, 406], [82, 86, 214, 470], [338, 342], [210, 466], [50, 114, 242, 498], [306, 370], [178, 434], [10, 26, 58, 122, 250, 506], [266, 282, 314, 378], [138, 154, 186, 442], [394, 410], [74, 90, 218, 474], [330, 346], [202, 458], [42, 106, 234, 490], [298, 362], [170, 426]]
def chainOf : List Nat := [0, 0, 91, 0, 56, 56, 91, 0, 31, 31, 116, 31, 81, 56, 91, 0, 16, 16, 106, 16, 71, 71, 106, 16, 46, 46, 116, 31, 81, 56, 91, 0, 8, 8, 99, 8, 64, 64, 99, 8, 39, 39, 123, 39, 88, 64, 99, 8, 24, 24, 113, 24, 78, 71, 106, 16, 53, 46, 116, 31, 81, 56, 91, 0, 4, 4, 95, 4, 60, 60, 95, 4, 35, 35, 120, 35, 85, 60, 95, 4, 20, 20, 110, 20, 75, 75, 110, 20, 50, 50, 120, 35, 85, 60, 95, 4, 12, 12, 103, 12, 68, 68, 103, 12, 43, 43, 123, 39, 88, 64, 99, 8, 28, 28, 113, 24, 78, 71, 106, 16, 53, 46, 116, 31, 81, 56, 91, 0, 2, 2, 93, 2, 58, 58, 93, 2, 33, 33, 118, 33, 83, 58, 93, 2, 18, 18, 108, 18, 73, 73, 108, 18, 48, 48, 118, 33, 83, 58, 93, 2, 10, 10, 101, 10, 66, 66, 101, 10, 41, 41, 125, 41, 90, 66, 101, 10, 26, 26, 115, 26, 80, 73, 108, 18, 55, 48, 118, 33, 83, 58, 93, 2, 6, 6, 97, 6, 62, 62, 97, 6, 37, 37, 122, 37, 87, 62, 97, 6, 22, 22, 112, 22, 77, 75, 110, 20, 52, 50, 120, 35, 85, 60, 95, 4, 14, 14, 105, 14, 70, 68, 103, 12, 45, 43, 123, 39, 88, 64, 99, 8, 30, 28, 113, 24, 78, 71, 106, 16, 53, 46, 116, 31, 81, 56, 91, 0, 1, 1, 92, 1, 57, 57, 92, 1, 32, 32, 117, 32, 82, 57, 92, 1, 17, 17, 107, 17, 72, 72, 107, 17, 47, 47, 117, 32, 82, 57, 92, 1, 9, 9, 100, 9, 65, 65, 100, 9, 40, 40, 124, 40, 89, 65, 100, 9, 25, 25, 114, 25, 79, 72, 107, 17, 54, 47, 117, 32, 82, 57, 92, 1, 5, 5, 96, 5, 61, 61, 96, 5, 36, 36, 121, 36, 86, 61, 96, 5, 21, 21, 111, 21, 76, 76, 111, 21, 51, 51, 121, 36, 86, 61, 96, 5, 13, 13, 104, 13, 69, 69, 104, 13, 44, 44, 124, 40, 89, 65, 100, 9, 29, 29, 114, 25, 79, 72, 107, 17, 54, 47, 117, 32, 82, 57, 92, 1, 3, 3, 94, 3, 59, 59, 94, 3, 34, 34, 119, 34, 84, 59, 94, 3, 19, 19, 109, 19, 74, 74, 109, 19, 49, 49, 119, 34, 84, 59, 94, 3, 11, 11, 102, 11, 67, 67, 102, 11, 42, 42, 125, 41, 90, 66, 101, 10, 27, 27, 115, 26, 80, 73, 108, 18, 55, 48, 118, 33, 83, 58, 93, 2, 7, 7, 98, 7, 63, 63, 98, 7, 38, 38, 122, 37, 87, 62, 97, 6, 23, 23, 112, 22, 77, 75, 110, 20, 52, 50, 120, 35, 85, 60, 95, 4, 15, 15, 105, 14, 70, 68, 103, 12, 45, 43, 123, 39, 88, 64, 99, 8, 30, 28, 113, 24, 78, 71, 106, 16, 53, 46, 116, 31, 81, 56, 91, 0]
def cmpB (a b : Nat) : Bool := (a &&& b == a) || (a &&& b == b)
def allPairs (c : List Nat) : Bool := c.all fun a => c.all fun b => cmpB a b
theorem chains_ok : chainsC.all allPairs = true := by decide +kernel
theorem chain_in : ((List.range 512).all fun a => decide (chainOf.getD a 0 < 126) && ((chainsC.getD (chainOf.getD a 0) []).contains a)) = true := by decide +kernel
theorem chain_lt (a : Nat) (h : a < 512) : chainOf.getD a 0 < 126 := by
  have := List.all_eq_true.1 chain_in a (List.mem_range.2 h)
  simp only [Bool.and_eq_true, decide_eq_true_eq] at this
  exact this.1
theorem chain_mem (a : Nat) (h : a < 512) : a ∈ chainsC.getD (chainOf.getD a 0) [] := by
  have := List.all_eq_true.1 chain_in a (List.mem_range.2 h)
  simp only [Bool.and_eq_true, List.contains_iff_mem] at this
  exact this.2
theorem chain_cmp (a b : Nat) (ha : a < 512) (hb : b < 512) (h : chainOf.getD a 0 = chainOf.getD b 0) : a &&& b = a ∨ a &&& b = b := by
  have h1 := chain_mem a ha
  have h2 := chain_mem b hb
  rw [← h] at h2
  generalize chainOf.getD a 0 = t at h1 h2
  have ht : t < chainsC.length := by
    rcases Nat.lt_or_ge t chainsC.length with h | h
    · exact h
    · rw [List.getD_eq_getElem?_getD, List.getElem?_eq_none h] at h1
      simp at h1
  rw [List.getD_eq_getElem?_getD, List.getElem?_eq_getElem ht, Option.getD_some] at h1 h2
  have h3 := List.all_eq_true.1 (List.all_eq_true.1 (List.all_eq_true.1 chains_ok _ (List.getElem_mem ht)) a h1) b h2
  simpa [cmpB] using h3
theorem nodup_le : ∀ (n : Nat) (l : List Nat), l.Nodup → (∀ x ∈ l, x < n) → l.length ≤ n
  | 0, l, _, h => by
    cases l with
    | nil => exact Nat.le_refl _
    | cons x l => exact absurd (h x List.mem_cons_self) (Nat.not_lt_zero _)
  | n + 1, l, hd, h => by
    have h1 := nodup_le n (l.erase n) (hd.erase n) (fun x hx => by
      have h2 := (hd.mem_erase_iff.1 hx)
      have := h x h2.2
      omega)
    rw [List.length_erase] at h1
    split at h1 <;> omega
theorem sperner (l : List Nat) (hl : ∀ x ∈ l, x < 512) (hp : l.Pairwise fun a b => ¬ (a &&& b = a) ∧ ¬ (a &&& b = b)) : l.length ≤ 126 := by
  have h := nodup_le 126 (l.map fun a => chainOf.getD a 0) (by
    rw [List.Nodup, List.pairwise_map]
    refine List.Pairwise.imp_of_mem (fun {a b} ha hb hab he => ?_) hp
    rcases chain_cmp a b (hl a ha) (hl b hb) he with e | e
    · exact hab.1 e
    · exact hab.2 e) (fun x hx => by
    obtain ⟨a, ha, rfl⟩ := List.mem_map.1 hx
    exact chain_lt a (hl a ha))
  simpa using h
end Go.Proofs.Yticnoiflccbhcaa.Q

namespace Go.Proofs.Yticnoiflccbhcaa.Q
open Go.RowKit Go.Proofs.YticnoiflccbhcaaW.PrintWords Go.Proofs.YticnoiflccbhcaaW.PrintLast Go.Proofs.YticnoiflccbhcaaW.PrintMore Go.Proofs.YticnoiflccbhcaaM
set_option linter.unusedVariables false
set_option linter.unusedSimpArgs false
def incB : List Int → Bool
  | a :: b :: l => decide (a < b) && incB (b :: l)
  | _ => true
theorem incB_short {l : List Int} (h : l.length ≤ 1) : incB l = true := by
  cases l with
  | nil => rfl
  | cons a l =>
    cases l with
    | nil => rfl
    | cons b l => simp at h
theorem incB_at (l : List Int) (i : Nat) (h0 : 0 < i) (h : i < l.length) : incB (l.drop (i - 1)) = (decide (l[i - 1] < l[i]) && incB (l.drop i)) := by
  rw [List.drop_eq_getElem_cons (show i - 1 < l.length by omega), show i - 1 + 1 = i by omega, List.drop_eq_getElem_cons h]
  rfl
theorem incB_lt {a : Int} {l : List Int} (h : incB (a :: l) = true) : ∀ x ∈ l, a < x := by
  induction l generalizing a with
  | nil => intro x hx; simp at hx
  | cons b l ih =>
    intro x hx
    simp only [incB, Bool.and_eq_true, decide_eq_true_eq] at h
    rcases List.mem_cons.1 hx with rfl | hx
    · exact h.1
    · have := ih h.2 x hx
      omega
theorem incB_tail {a : Int} {l : List Int} (h : incB (a :: l) = true) : incB l = true := by
  cases l with
  | nil => rfl
  | cons b l =>
    simp only [incB, Bool.and_eq_true] at h
    exact h.2
theorem incB_len (hi : Int) : ∀ (l : List Int) (lo : Int), incB l = true → lo ≤ hi → (∀ x ∈ l, lo ≤ x ∧ x < hi) → (l.length : Int) ≤ hi - lo
  | [], lo, _, h, _ => by simp; omega
  | a :: l, lo, h, _, hb => by
    have h1 := hb a List.mem_cons_self
    have h2 := incB_len hi l (a + 1) (incB_tail h) (by omega) (fun x hx => ⟨by have := incB_lt h x hx; omega, (hb x (List.mem_cons_of_mem _ hx)).2⟩)
    simp only [List.length_cons, Int.natCast_add]
    omega
/-- A set of n members, as a row. -/
def setB (n : Int) (l : List Int) : Bool := (l.all fun x => decide (0 ≤ x) && decide (x ≤ n - 1)) && incB l
theorem setB_in {n : Int} {l : List Int} (h : setB n l = true) : ∀ x ∈ l, 0 ≤ x ∧ x < n := by
  intro x hx
  simp only [setB, Bool.and_eq_true, List.all_eq_true] at h
  have := h.1 x hx
  simp at this
  omega
theorem setB_len {n : Int} {l : List Int} (h : setB n l = true) (h0 : 0 ≤ n) : (l.length : Int) ≤ n := by
  have h1 := setB_in h
  simp only [setB, Bool.and_eq_true] at h
  have := incB_len n l 0 h.2 h0 h1
  omega
/-- The bits of a set. -/
def orBits (m : Nat) (l : List Int) : Nat := l.foldl (fun m x => m ||| 2 ^ x.toNat) m
def maskN (l : List Int) : Nat := orBits 0 l
theorem orBits_lt (n : Nat) : ∀ (l : List Int) (m : Nat), m < 2 ^ n → (∀ x ∈ l, 0 ≤ x ∧ x < (n : Int)) → orBits m l < 2 ^ n
  | [], m, h, _ => h
  | a :: l, m, h, hb => by
    have h1 := hb a List.mem_cons_self
    refine orBits_lt n l (m ||| 2 ^ a.toNat) (Nat.or_lt_two_pow h (Nat.pow_lt_pow_right (by omega) (by omega))) (fun x hx => hb x (List.mem_cons_of_mem _ hx))
theorem maskN_lt (n : Nat) (l : List Int) (hb : ∀ x ∈ l, 0 ≤ x ∧ x < (n : Int)) : maskN l < 2 ^ n := orBits_lt n l 0 (Nat.two_pow_pos n) hb
theorem setB_mask {n : Nat} {l : List Int} (h : setB (n : Int) l = true) : maskN l < 2 ^ n := maskN_lt n l (setB_in h)
/-! games -/
def mAt (l : List (List Int)) (i : Nat) : Nat := maskN (l.getD i [])
def gOrd (l : List (List Int)) (i : Nat) : Bool := decide (i = 0) || decide (cmpL (l.getD (i - 1) []) (l.getD i []) < 0)
def gInI (l : List (List Int)) (i j : Nat) : Bool := decide (j = i) || !(decide (mAt l i &&& mAt l j = mAt l j))
def gInS (l : List (List Int)) (i j : Nat) : Bool := !(decide (mAt l i &&& mAt l j = mAt l i)) && !(decide (mAt l i &&& mAt l j = mAt l j))
def gI (l : List (List Int)) (i : Nat) : Bool := gOrd l i && (List.range' 0 l.length).all (gInI l i)
def gS (l : List (List Int)) (i : Nat) : Bool := gOrd l i && (List.range' 0 i).all (gInS l i)
theorem gIS (l : List (List Int)) : (List.range' 0 l.length).all (gI l) = (List.range' 0 l.length).all (gS l) := by
  rw [Bool.eq_iff_iff, List.all_eq_true, List.all_eq_true]
  constructor
  · intro h i hi
    have h1 := h i hi
    rw [List.mem_range'_1] at hi
    simp only [gI, gS, Bool.and_eq_true, List.all_eq_true] at h1 ⊢
    refine ⟨h1.1, fun j hj => ?_⟩
    rw [List.mem_range'_1] at hj
    have h2 := h1.2 j (by rw [List.mem_range'_1]; omega)
    have h3 := h j (by rw [List.mem_range'_1]; omega)
    simp only [gI, Bool.and_eq_true, List.all_eq_true] at h3
    have h4 := h3.2 i (by rw [List.mem_range'_1]; omega)
    simp only [gInI, Bool.or_eq_true, decide_eq_true_eq, Bool.not_eq_true', decide_eq_false_iff_not] at h2 h4
    simp only [gInS, Bool.and_eq_true, Bool.not_eq_true', decide_eq_false_iff_not]
    refine ⟨fun e => ?_, fun e => ?_⟩
    · rcases h4 with h4 | h4
      · omega
      · rw [Nat.and_comm] at h4
        exact h4 e
    · rcases h2 with h2 | h2
      · omega
      · exact h2 e
  · intro h i hi
    have h1 := h i hi
    rw [List.mem_range'_1] at hi
    simp only [gI, gS, Bool.and_eq_true, List.all_eq_true] at h1 ⊢
    refine ⟨h1.1, fun j hj => ?_⟩
    rw [List.mem_range'_1] at hj
    simp only [gInI, Bool.or_eq_true, decide_eq_true_eq, Bool.not_eq_true', decide_eq_false_iff_not]
    by_cases e : j = i
    · exact .inl e
    · refine .inr fun e2 => ?_
      rcases Nat.lt_or_gt_of_ne e with hlt | hlt
      · have h2 := h1.2 j (by rw [List.mem_range'_1]; omega)
        simp only [gInS, Bool.and_eq_true, Bool.not_eq_true', decide_eq_false_iff_not] at h2
        exact h2.2 e2
      · have h3 := h j (by rw [List.mem_range'_1]; omega)
        simp only [gS, Bool.and_eq_true, List.all_eq_true] at h3
        have h4 := h3.2 i (by rw [List.mem_range'_1]; omega)
        simp only [gInS, Bool.and_eq_true, Bool.not_eq_true', decide_eq_false_iff_not] at h4
        rw [Nat.and_comm] at e2
        exact h4.1 e2
/-- There is a game of n members with these least winning sets. -/
def setsB (n : Int) (l : List (List Int)) : Bool := l.all fun x => !(decide ((x.length : Int) = 0)) && setB n x
def gameB (n : Int) (l : List (List Int)) : Bool := (decide (1 ≤ n) && decide (n ≤ 9)) && (!(decide ((l.length : Int) = 0)) && (setsB n l && (List.range' 0 l.length).all (gS l)))
structure GoodG (n : Int) (l : List (List Int)) : Prop where
  n1 : 1 ≤ n
  n9 : n ≤ 9
  ne : l.length ≠ 0
  sets : ∀ x ∈ l, x.length ≠ 0 ∧ setB n x = true
  gs : ∀ i, i < l.length → gS l i = true
theorem game_iff (n : Int) (l : List (List Int)) : gameB n l = true ↔ GoodG n l := by
  simp only [gameB, setsB, Bool.and_eq_true, decide_eq_true_eq, Bool.not_eq_true', decide_eq_false_iff_not, List.all_eq_true]
  constructor
  · rintro ⟨⟨h1, h2⟩, h3, h4, h5⟩
    exact ⟨h1, h2, by omega, fun x hx => ⟨by have := (h4 x hx).1; omega, (h4 x hx).2⟩, fun i hi => h5 i (by rw [List.mem_range'_1]; omega)⟩
  · intro h
    exact ⟨⟨h.n1, h.n9⟩, by have := h.ne; omega, fun x hx => ⟨by have := (h.sets x hx).1; omega, (h.sets x hx).2⟩, fun i hi => h.gs i (by rw [List.mem_range'_1] at hi; omega)⟩
theorem setsB_mask {n : Int} {l : List (List Int)} (h : setsB n l = true) (h9 : n ≤ 9) : ∀ x ∈ l, (∀ y ∈ x, 0 ≤ y ∧ y ≤ 8) ∧ maskN x < 512 := by
  intro x hx
  simp only [setsB, List.all_eq_true, Bool.and_eq_true] at h
  have h1 := setB_in (h x hx).2
  have h2 : ∀ y ∈ x, 0 ≤ y ∧ y < ((9 : Nat) : Int) := fun y hy => by have := h1 y hy; omega
  exact ⟨fun y hy => by have := h1 y hy; omega, maskN_lt 9 x h2⟩
theorem game_few {n : Int} {l : List (List Int)} (h9 : n ≤ 9) (hs : setsB n l = true) (hg : (List.range' 0 l.length).all (gS l) = true) : l.length ≤ 126 := by
  have h := sperner (l.map maskN) (fun m hm => by
    obtain ⟨x, hx, rfl⟩ := List.mem_map.1 hm
    exact (setsB_mask hs h9 x hx).2) (by
    rw [List.pairwise_iff_getElem]
    intro i j hi hj hij
    rw [List.length_map] at hi hj
    have h1 := List.all_eq_true.1 hg j (by rw [List.mem_range'_1]; omega)
    simp only [gS, Bool.and_eq_true, List.all_eq_true] at h1
    have h2 := h1.2 i (by rw [List.mem_range'_1]; omega)
    simp only [gInS, Bool.and_eq_true, Bool.not_eq_true', decide_eq_false_iff_not] at h2
    rw [show mAt l i = maskN l[i] by simp [mAt, hi], show mAt l j = maskN l[j] by simp [mAt, hj]] at h2
    rw [List.getElem_map, List.getElem_map]
    refine ⟨fun e => h2.2 ?_, fun e => h2.1 ?_⟩
    · rw [Nat.and_comm]; exact e
    · rw [Nat.and_comm]; exact e)
  simpa using h
/-- Which sets win by sets. -/
def winsG (n : Nat) (l : List (List Int)) : List Bool := (List.range (2 ^ n)).map fun m => l.any fun x => decide (m &&& maskN x = maskN x)
theorem winsG_length (n : Nat) (l : List (List Int)) : (winsG n l).length = 2 ^ n := by simp [winsG]
theorem winsG_get (n : Nat) (l : List (List Int)) (m : Nat) (h : m < (winsG n l).length) : (winsG n l)[m] = l.any fun x => decide (m &&& maskN x = maskN x) := by simp [winsG]
end Go.Proofs.Yticnoiflccbhcaa.Q

namespace Go.Proofs.Yticnoiflccbhcaa.Q
open Go.RowKit Go.Proofs.YticnoiflccbhcaaW.PrintWords Go.Proofs.YticnoiflccbhcaaW.PrintLast Go.Proofs.YticnoiflccbhcaaW.PrintMore Go.Proofs.YticnoiflccbhcaaM
set_option linter.unusedVariables false
set_option linter.unusedSimpArgs false
theorem impl_isIncreasing.ev_l (l : List Int) (hl : l.length ≤ 9223372036854775807) : ∀ (d i : Nat), i + d = l.length → Ev (fun k => impl_isIncreasing.l0 k l (l.length : Int) (i : Int)) (incB (l.drop (i - 1))) := by
  intro d
  induction d with
  | zero =>
    intro i h
    refine ev_step ?_
    simp only [impl_isIncreasing.l0]
    rw [ev_neg (by omega), ev_now, incB_short (by rw [List.length_drop]; omega)]
  | succ d ih =>
    intro i h
    refine ev_step ?_
    simp only [impl_isIncreasing.l0]
    have hi : i < l.length := by omega
    rw [ev_pos (by omega), w64i (n := l.length) (by omega) (by omega) hl]
    by_cases h0 : i = 0
    · subst h0
      rw [ev_neg (by omega)]
      exact ih 1 (by omega)
    · have e1 : (i : Int) - 1 = ((i - 1 : Nat) : Int) := by omega
      rw [ev_pos (by omega), ev_pos (by omega), ev_pos (by omega), w64 (by omega) (by omega), e1, ev_pos (by omega), ev_pos (by omega), rd_lt l i hi, rd_lt l (i - 1) (by omega), incB_at l i (by omega) hi]
      by_cases hc : l[i] ≤ l[i - 1]
      · rw [ev_pos hc, ev_now, decide_eq_false (by omega), Bool.false_and]
      · rw [ev_neg hc, decide_eq_true (by omega), Bool.true_and]
        have := ih (i + 1) (by omega)
        rw [Nat.add_sub_cancel] at this
        exact this
theorem impl_isIncreasing.ev (l : List Int) (hl : l.length ≤ 9223372036854775807) : Ev (fun k => impl_isIncreasing.f k l) (incB l) := impl_isIncreasing.ev_l l hl l.length 0 (by omega)
theorem impl_isSet.ev (l : List Int) (n : Int) (h0 : 0 ≤ n) (h9 : n ≤ 1000) (hl : l.length ≤ 9223372036854775807) : Ev (fun k => impl_isSet.f k l n) (setB n l) := by
  simp only [impl_isSet.f]
  rw [w64 (by omega) (by omega), ev_bind (ev_of (show impl_areIn.f l 0 (n - 1) = some _ from rfl))]
  unfold setB
  cases (l.all fun x => decide (0 ≤ x) && decide (x ≤ n - 1)) with
  | true => rw [ev_pos rfl, ev_bind (impl_isIncreasing.ev l hl), ev_now, Bool.true_and]
  | false => rw [ev_neg (by simp), ev_now, Bool.false_and]
end Go.Proofs.Yticnoiflccbhcaa.Q

namespace Go.Proofs.Yticnoiflccbhcaa.Q
open Go.RowKit Go.Proofs.YticnoiflccbhcaaW.PrintWords Go.Proofs.YticnoiflccbhcaaW.PrintLast Go.Proofs.YticnoiflccbhcaaW.PrintMore Go.Proofs.YticnoiflccbhcaaM
set_option linter.unusedVariables false
set_option linter.unusedSimpArgs false
theorem orBits_lt61 (l : List Int) (m : Nat) (hm : m < 2 ^ 61) (h : ∀ x ∈ l, 0 ≤ x ∧ x ≤ 60) : orBits m l < 2 ^ 61 := orBits_lt 61 l m hm (fun x hx => by have := h x hx; omega)
theorem impl_maskOf.ev_l (l : List Int) (hl : l.length ≤ 9223372036854775807) (hx : ∀ x ∈ l, 0 ≤ x ∧ x ≤ 60) : ∀ (d i m : Nat), i + d = l.length → m < 2 ^ 61 → Ev (fun k => impl_maskOf.l0 k (m : Int) l (l.length : Int) (i : Int)) ((orBits m (l.drop i) : Nat) : Int) := by
  intro d
  induction d with
  | zero =>
    intro i m h hm
    refine ev_step ?_
    simp only [impl_maskOf.l0]
    rw [ev_neg (by omega), ev_now, List.drop_of_length_le (by omega)]
    rfl
  | succ d ih =>
    intro i m h hm
    refine ev_step ?_
    simp only [impl_maskOf.l0]
    have hi : i < l.length := by omega
    have hxi := hx l[i] (List.getElem_mem hi)
    obtain ⟨c, hc⟩ := Int.eq_ofNat_of_zero_le hxi.1
    have hp : 2 ^ c ≤ 2 ^ 60 := Nat.pow_le_pow_right (by omega) (by omega)
    have ho : m ||| 2 ^ c < 2 ^ 61 := Nat.or_lt_two_pow hm (by omega)
    rw [ev_pos (by omega), ev_pos (by omega), ev_pos (by omega), rd_lt l i hi, hc, ev_pos (by omega), w64i (n := l.length) (by omega) (by omega) hl, shl_one c (by omega), or_nat m (2 ^ c) (by omega) (by omega)]
    have := ih (i + 1) (m ||| 2 ^ c) (by omega) ho
    rw [List.drop_eq_getElem_cons hi]
    show Ev _ ((orBits (m ||| 2 ^ l[i].toNat) (l.drop (i + 1)) : Nat) : Int)
    rw [hc]
    exact this
theorem impl_maskOf.ev (l : List Int) (hl : l.length ≤ 9223372036854775807) (hx : ∀ x ∈ l, 0 ≤ x ∧ x ≤ 60) : Ev (fun k => impl_maskOf.f k l) ((maskN l : Nat) : Int) := impl_maskOf.ev_l l hl hx l.length 0 0 (by omega) (by omega)
end Go.Proofs.Yticnoiflccbhcaa.Q

namespace Go.Proofs.Yticnoiflccbhcaa.Q
open Go.RowKit Go.Proofs.YticnoiflccbhcaaW.PrintWords Go.Proofs.YticnoiflccbhcaaW.PrintLast Go.Proofs.YticnoiflccbhcaaW.PrintMore Go.Proofs.YticnoiflccbhcaaM
set_option linter.unusedVariables false
set_option linter.unusedSimpArgs false
theorem cmp_Compare_int.v (a b : Int) : cmp_Compare_int.f a b = some (if a < b then -1 else if b < a then 1 else 0) := by
  have h : ∀ x : Int, cmp_isNaN_int.f x = some false := fun x => by simp [cmp_isNaN_int.f]
  simp only [cmp_Compare_int.f, h, Option.bind_some, Bool.false_eq_true, if_false]
  by_cases h1 : a < b
  · rw [if_pos h1, if_pos h1]
  · by_cases h2 : b < a
    · rw [if_neg h1, if_pos h2, if_neg h1, if_pos h2]
    · rw [if_neg h1, if_neg h2, if_neg h1, if_neg h2]
theorem slices_Compare_int_int.ev_l (a b : List Int) (ha : a.length ≤ 9223372036854775807) : ∀ (d i : Nat), i + d = a.length → i ≤ b.length → a.take i = b.take i → Ev (fun k => slices_Compare_int_int.l0 k a b a (a.length : Int) (i : Int)) (cmpL (a.drop i) (b.drop i)) := by
  intro d
  induction d with
  | zero =>
    intro i h hb _
    refine ev_step ?_
    simp only [slices_Compare_int_int.l0]
    rw [ev_neg (by omega), List.drop_of_length_le (by omega)]
    by_cases hc : (a.length : Int) < (b.length : Int)
    · rw [ev_pos hc, ev_now, List.drop_eq_getElem_cons (by omega)]
      rfl
    · rw [ev_neg hc, ev_now, List.drop_of_length_le (by omega)]
      rfl
  | succ d ih =>
    intro i h hb ht
    refine ev_step ?_
    simp only [slices_Compare_int_int.l0]
    have hi : i < a.length := by omega
    rw [ev_pos (by omega), ev_pos (by omega), ev_pos (by omega)]
    by_cases hc : (i : Int) ≥ (b.length : Int)
    · rw [ev_pos hc, ev_now, List.drop_eq_getElem_cons hi, List.drop_of_length_le (by omega : b.length ≤ i)]
      rfl
    · have hib : i < b.length := by omega
      rw [ev_neg hc, ev_pos (by omega), rd_lt a i hi, rd_lt b i hib, ev_bind (ev_of (cmp_Compare_int.v _ _)), w64i (n := a.length) (by omega) (by omega) ha, List.drop_eq_getElem_cons hi, List.drop_eq_getElem_cons hib]
      simp only [cmpL]
      by_cases h1 : a[i] < b[i]
      · rw [if_pos h1, ev_neg (by decide), ev_now, if_pos h1]
      · by_cases h2 : b[i] < a[i]
        · rw [if_neg h1, if_pos h2, ev_neg (by decide), ev_now, if_neg h1, if_pos h2]
        · rw [if_neg h1, if_neg h2, ev_pos rfl, if_neg h1, if_neg h2]
          refine ih (i + 1) (by omega) (by omega) ?_
          rw [List.take_succ_eq_append_getElem hi, List.take_succ_eq_append_getElem hib, ht, show a[i] = b[i] by omega]
theorem slices_Compare_int_int.ev (a b : List Int) (ha : a.length ≤ 9223372036854775807) : Ev (fun k => slices_Compare_int_int.f k a b) (cmpL a b) := slices_Compare_int_int.ev_l a b ha a.length 0 (by omega) (by omega) (by simp)
end Go.Proofs.Yticnoiflccbhcaa.Q

namespace Go.Proofs.Yticnoiflccbhcaa.Q
open Go.RowKit Go.Proofs.YticnoiflccbhcaaW.PrintWords Go.Proofs.YticnoiflccbhcaaW.PrintLast Go.Proofs.YticnoiflccbhcaaW.PrintMore Go.Proofs.YticnoiflccbhcaaM
set_option linter.unusedVariables false
set_option linter.unusedSimpArgs false
theorem rd_L2_lt (l : List (List Int)) (i : Nat) (h : i < l.length) : rd_L2 l (i : Int) = l[i] := by simp [rd_L2, h]
theorem rd_L2_at (l : List (List Int)) (i : Nat) : rd_L2 l (i : Int) = l.getD i [] := by simp [rd_L2]
theorem impl_areSets.ev (l : List (List Int)) (n : Int) (h0 : 0 ≤ n) (h9 : n ≤ 1000) (hl : ∀ x ∈ l, x.length ≤ 9223372036854775807) : Ev (fun k => impl_areSets.f k l n) (setsB n l) := by
  simp only [impl_areSets.f]
  have h : Ev (fun k => anyO (impl_areSets_1.f k n) l) (l.any fun x => decide ((x.length : Int) = 0) || !(setB n x)) := by
    refine ev_anyO (fun x hx => ?_)
    simp only [impl_areSets_1.f]
    by_cases hc : (x.length : Int) = 0
    · rw [ev_pos hc, ev_now, decide_eq_true hc, Bool.true_or]
    · rw [ev_neg hc, ev_bind (impl_isSet.ev x n h0 h9 (hl x hx)), ev_now, decide_eq_false hc, Bool.false_or]
  rw [ev_bind h, ev_now, setsB]
  clear h hl
  induction l with
  | nil => rfl
  | cons x l ih => rw [List.any_cons, List.all_cons, ← ih, Bool.not_or, Bool.not_or, Bool.not_not]
theorem gOrd_pos (l : List (List Int)) (i : Nat) (h0 : i ≠ 0) (hi : i < l.length) : gOrd l i = decide (cmpL (l[i - 1]'(by omega)) l[i] < 0) := by
  unfold gOrd
  rw [decide_eq_false h0, Bool.false_or, List.getD_eq_getElem?_getD, List.getD_eq_getElem?_getD, List.getElem?_eq_getElem hi, List.getElem?_eq_getElem (show i - 1 < l.length by omega)]
  rfl
theorem mAt_lt (l : List (List Int)) (i : Nat) (hi : i < l.length) : mAt l i = maskN l[i] := by simp [mAt, hi]
theorem impl_IsGame.ev_l1 (n : Int) (l : List (List Int)) (hl : l.length ≤ 9223372036854775807) (hs : ∀ x ∈ l, x.length ≤ 9223372036854775807 ∧ (∀ y ∈ x, 0 ≤ y ∧ y ≤ 8) ∧ maskN x < 512) (i : Nat) (hi : i < l.length) (R : Bool) (hR : Ev (fun k => impl_IsGame.l0 k l (l.length : Int) ((i : Int) + 1) n l) R) : ∀ (d j : Nat), j + d = l.length → Ev (fun k => impl_IsGame.l1 k (i : Int) l[i] l (l.length : Int) (i : Int) l (l.length : Int) (j : Int) n l) ((List.range' j d).all (gInI l i) && R) := by
  intro d
  induction d with
  | zero =>
    intro j h
    refine ev_step ?_
    simp only [impl_IsGame.l1]
    rw [ev_neg (by omega), w64i (n := l.length) (by omega) (by omega) hl]
    exact hR
  | succ d ih =>
    intro j h
    refine ev_step ?_
    simp only [impl_IsGame.l1]
    have hj : j < l.length := by omega
    rw [ev_pos (by omega), ev_pos (by omega), ev_pos (by omega), w64i (i := (j : Int)) (n := l.length) (by omega) (by omega) hl, List.range'_succ, List.all_cons]
    by_cases e : j = i
    · rw [ev_pos (by omega), show gInI l i j = true by simp [gInI, e], Bool.true_and]
      exact ih (j + 1) (by omega)
    · obtain ⟨hx1, hx2, hx3⟩ := hs l[i] (List.getElem_mem hi)
      obtain ⟨hy1, hy2, hy3⟩ := hs l[j] (List.getElem_mem hj)
      have m1 := impl_maskOf.ev l[i] hx1 (fun y hy => by have := hx2 y hy; omega)
      have m2 := impl_maskOf.ev l[j] hy1 (fun y hy => by have := hy2 y hy; omega)
      rw [ev_neg (by omega), ev_bind m1, rd_L2_lt l j hj, ev_bind m2, ev_bind m2, and_nat _ _ (by omega) (by omega)]
      by_cases c : maskN l[i] &&& maskN l[j] = maskN l[j]
      · rw [ev_pos (by rw [c]), ev_now, gInI, mAt_lt l i hi, mAt_lt l j hj, decide_eq_false e, decide_eq_true c]
        rfl
      · rw [ev_neg (by omega), gInI, mAt_lt l i hi, mAt_lt l j hj, decide_eq_false e, decide_eq_false c]
        exact ih (j + 1) (by omega)
theorem impl_IsGame.ev_l0 (n : Int) (l : List (List Int)) (hl : l.length ≤ 9223372036854775807) (hs : ∀ x ∈ l, x.length ≤ 9223372036854775807 ∧ (∀ y ∈ x, 0 ≤ y ∧ y ≤ 8) ∧ maskN x < 512) : ∀ (d i : Nat), i + d = l.length → Ev (fun k => impl_IsGame.l0 k l (l.length : Int) (i : Int) n l) ((List.range' i d).all (gI l)) := by
  intro d
  induction d with
  | zero =>
    intro i h
    refine ev_step ?_
    simp only [impl_IsGame.l0]
    rw [ev_neg (by omega), ev_now]
    rfl
  | succ d ih =>
    intro i h
    refine ev_step ?_
    simp only [impl_IsGame.l0]
    have hi : i < l.length := by omega
    rw [ev_pos (by omega), ev_pos (by omega), ev_pos (by omega), rd_L2_lt l i hi, List.range'_succ, List.all_cons]
    have hin : Ev (fun k => impl_IsGame.l1 k (i : Int) l[i] l (l.length : Int) (i : Int) l (l.length : Int) ((0 : Nat) : Int) n l) ((List.range' 0 l.length).all (gInI l i) && (List.range' (i + 1) d).all (gI l)) := impl_IsGame.ev_l1 n l hl hs i hi _ (by have := ih (i + 1) (by omega); exact this) l.length 0 (by omega)
    by_cases e : i = 0
    · rw [ev_neg (by omega)]
      refine ev_step ?_
      simp only [impl_IsGame.j2]
      rw [ev_neg (by decide), gI, show gOrd l i = true by simp [gOrd, e], Bool.true_and]
      exact hin
    · have e1 : (i : Int) - 1 = ((i - 1 : Nat) : Int) := by omega
      rw [ev_pos (by omega), w64 (by omega) (by omega), e1, ev_pos (by omega), ev_pos (by omega), rd_L2_lt l (i - 1) (by omega), ev_bind (slices_Compare_int_int.ev _ _ (hs _ (List.getElem_mem (by omega))).1)]
      refine ev_step ?_
      simp only [impl_IsGame.j2]
      rw [gI, gOrd_pos l i e hi]
      by_cases c : cmpL (l[i - 1]'(by omega)) l[i] < 0
      · rw [ev_neg (by simp; omega), decide_eq_true c, Bool.true_and]
        exact hin
      · rw [ev_pos (by simp; omega), ev_now, decide_eq_false c]
        rfl
theorem impl_IsGame.ev (n : Int) (l : List (List Int)) (hl : l.length ≤ 9223372036854775807) (hx : ∀ x ∈ l, x.length ≤ 9223372036854775807) : Ev (fun k => impl_IsGame.f k n l) (gameB n l) := by
  simp only [impl_IsGame.f]
  rw [ev_bind (ev_of (impl_within.v _ _ _)), gameB]
  cases h1 : (decide (1 ≤ n) && decide (n ≤ 9)) with
  | false =>
    rw [ev_neg (by decide)]
    refine ev_step ?_
    simp only [impl_IsGame.j0]
    rw [ev_pos trivial, ev_now]
    rfl
  | true =>
    simp only [Bool.and_eq_true, decide_eq_true_eq] at h1
    rw [ev_pos rfl, Bool.true_and]
    by_cases h2 : (l.length : Int) = 0
    · rw [ev_pos h2, decide_eq_true h2]
      refine ev_step ?_
      simp only [impl_IsGame.j0]
      rw [ev_pos trivial, ev_now]
      rfl
    · rw [ev_neg h2, decide_eq_false h2, ev_bind (impl_areSets.ev l n (by omega) (by omega) hx)]
      refine ev_step ?_
      simp only [impl_IsGame.j0]
      cases h3 : setsB n l with
      | false =>
        rw [ev_pos (by decide), ev_now]
        rfl
      | true =>
        rw [ev_neg (by decide), ← gIS]
        exact impl_IsGame.ev_l0 n l hl (fun x hx' => ⟨hx x hx', setsB_mask h3 (by omega) x hx'⟩) l.length 0 (by omega)
end Go.Proofs.Yticnoiflccbhcaa.Q

namespace Go.Proofs.Yticnoiflccbhcaa.Q
open Go.RowKit Go.Proofs.YticnoiflccbhcaaX Go.Proofs.YticnoiflccbhcaaW.PrintWords Go.Proofs.YticnoiflccbhcaaW.PrintLast Go.Proofs.YticnoiflccbhcaaW.PrintMore
attribute [local go_sem] max2_int min2_int max_two min_two max_three min_three max_four min_four   -- for this text's walks alone
set_option linter.unusedVariables false
set_option linter.unusedSimpArgs false

/-! ### laws_heldIntS: function 38 -/
def laws_heldIntS.l0 : Nat → List Int → Int → Int → Option (Int)
 | 0, _, _, _ => none
 | k + 1, x0, x1, x5 => if x5 < (x0.length : Int) then (if 0 ≤ x5 then (if (rd x0 x5) = x1 then (laws_heldIntS.l0 k x0 (wrap64 (x1 + 1)) (wrap64 (x5 + 1))) else (some (-1))) else (none)) else (some x1)
def laws_heldIntS.f (k : Nat) (l0 : List Int) (a1 : Int) : Option (Int) := laws_heldIntS.l0 k l0 a1 0
theorem laws_heldIntS.mono_l : ∀ k, (∀ y0 y1 y2, LeO (laws_heldIntS.l0 k y0 y1 y2) (laws_heldIntS.l0 (k + 1) y0 y1 y2))
 | 0 => fun _ _ _ r h => by simp [laws_heldIntS.l0] at h
 | k + 1 => by
  have ih0 := laws_heldIntS.mono_l k
  ·intro y0 y1 y2
   unfold laws_heldIntS.l0
   repeat' first
   | (with_reducible exact ih0 _ _ _)
   | (with_reducible exact LeO.refl _)
   | (with_reducible exact LeO.none _)
   | (with_reducible refine LeO.ite ?_ ?_)
   | (with_reducible refine LeO.bind ?_ (fun _ => ?_))
   | exact ih0 _ _ _
   | exact LeO.none _
   | refine LeO.ite ?_ ?_
   | refine LeO.bind ?_ (fun _ => ?_)
theorem laws_heldIntS.mono : ∀ a0 a1 k, LeO (laws_heldIntS.f k a0 a1) (laws_heldIntS.f (k + 1) a0 a1) := by
 intro a0 a1 k
 have ih0 := laws_heldIntS.mono_l k
 unfold laws_heldIntS.f
 repeat' first
   | (with_reducible exact ih0 _ _ _)
   | (with_reducible exact LeO.refl _)
   | (with_reducible exact LeO.none _)
   | (with_reducible refine LeO.ite ?_ ?_)
   | (with_reducible refine LeO.bind ?_ (fun _ => ?_))
   | exact ih0 _ _ _
   | exact LeO.none _
   | refine LeO.ite ?_ ?_
   | refine LeO.bind ?_ (fun _ => ?_)
set_option maxHeartbeats 8000000 in
set_option maxRecDepth 100000 in
theorem laws_heldIntS.calls (k : Nat) (A0 : Option Addr) (c0 : Nat) (l0 : List Int) (a1 : Int) (r : Int) (w : World) (hr0 : Kd.C (Kd.int .i64) w A0 l0.length l0) (hc0 : l0.length ≤ c0) (h : laws_heldIntS.f k l0 a1 = some r) :
  Calls Try.prog 38 #[.slice A0 l0.length c0, .int .i64 a1] w fun e w' => e = .returned (.int .i64 r) ∧ Drawn0 w w' := by
 have HR0 := Aside0.mk hr0
 have HC0 := Aside0.mk hc0
 clear hr0 hc0
 have H : (laws_heldIntS.l0 k l0 a1 0) = some r := h
 clear h
 have H' := Aside0.mk H
 clear H
 go_enter Try.func38, Try.ntmps38
 go_wp2
 go_loopg [1, 5] k (fun kq v1 v5 w' => ∃ (x1_1 : Int) (x5_1 : Int), v1 = .int .i64 x1_1 ∧ v5 = .int .i64 x5_1 ∧ Aside0 (laws_heldIntS.l0 kq l0 x1_1 x5_1 = some r) ∧ Aside0 (kq ≤ k) ∧ Drawn0 w w')
 case atStart => exact ⟨(a1), (0), (by first | rfl | (simp; done) | (simp [*]; done)), (by first | rfl | (simp; done) | (simp [*]; done)), H', ⟨Nat.le_refl _⟩, by repeat (first | exact Drawn0.refl _ | apply Drawn0.step)⟩
 case round =>
  clear H'
  try clear p2
  obtain ⟨x1_1, x5_1, rfl, rfl, HA, HK1, ⟨m1, rfl⟩⟩ := hrel
  cases gk with
  | zero => exact absurd HA.out (by simp [laws_heldIntS.l0])
  | succ k1 =>
   have H := HA.out
   clear HA
   simp only [laws_heldIntS.l0] at H
   by_cases c3 : x5_1 < (l0.length : Int)
   ·rw [if_pos c3] at H
    have c3b0 : decide (x5_1 < (l0.length : Int)) = true := decide_eq_true c3
    clear c3
    by_cases c4 : 0 ≤ x5_1
    ·rw [if_pos c4] at H
     have c4b0 : decide (0 ≤ x5_1) = true := decide_eq_true c4
     clear c4
     by_cases c5 : (rd l0 x5_1) = x1_1
     ·rw [if_pos c5] at H
      have c5b0 : ((rd l0 x5_1) == x1_1) = true := beq_iff_eq.mpr c5
      have c5b1 : ((rd l0 x5_1) != x1_1) = false := bne_eq_false_iff_eq.mpr c5
      clear c5
      have H' := Aside0.mk H
      clear H
      have p101 : 0 ≤ (x5_1 : Int) := of_decide_eq_true (by first | (with_reducible assumption) | assumption)
      have q101 : x5_1 < (l0.length : Int) := of_decide_eq_true (by first | (with_reducible assumption) | assumption)
      obtain ⟨ad101, e101, hx101_0⟩ := Kd.at_int HR0.out x5_1 p101 q101
      cases e101
      replace p101 := eq_true p101
      replace q101 := eq_true q101
      go_wp2
      go_roundg k1
      case measure => have := HK1.out; omega
      case rel => exact ⟨(wrap64 (x1_1 + 1)), (wrap64 (x5_1 + 1)), (by first | rfl | (simp; done) | (simp [*]; done)), (by first | rfl | (simp; done) | (simp [*]; done)), H', ⟨by have := HK1.out; omega⟩, by repeat (first | exact Drawn0.refl _ | apply Drawn0.step)⟩
     ·rw [if_neg c5] at H
      have c5b0 : ((rd l0 x5_1) == x1_1) = false := beq_eq_false_iff_ne.mpr c5
      have c5b1 : ((rd l0 x5_1) != x1_1) = true := bne_iff_ne.mpr c5
      obtain rfl := Option.some.inj H
      have p101 : 0 ≤ (x5_1 : Int) := of_decide_eq_true (by first | (with_reducible assumption) | assumption)
      have q101 : x5_1 < (l0.length : Int) := of_decide_eq_true (by first | (with_reducible assumption) | assumption)
      obtain ⟨ad101, e101, hx101_0⟩ := Kd.at_int HR0.out x5_1 p101 q101
      cases e101
      replace p101 := eq_true p101
      replace q101 := eq_true q101
      go_wp2
      go_ret
      exact ⟨by first | rfl | (simp; done) | (simp [*]; done), by repeat (first | exact Drawn0.refl _ | apply Drawn0.step)⟩
    ·rw [if_neg c4] at H
     exact absurd H (by simp)
   ·rw [if_neg c3] at H
    have c3b0 : decide (x5_1 < (l0.length : Int)) = false := decide_eq_false c3
    clear c3
    obtain rfl := Option.some.inj H
    go_wp2
    go_ret
    exact ⟨by first | rfl | (simp; done) | (simp [*]; done), by repeat (first | exact Drawn0.refl _ | apply Drawn0.step)⟩

end Go.Proofs.Yticnoiflccbhcaa.Q

namespace Go.Proofs.Yticnoiflccbhcaa.Q
open Go.RowKit Go.Proofs.YticnoiflccbhcaaX Go.Proofs.YticnoiflccbhcaaW.PrintWords Go.Proofs.YticnoiflccbhcaaW.PrintLast Go.Proofs.YticnoiflccbhcaaW.PrintMore
attribute [local go_sem] max2_int min2_int max_two min_two max_three min_three max_four min_four   -- for this text's walks alone
set_option linter.unusedVariables false
set_option linter.unusedSimpArgs false

/-! ### laws_markIntS: function 37 -/
def laws_markIntS.l0 : Nat → List Int → Int → Int → Option (Int × List Int)
 | 0, _, _, _ => none
 | k + 1, x0, x1, x5 => if x5 < (x0.length : Int) then (if 0 ≤ x5 then (laws_markIntS.l0 k (x0.set (x5 : Int).toNat x1) (wrap64 (x1 + 1)) (wrap64 (x5 + 1))) else (none)) else (some (x1, x0))
def laws_markIntS.f (k : Nat) (l0 : List Int) (a1 : Int) : Option (Int × List Int) := laws_markIntS.l0 k l0 a1 0
theorem laws_markIntS.mono_l : ∀ k, (∀ y0 y1 y2, LeO (laws_markIntS.l0 k y0 y1 y2) (laws_markIntS.l0 (k + 1) y0 y1 y2))
 | 0 => fun _ _ _ r h => by simp [laws_markIntS.l0] at h
 | k + 1 => by
  have ih0 := laws_markIntS.mono_l k
  ·intro y0 y1 y2
   unfold laws_markIntS.l0
   repeat' first
   | (with_reducible exact ih0 _ _ _)
   | (with_reducible exact LeO.refl _)
   | (with_reducible exact LeO.none _)
   | (with_reducible refine LeO.ite ?_ ?_)
   | (with_reducible refine LeO.bind ?_ (fun _ => ?_))
   | exact ih0 _ _ _
   | exact LeO.none _
   | refine LeO.ite ?_ ?_
   | refine LeO.bind ?_ (fun _ => ?_)
theorem laws_markIntS.mono : ∀ a0 a1 k, LeO (laws_markIntS.f k a0 a1) (laws_markIntS.f (k + 1) a0 a1) := by
 intro a0 a1 k
 have ih0 := laws_markIntS.mono_l k
 unfold laws_markIntS.f
 repeat' first
   | (with_reducible exact ih0 _ _ _)
   | (with_reducible exact LeO.refl _)
   | (with_reducible exact LeO.none _)
   | (with_reducible refine LeO.ite ?_ ?_)
   | (with_reducible refine LeO.bind ?_ (fun _ => ?_))
   | exact ih0 _ _ _
   | exact LeO.none _
   | refine LeO.ite ?_ ?_
   | refine LeO.bind ?_ (fun _ => ?_)
set_option maxHeartbeats 8000000 in
set_option maxRecDepth 100000 in
theorem laws_markIntS.calls (k : Nat) (P0_ : Nat → Prop) (u9000_ : Value) (l0 : List Int) (a1 : Int) (r1 : Int) (r2 : List Int) (w0 w : World) (hB : Below w0.heap.size w0 w) (ho0 : Kd.R (Kd.int .i64) 3 w w0.heap.size P0_ u9000_ l0) (h : laws_markIntS.f k l0 a1 = some (r1, r2)) :
  Calls Try.prog 37 #[u9000_, .int .i64 a1] w fun e w' => e = .returned (.int .i64 r1) ∧ Kd.R (Kd.int .i64) 3 w' w0.heap.size (fun k_ => (P0_ k_ ∨ w.heap.size ≤ k_)) u9000_ r2 ∧ Below w0.heap.size w0 w' ∧ Kept w w' (fun k_ => P0_ k_) := by
 have HO0 := Aside0.mk (show Kd.R (Kd.int .i64) 3 w w0.heap.size (fun k_ => (P0_ k_ ∨ w.heap.size ≤ k_)) u9000_ l0 from Kd.R_mono ho0 (fun k_ hk => (.inl hk)))
 have HK := Aside0.mk (Kept.refl w (fun k_ => P0_ k_))
 have HW0 := Aside0.mk hB.size
 have HB := Aside0.mk hB
 clear hB
 have H : (laws_markIntS.l0 k l0 a1 0) = some (r1, r2) := h
 clear h
 have H' := Aside0.mk H
 clear H
 go_enter Try.func37, Try.ntmps37
 go_wp2
 go_loopg [1, 5] k (fun kq v1 v5 w' => ∃ (x0_1 : List Int) (x1_1 : Int) (x5_1 : Int), v1 = .int .i64 x1_1 ∧ v5 = .int .i64 x5_1 ∧ Aside0 (laws_markIntS.l0 kq x0_1 x1_1 x5_1 = some (r1, r2)) ∧ Aside0 (kq ≤ k) ∧ Aside0 (Kd.R (Kd.int .i64) 3 w' w0.heap.size (fun k_ => (P0_ k_ ∨ w.heap.size ≤ k_)) u9000_ x0_1) ∧ Aside0 (Kept w w' (fun k_ => P0_ k_)) ∧ Aside0 (Below w0.heap.size w0 w'))
 case atStart => exact ⟨(l0), (a1), (0), (by first | rfl | (simp; done) | (simp [*]; done)), (by first | rfl | (simp; done) | (simp [*]; done)), H', ⟨Nat.le_refl _⟩, ⟨by (with_reducible repeat (first | apply qA | apply qN | apply qD)); exact HO0.out⟩, ⟨by repeat (first | (with_reducible first | exact HK.out | apply Kept.alloc | apply Kept.drewN | apply Kept.drew) | exact HK.out)⟩, ⟨by repeat (first | (with_reducible first | exact HB.out | apply ba | apply bd | apply be) | exact HB.out)⟩⟩
 case round =>
  clear H'
  try clear p2
  obtain ⟨x0_1, x1_1, x5_1, rfl, rfl, HA, HK1, HO_0, HK, HB⟩ := hrel
  cases gk with
  | zero => exact absurd HA.out (by simp [laws_markIntS.l0])
  | succ k1 =>
   have H := HA.out
   clear HA
   simp only [laws_markIntS.l0] at H
   by_cases c3 : x5_1 < (x0_1.length : Int)
   ·rw [if_pos c3] at H
    have c3b0 : decide (x5_1 < (x0_1.length : Int)) = true := decide_eq_true c3
    clear c3
    by_cases c4 : 0 ≤ x5_1
    ·rw [if_pos c4] at H
     have c4b0 : decide (0 ≤ x5_1) = true := decide_eq_true c4
     clear c4
     obtain ⟨y101, hy101⟩ : ∃ y_ : List Int, y_ = (x0_1.set (x5_1 : Int).toNat x1_1) := ⟨_, rfl⟩
     replace H : (laws_markIntS.l0 k1 y101 (wrap64 (x1_1 + 1)) (wrap64 (x5_1 + 1))) = some (r1, r2) := by first | (rw [hy101]; with_reducible exact H) | (have H2_ := (Option.bind_some _ _).symm.trans H; rw [hy101]; with_reducible exact H2_) | (have H2_ := (Option.bind_some _ _).symm.trans H; with_reducible exact H2_) | with_reducible exact H | (rw [hy101]; exact H) | exact H
     have Ny101 := Aside0.mk hy101
     clear hy101
     have H' := Aside0.mk H
     clear H
     obtain ⟨Ao6, co6, eo6⟩ := Kd.R_slice HO_0.out
     subst eo6
     have p5 : 0 ≤ (x5_1 : Int) := of_decide_eq_true (by first | (with_reducible assumption) | assumption)
     have q5 : (x5_1 : Int) < ((x0_1.length : Int) : Int) := of_decide_eq_true (by first | (with_reducible assumption) | assumption)
     obtain ⟨go5, co5, eo5, gb5, gl5, cl5, HG5⟩ := Kd.R_form HO_0.out (by omega)
     (first | cases eo5 | (injection eo5 with ea_ en_ ec_; (first | subst ea_ | (injection ea_ with ea_; subst ea_)); subst ec_; clear en_))
     have GB5 := Aside0.mk gb5
     have GG5 := Aside0.mk HG5
     clear gb5 gl5 HG5
     have HMgo5 := Aside0.mk (show (P0_ go5 ∨ w.heap.size ≤ go5) from (HO_0.out.1 _ rfl))
     obtain ⟨hx5_0, hf5_0⟩ := Kd.R_celln 0 HO_0.out (x5_1 : Int) p5 q5
     replace p5 := eq_true p5
     replace q5 := eq_true q5
     have HP7 := Kd.R_putg HO_0.out (x5_1 : Int) x1_1
     go_wp2_with (first | ((with_reducible refine gate_store (t := 3) (p := 15) rfl ?_); refine store_event (t := 3) (p := 15) (v := ?vo_w8) (w1 := (wr.setCell ⟨go5, (x5_1 : Int).toNat, none⟩ (.int .i64 x1_1))) ?hg ?ho ?hn ?hr ?_; (case ho => rfl); (case hg => rfl); (case hn => rfl); (case hr => first | (go_simp; done) | (go_simp; rfl)); intro w8 hw; have hg : wr.grownBy w8 (some go5) := (by rw [hw]; exact HP7.2); have hp_ : Kd.R (Kd.int .i64) 3 w8 w0.heap.size (fun k_ => (P0_ k_ ∨ w.heap.size ≤ k_)) (.slice (some ⟨go5, 0, none⟩) x0_1.length co6) y101 := (by rw [hw, Ny101.out]; exact HP7.1); clear HP7; have n0_ := Aside0.mk (hp_); have n1_ := Aside0.mk ((by rw [hw]; exact below_set (HB.out) GB5.out : Below w0.heap.size w0 w8)); have n2_ := Aside0.mk (Kept.of_grown (S := (fun k_ => P0_ k_)) hg (by repeat (first | (with_reducible first | exact HK.out | apply Kept.alloc | apply Kept.drewN | apply Kept.drew) | exact HK.out)) (fun k_ e_ => (HO_0.out.1 k_ e_))); clear HO_0; clear HB; clear HK; have HO_0 := n0_; have HB := n1_; have HK := n2_; clear n0_ n1_ n2_; clear hg hw hp_))
     go_roundg k1
     case measure => have := HK1.out; omega
     case rel => exact ⟨(y101), (wrap64 (x1_1 + 1)), (wrap64 (x5_1 + 1)), (by first | rfl | (simp; done) | (simp [*]; done)), (by first | rfl | (simp; done) | (simp [*]; done)), H', ⟨by have := HK1.out; omega⟩, ⟨by (with_reducible repeat (first | apply qA | apply qN | apply qD)); exact HO_0.out⟩, ⟨by repeat (first | (with_reducible first | exact HK.out | apply Kept.alloc | apply Kept.drewN | apply Kept.drew) | exact HK.out)⟩, ⟨by repeat (first | (with_reducible first | exact HB.out | apply ba | apply bd | apply be) | exact HB.out)⟩⟩
    ·rw [if_neg c4] at H
     exact absurd H (by simp)
   ·rw [if_neg c3] at H
    have c3b0 : decide (x5_1 < (x0_1.length : Int)) = false := decide_eq_false c3
    clear c3
    simp only [Option.some.injEq, Prod.mk.injEq] at H
    obtain ⟨rfl, rfl⟩ := H
    obtain ⟨Ao9, co9, eo9⟩ := Kd.R_slice HO_0.out
    subst eo9
    go_wp2
    go_ret
    exact ⟨by first | rfl | (simp <;> rfl) | (simp [*] <;> rfl), by (with_reducible repeat (first | apply qA | apply qN | apply qD)); exact HO_0.out, by repeat (first | (with_reducible first | exact HB.out | apply ba | apply bd | apply be) | exact HB.out), by repeat (first | (with_reducible first | exact HK.out | apply Kept.alloc | apply Kept.drewN | apply Kept.drew) | exact HK.out)⟩

end Go.Proofs.Yticnoiflccbhcaa.Q

namespace Go.Proofs.Yticnoiflccbhcaa.Q
open Go.RowKit Go.Proofs.YticnoiflccbhcaaW.PrintWords Go.Proofs.YticnoiflccbhcaaW.PrintLast Go.Proofs.YticnoiflccbhcaaW.PrintMore Go.Proofs.YticnoiflccbhcaaM
set_option linter.unusedVariables false
set_option linter.unusedSimpArgs false
theorem laws_toIntS.ev_l (l : List Int) (hl : l.length ≤ 35184372088832) : ∀ (d i : Nat) (acc : List Int), i + d = l.length → acc.length = l.length → acc.take i = l.take i → Ev (fun k => laws_toIntS.l0 k l acc (i : Int)) l := by
  intro d
  induction d with
  | zero =>
    intro i acc h hlen ht
    refine ev_step ?_
    simp only [laws_toIntS.l0]
    rw [ev_neg (by omega), ev_now]
    rwa [List.take_of_length_le (by omega), List.take_of_length_le (by omega)] at ht
  | succ d ih =>
    intro i acc h hlen ht
    refine ev_step ?_
    simp only [laws_toIntS.l0]
    have hi : i < l.length := by omega
    rw [ev_pos (by omega), ev_pos (by omega), ev_pos (by omega), w64i (n := l.length) (by omega) (by omega) (by omega), rd_lt l i hi, Int.toNat_natCast]
    refine ih (i + 1) _ (by omega) (by simpa using hlen) ?_
    rw [List.take_succ_eq_append_getElem (by simp; omega), List.take_succ_eq_append_getElem hi, List.take_set_of_le (by omega), ht]
    simp
theorem laws_toIntS.ev (l : List Int) (hl : l.length ≤ 35184372088832) : Ev (fun k => laws_toIntS.f k l) l := by
  simp only [laws_toIntS.f]
  rw [ev_pos (by omega), ev_pos (by omega)]
  exact laws_toIntS.ev_l l hl l.length 0 _ (by omega) (by simp) (by simp)
theorem laws_eqIntS.ev_l (a b : List Int) (hl : a.length ≤ 9223372036854775807) (hab : a.length = b.length) : ∀ (d i : Nat), i + d = a.length → Ev (fun k => laws_eqIntS.l0 k a b (i : Int)) (decide (a.drop i = b.drop i)) := by
  intro d
  induction d with
  | zero =>
    intro i h
    refine ev_step ?_
    simp only [laws_eqIntS.l0]
    rw [ev_neg (by omega), ev_now, List.drop_of_length_le (by omega), List.drop_of_length_le (by omega)]
    rfl
  | succ d ih =>
    intro i h
    refine ev_step ?_
    simp only [laws_eqIntS.l0]
    have hi : i < a.length := by omega
    have hj : i < b.length := by omega
    rw [ev_pos (by omega), ev_pos (by omega), ev_pos (by omega), rd_lt a i hi, rd_lt b i hj, w64i (n := a.length) (by omega) (by omega) (by omega)]
    have ed : decide (a.drop i = b.drop i) = (decide (a[i] = b[i]) && decide (a.drop (i + 1) = b.drop (i + 1))) := by
      rw [List.drop_eq_getElem_cons hi, List.drop_eq_getElem_cons hj, ← Bool.decide_and]
      simp only [List.cons.injEq]
    rw [ed]
    by_cases e : a[i] = b[i]
    · rw [ev_pos e, decide_eq_true e, Bool.true_and]
      exact ih (i + 1) (by omega)
    · rw [ev_neg e, ev_now, decide_eq_false e, Bool.false_and]
theorem laws_eqIntS.ev (a b : List Int) (hl : a.length ≤ 9223372036854775807) : Ev (fun k => laws_eqIntS.f k a b) (decide (a = b)) := by
  simp only [laws_eqIntS.f]
  by_cases h : a.length = b.length
  · rw [ev_pos (by omega)]
    exact laws_eqIntS.ev_l a b hl h a.length 0 (by omega)
  · rw [ev_neg (by omega), ev_now]
    have : a ≠ b := fun e => h (by rw [e])
    simp [this]
/-- The numbers from k on, as many as are asked. -/
def marks (k : Int) (n : Nat) : List Int := (List.range n).map fun (i : Nat) => k + (i : Int)
theorem marks_length (k : Int) (n : Nat) : (marks k n).length = n := by simp [marks]
theorem marks_get (k : Int) (n i : Nat) (h : i < (marks k n).length) : (marks k n)[i] = k + (i : Int) := by simp [marks]
theorem laws_markIntS.ev_l (n : Nat) (c : Int) (hn : n ≤ 9223372036854775807) (hc0 : 0 ≤ c) (hc : c + (n : Int) ≤ 9223372036854775807) : ∀ (d i : Nat) (acc : List Int), i + d = n → acc.length = n → acc.take i = (marks c n).take i → Ev (fun k => laws_markIntS.l0 k acc (c + (i : Int)) (i : Int)) (c + (n : Int), marks c n) := by
  intro d
  induction d with
  | zero =>
    intro i acc h hlen ht
    refine ev_step ?_
    simp only [laws_markIntS.l0]
    rw [ev_neg (by omega), ev_now]
    rw [List.take_of_length_le (by omega), List.take_of_length_le (by rw [marks_length]; omega)] at ht
    rw [ht, show i = n by omega]
  | succ d ih =>
    intro i acc h hlen ht
    refine ev_step ?_
    simp only [laws_markIntS.l0]
    have hi : i < n := by omega
    rw [ev_pos (by omega), ev_pos (by omega), w64i (i := (i : Int)) (n := n) (by omega) (by omega) hn, w64 (x := c + (i : Int) + 1) (by omega) (by omega), Int.toNat_natCast]
    rw [show c + (i : Int) + 1 = c + ((i + 1 : Nat) : Int) by omega]
    refine ih (i + 1) _ (by omega) (by simpa using hlen) ?_
    rw [List.take_succ_eq_append_getElem (by simp; omega), List.take_succ_eq_append_getElem (by rw [marks_length]; omega), List.take_set_of_le (by omega), ht, marks_get]
    simp
theorem laws_markIntS.ev (l : List Int) (c : Int) (hc0 : 0 ≤ c) (hc : c + (l.length : Int) ≤ 9223372036854775807) : Ev (fun k => laws_markIntS.f k l c) (c + (l.length : Int), marks c l.length) := by
  have := laws_markIntS.ev_l l.length c (by omega) hc0 hc l.length 0 l (by omega) rfl (by simp)
  simpa [laws_markIntS.f] using this
theorem laws_heldIntS.ev_l (n : Nat) (c : Int) (hn : n ≤ 9223372036854775807) (hc0 : 0 ≤ c) (hc : c + (n : Int) ≤ 9223372036854775807) : ∀ (d i : Nat), i + d = n → Ev (fun k => laws_heldIntS.l0 k (marks c n) (c + (i : Int)) (i : Int)) (c + (n : Int)) := by
  intro d
  induction d with
  | zero =>
    intro i h
    refine ev_step ?_
    simp only [laws_heldIntS.l0]
    rw [marks_length, ev_neg (by omega), ev_now]
    omega
  | succ d ih =>
    intro i h
    refine ev_step ?_
    simp only [laws_heldIntS.l0]
    have hi : i < (marks c n).length := by rw [marks_length]; omega
    rw [rd_lt _ i hi, marks_get, marks_length, ev_pos (by omega), ev_pos (by omega), ev_pos rfl, w64i (i := (i : Int)) (n := n) (by omega) (by omega) hn, w64 (x := c + (i : Int) + 1) (by omega) (by omega)]
    rw [show c + (i : Int) + 1 = c + ((i + 1 : Nat) : Int) by omega]
    exact ih (i + 1) (by omega)
theorem laws_heldIntS.ev (n : Nat) (c : Int) (hc0 : 0 ≤ c) (hc : c + (n : Int) ≤ 9223372036854775807) : Ev (fun k => laws_heldIntS.f k (marks c n) c) (c + (n : Int)) := by
  have := laws_heldIntS.ev_l n c (by omega) hc0 hc n 0 (by omega)
  simpa [laws_heldIntS.f] using this
theorem laws_szIntS.v (l : List Int) (c : Int) (hc : c ≤ 9223372036854775807) (hl : (l.length : Int) ≤ 9223372036854775807 + c) : laws_szIntS.f l c = some (if c - (l.length : Int) < 0 then -1 else c - (l.length : Int)) := by
  unfold laws_szIntS.f
  rw [w64 (by omega) (by omega)]
  split <;> rfl
end Go.Proofs.Yticnoiflccbhcaa.Q

namespace Go.Proofs.Yticnoiflccbhcaa.Q
open Go.RowKit Go.Proofs.YticnoiflccbhcaaW.PrintWords Go.Proofs.YticnoiflccbhcaaW.PrintLast Go.Proofs.YticnoiflccbhcaaW.PrintMore Go.Proofs.YticnoiflccbhcaaM
set_option linter.unusedVariables false
set_option linter.unusedSimpArgs false
theorem laws_toIntSS.ev_l (l : List (List Int)) (hl : l.length ≤ 11728124029610) (hx : ∀ x ∈ l, x.length ≤ 35184372088832) : ∀ (d i : Nat) (acc : List (List Int)), i + d = l.length → acc.length = l.length → acc.take i = l.take i → Ev (fun k => laws_toIntSS.l0 k l acc (i : Int)) l := by
  intro d
  induction d with
  | zero =>
    intro i acc h ha ht
    refine ev_step ?_
    simp only [laws_toIntSS.l0]
    rw [List.take_of_length_le (by omega), List.take_of_length_le (by omega)] at ht
    rw [ev_neg (by omega), ev_now, ht]
  | succ d ih =>
    intro i acc h ha ht
    refine ev_step ?_
    simp only [laws_toIntSS.l0]
    have hi : i < l.length := by omega
    rw [ev_pos (by omega), ev_pos (by omega), rd_L2_lt l i hi, ev_bind (laws_toIntS.ev l[i] (hx _ (List.getElem_mem hi))), ev_pos (by omega), w64i (n := l.length) (by omega) (by omega) (by omega), Int.toNat_natCast]
    refine ih (i + 1) _ (by omega) (by simpa using ha) ?_
    rw [List.take_succ_eq_append_getElem (by rw [List.length_set]; omega), List.take_succ_eq_append_getElem hi, List.take_set_of_le (by omega), ht, List.getElem_set_self]
theorem laws_toIntSS.ev (l : List (List Int)) (hl : l.length ≤ 11728124029610) (hx : ∀ x ∈ l, x.length ≤ 35184372088832) : Ev (fun k => laws_toIntSS.f k l) l := by
  simp only [laws_toIntSS.f]
  rw [ev_pos (by omega), ev_pos (by omega), Int.toNat_natCast]
  exact laws_toIntSS.ev_l l hl hx l.length 0 _ (by omega) (by simp) (by simp)
theorem laws_eqIntSS.ev_l (a b : List (List Int)) (hl : a.length ≤ 9223372036854775807) (hab : a.length = b.length) (hx : ∀ x ∈ a, x.length ≤ 9223372036854775807) : ∀ (d i : Nat), i + d = a.length → Ev (fun k => laws_eqIntSS.l0 k a b (i : Int)) (decide (a.drop i = b.drop i)) := by
  intro d
  induction d with
  | zero =>
    intro i h
    refine ev_step ?_
    simp only [laws_eqIntSS.l0]
    rw [ev_neg (by omega), ev_now, List.drop_of_length_le (by omega), List.drop_of_length_le (by omega)]
    rfl
  | succ d ih =>
    intro i h
    refine ev_step ?_
    simp only [laws_eqIntSS.l0]
    have hi : i < a.length := by omega
    have hib : i < b.length := by omega
    have e : decide (a.drop i = b.drop i) = (decide (a[i] = b[i]) && decide (a.drop (i + 1) = b.drop (i + 1))) := by
      rw [List.drop_eq_getElem_cons hi, List.drop_eq_getElem_cons hib, Bool.eq_iff_iff]
      simp only [Bool.and_eq_true, decide_eq_true_eq, List.cons.injEq]
    rw [ev_pos (by omega), ev_pos (by omega), ev_pos (by omega), rd_L2_lt a i hi, rd_L2_lt b i hib, ev_bind (laws_eqIntS.ev a[i] b[i] (hx _ (List.getElem_mem hi))), w64i (n := a.length) (by omega) (by omega) hl, e]
    by_cases c : a[i] = b[i]
    · rw [ev_pos (decide_eq_true c), decide_eq_true c, Bool.true_and]
      exact ih (i + 1) (by omega)
    · rw [ev_neg (by simp [c]), ev_now, decide_eq_false c]
      rfl
theorem laws_eqIntSS.ev (a b : List (List Int)) (hl : a.length ≤ 9223372036854775807) (hx : ∀ x ∈ a, x.length ≤ 9223372036854775807) : Ev (fun k => laws_eqIntSS.f k a b) (decide (a = b)) := by
  simp only [laws_eqIntSS.f]
  by_cases c : (a.length : Int) = (b.length : Int)
  · rw [ev_pos c]
    exact laws_eqIntSS.ev_l a b hl (by omega) hx a.length 0 (by omega)
  · rw [ev_neg c, ev_now, decide_eq_false (fun h => c (by rw [h]))]
theorem laws_szIntSS.ev_l (l : List (List Int)) (hl : l.length ≤ 9223372036854775807) (hx : ∀ x ∈ l, x.length ≤ 9223372036854775807) : ∀ (d i : Nat) (c : Int), i + d = l.length → 0 ≤ c → c ≤ 1048576 → ∃ r : Int, r ≤ 1048576 ∧ Ev (fun k => laws_szIntSS.l0 k l c (i : Int)) r ∧ (0 ≤ r → ∀ j (h : j < l.length), i ≤ j → l[j].length ≤ 1048576) := by
  intro d
  induction d with
  | zero =>
    intro i c h h0 h1
    refine ⟨c, h1, ev_step ?_, fun _ j hj hij => by omega⟩
    simp only [laws_szIntSS.l0]
    rw [ev_neg (by omega), ev_now]
  | succ d ih =>
    intro i c h h0 h1
    have hi : i < l.length := by omega
    have hxi := hx _ (List.getElem_mem hi)
    by_cases hc : c - (l[i].length : Int) < 0
    · refine ⟨-1, by omega, ev_step ?_, fun h => by omega⟩
      simp only [laws_szIntSS.l0]
      rw [ev_pos (by omega), ev_pos (by omega), rd_L2_lt l i hi, ev_bind (ev_of (laws_szIntS.v l[i] c (by omega) (by omega))), if_pos hc, ev_pos (by omega), ev_now]
    · obtain ⟨r, hr1, hr2, hr3⟩ := ih (i + 1) (c - (l[i].length : Int)) (by omega) (by omega) (by omega)
      refine ⟨r, hr1, ev_step ?_, fun h0 j hj hij => ?_⟩
      · simp only [laws_szIntSS.l0]
        rw [ev_pos (by omega), ev_pos (by omega), rd_L2_lt l i hi, ev_bind (ev_of (laws_szIntS.v l[i] c (by omega) (by omega))), if_neg hc, ev_neg hc, w64i (n := l.length) (by omega) (by omega) hl]
        exact hr2
      · by_cases e : j = i
        · subst e
          omega
        · exact hr3 h0 j hj (by omega)
/-- What szIntSS answers of rows that came in: too much, or all rows are short. -/
theorem laws_szIntSS.ev (l : List (List Int)) (c : Int) (hl : l.length ≤ 9223372036854775807) (hx : ∀ x ∈ l, x.length ≤ 9223372036854775807) (h0 : 0 ≤ c) (h1 : c ≤ 1048576) : ∃ r : Int, r ≤ 1048576 ∧ Ev (fun k => laws_szIntSS.f k l c) r ∧ (0 ≤ r → l.length ≤ 1048576 ∧ ∀ x ∈ l, x.length ≤ 1048576) := by
  simp only [laws_szIntSS.f]
  rw [w64 (by omega) (by omega)]
  by_cases hc : c - (l.length : Int) < 0
  · exact ⟨-1, by omega, by rw [ev_pos hc, ev_now], fun h => by omega⟩
  · obtain ⟨r, hr1, hr2, hr3⟩ := laws_szIntSS.ev_l l hl hx l.length 0 (c - (l.length : Int)) (by omega) (by omega) (by omega)
    refine ⟨r, hr1, by rw [ev_neg hc]; exact hr2, fun h => ⟨by omega, fun x hx' => ?_⟩⟩
    obtain ⟨j, hj, rfl⟩ := List.getElem_of_mem hx'
    exact hr3 h j hj (by omega)
theorem laws_szGame.ev (n : Int) (l : List (List Int)) (c : Int) (hl : l.length ≤ 9223372036854775807) (hx : ∀ x ∈ l, x.length ≤ 9223372036854775807) (h0 : 0 ≤ c) (h1 : c ≤ 1048576) : ∃ r : Int, r ≤ 1048576 ∧ Ev (fun k => laws_szGame.f k n l c) r ∧ (0 ≤ r → l.length ≤ 1048576 ∧ ∀ x ∈ l, x.length ≤ 1048576) := by
  obtain ⟨r, hr1, hr2, hr3⟩ := laws_szIntSS.ev l c hl hx h0 h1
  simp only [laws_szGame.f]
  by_cases hc : r < 0
  · exact ⟨-1, by omega, by rw [ev_bind hr2, ev_pos hc, ev_now], fun h => by omega⟩
  · exact ⟨r, hr1, by rw [ev_bind hr2, ev_neg hc, ev_now], hr3⟩
theorem laws_toGame.ev (n : Int) (l : List (List Int)) (hl : l.length ≤ 11728124029610) (hx : ∀ x ∈ l, x.length ≤ 35184372088832) : Ev (fun k => laws_toGame.f k n l) (n, l) := by
  simp only [laws_toGame.f]
  rw [ev_bind (laws_toIntSS.ev l hl hx), ev_now]
theorem laws_eqGame.ev_same (n : Int) (l : List (List Int)) (hl : l.length ≤ 9223372036854775807) (hx : ∀ x ∈ l, x.length ≤ 9223372036854775807) : Ev (fun k => laws_eqGame.f k n l n l) true := by
  simp only [laws_eqGame.f]
  rw [ev_pos trivial, ev_bind (laws_eqIntSS.ev l l hl hx), ev_pos (by simp), ev_now]
end Go.Proofs.Yticnoiflccbhcaa.Q

namespace Go.Proofs.Yticnoiflccbhcaa.Q
open Go.RowKit Go.Proofs.YticnoiflccbhcaaW.PrintWords Go.Proofs.YticnoiflccbhcaaW.PrintLast Go.Proofs.YticnoiflccbhcaaW.PrintMore Go.Proofs.YticnoiflccbhcaaM
set_option linter.unusedVariables false
set_option linter.unusedSimpArgs false
theorem spec_voBefore.ev_l (a b : List Int) (ha : a.length ≤ 9223372036854775807) : ∀ (d i : Nat), i + d = a.length → i ≤ b.length → Ev (fun k => spec_voBefore.l0 k a b (i : Int)) (decide (cmpL (a.drop i) (b.drop i) < 0)) := by
  intro d
  induction d with
  | zero =>
    intro i h hb
    refine ev_step ?_
    simp only [spec_voBefore.l0]
    rw [ev_neg (by omega)]
    refine ev_step ?_
    simp only [spec_voBefore.j1]
    rw [ev_neg (by simp), ev_now, List.drop_of_length_le (by omega)]
    by_cases hc : (a.length : Int) < (b.length : Int)
    · rw [decide_eq_true hc, List.drop_eq_getElem_cons (by omega)]
      rfl
    · rw [decide_eq_false hc, List.drop_of_length_le (by omega)]
      rfl
  | succ d ih =>
    intro i h hb
    refine ev_step ?_
    simp only [spec_voBefore.l0]
    have hi : i < a.length := by omega
    rw [ev_pos (by omega)]
    refine ev_step ?_
    simp only [spec_voBefore.j1]
    by_cases hc : (i : Int) < (b.length : Int)
    · have hib : i < b.length := by omega
      rw [ev_pos (decide_eq_true hc), ev_pos (by omega), ev_pos (by omega), ev_pos (by omega), rd_lt a i hi, rd_lt b i hib, w64i (n := a.length) (by omega) (by omega) ha, List.drop_eq_getElem_cons hi, List.drop_eq_getElem_cons hib]
      by_cases h1 : a[i] = b[i]
      · have e : cmpL (a[i] :: a.drop (i + 1)) (b[i] :: b.drop (i + 1)) = cmpL (a.drop (i + 1)) (b.drop (i + 1)) := by simp only [cmpL]; rw [if_neg (by omega), if_neg (by omega)]
        rw [ev_pos h1, e]
        exact ih (i + 1) (by omega) (by omega)
      · rw [ev_neg h1, ev_now]
        by_cases h2 : a[i] < b[i]
        · have e : cmpL (a[i] :: a.drop (i + 1)) (b[i] :: b.drop (i + 1)) = -1 := by simp only [cmpL]; rw [if_pos h2]
          rw [e, decide_eq_true h2]; rfl
        · have e : cmpL (a[i] :: a.drop (i + 1)) (b[i] :: b.drop (i + 1)) = 1 := by simp only [cmpL]; rw [if_neg h2, if_pos (by omega)]
          rw [e, decide_eq_false h2]; rfl
    · rw [ev_neg (by simp; omega), ev_now, List.drop_eq_getElem_cons hi, List.drop_of_length_le (by omega : b.length ≤ i), decide_eq_false (by omega)]
      rfl
theorem spec_voBefore.ev (a b : List Int) (ha : a.length ≤ 9223372036854775807) : Ev (fun k => spec_voBefore.f k a b) (decide (cmpL a b < 0)) := spec_voBefore.ev_l a b ha a.length 0 (by omega) (by omega)
end Go.Proofs.Yticnoiflccbhcaa.Q

namespace Go.Proofs.Yticnoiflccbhcaa.Q
open Go.RowKit Go.Proofs.YticnoiflccbhcaaW.PrintWords Go.Proofs.YticnoiflccbhcaaW.PrintLast Go.Proofs.YticnoiflccbhcaaW.PrintMore Go.Proofs.YticnoiflccbhcaaM
set_option linter.unusedVariables false
set_option linter.unusedSimpArgs false
theorem spec_voBits.ev_l (l : List Int) (hl : l.length ≤ 9223372036854775807) (hx : ∀ x ∈ l, 0 ≤ x ∧ x ≤ 60) : ∀ (d i m : Nat), i + d = l.length → m < 2 ^ 61 → Ev (fun k => spec_voBits.l0 k (m : Int) l (l.length : Int) (i : Int)) ((orBits m (l.drop i) : Nat) : Int) := by
  intro d
  induction d with
  | zero =>
    intro i m h hm
    refine ev_step ?_
    simp only [spec_voBits.l0]
    rw [ev_neg (by omega), ev_now, List.drop_of_length_le (by omega)]
    rfl
  | succ d ih =>
    intro i m h hm
    refine ev_step ?_
    simp only [spec_voBits.l0]
    have hi : i < l.length := by omega
    have hxi := hx l[i] (List.getElem_mem hi)
    obtain ⟨c, hc⟩ := Int.eq_ofNat_of_zero_le hxi.1
    have hp : 2 ^ c ≤ 2 ^ 60 := Nat.pow_le_pow_right (by omega) (by omega)
    have ho : m ||| 2 ^ c < 2 ^ 61 := Nat.or_lt_two_pow hm (by omega)
    rw [ev_pos (by omega), ev_pos (by omega), ev_pos (by omega), rd_lt l i hi, hc, ev_pos (by omega), w64i (n := l.length) (by omega) (by omega) hl, shl_one c (by omega), or_nat m (2 ^ c) (by omega) (by omega)]
    have := ih (i + 1) (m ||| 2 ^ c) (by omega) ho
    rw [List.drop_eq_getElem_cons hi]
    show Ev _ ((orBits (m ||| 2 ^ l[i].toNat) (l.drop (i + 1)) : Nat) : Int)
    rw [hc]
    exact this
theorem spec_voBits.ev (l : List Int) (hl : l.length ≤ 9223372036854775807) (hx : ∀ x ∈ l, 0 ≤ x ∧ x ≤ 60) : Ev (fun k => spec_voBits.f k l) ((maskN l : Nat) : Int) := spec_voBits.ev_l l hl hx l.length 0 0 (by omega) (by omega)
end Go.Proofs.Yticnoiflccbhcaa.Q

namespace Go.Proofs.Yticnoiflccbhcaa.Q
open Go.RowKit Go.Proofs.YticnoiflccbhcaaW.PrintWords Go.Proofs.YticnoiflccbhcaaW.PrintLast Go.Proofs.YticnoiflccbhcaaW.PrintMore Go.Proofs.YticnoiflccbhcaaM
set_option linter.unusedVariables false
set_option linter.unusedSimpArgs false
theorem spec_voSum.ev_l (l : List Int) (hl : l.length ≤ 9223372036854775807) : ∀ (d i : Nat) (s : Int), i + d = l.length → Ev (fun k => spec_voSum.l0 k s l (l.length : Int) (i : Int)) (wfold (l.drop i) s) := by
  intro d
  induction d with
  | zero =>
    intro i s h
    refine ev_step ?_
    simp only [spec_voSum.l0]
    rw [ev_neg (by omega), ev_now, List.drop_of_length_le (by omega)]
    rfl
  | succ d ih =>
    intro i s h
    refine ev_step ?_
    simp only [spec_voSum.l0]
    have hi : i < l.length := by omega
    rw [ev_pos (by omega), ev_pos (by omega), ev_pos (by omega), w64i (n := l.length) (by omega) (by omega) hl, rd_lt l i hi, wfold_take l i hi]
    exact ih (i + 1) _ (by omega)
theorem spec_voSum.ev (l : List Int) (hl : l.length ≤ 9223372036854775807) : Ev (fun k => spec_voSum.f k l) (wfold l 0) := spec_voSum.ev_l l hl l.length 0 0 (by omega)
end Go.Proofs.Yticnoiflccbhcaa.Q

namespace Go.Proofs.Yticnoiflccbhcaa.Q
open Go.RowKit Go.Proofs.YticnoiflccbhcaaX Go.Proofs.YticnoiflccbhcaaW.PrintWords Go.Proofs.YticnoiflccbhcaaW.PrintLast Go.Proofs.YticnoiflccbhcaaW.PrintMore
attribute [local go_sem] max2_int min2_int max_two min_two max_three min_three max_four min_four   -- for this text's walks alone
set_option linter.unusedVariables false
set_option linter.unusedSimpArgs false

/-! ### spec_voGood: function 55 -/
def spec_voGood.j0 : Nat → Bool → Int → List Int → Option (Bool)
 | 0, _, _, _ => none
 | k + 1, x13, x102000, x102001 => if x13 = true then (some false) else ((spec_voSum.f k x102001).bind fun t104 => ((spec_l1In.f x102000 1 t104).bind fun t105 => (some t105)))
def spec_voGood.f (k : Nat) (a0_0 : Int) (l0_1 : List Int) : Option (Bool) := (spec_l1In.f (l0_1.length : Int) 1 9).bind fun t102 => (if t102 = true then ((spec_l1All.f k l0_1 0 1000).bind fun t103 => (spec_voGood.j0 k (!t103) a0_0 l0_1)) else (spec_voGood.j0 k true a0_0 l0_1))
theorem spec_voGood.mono_l : ∀ k, (∀ y0 y1 y2, LeO (spec_voGood.j0 k y0 y1 y2) (spec_voGood.j0 (k + 1) y0 y1 y2))
 | 0 => fun _ _ _ r h => by simp [spec_voGood.j0] at h
 | k + 1 => by
  have ih0 := spec_voGood.mono_l k
  ·intro y0 y1 y2
   unfold spec_voGood.j0
   repeat' first
   | (with_reducible exact ih0 _ _ _)
   | (with_reducible exact spec_l1All.mono _ _ _ _)
   | (with_reducible exact spec_voSum.mono _ _)
   | (with_reducible exact LeO.refl _)
   | (with_reducible exact LeO.none _)
   | (with_reducible refine LeO.ite ?_ ?_)
   | (with_reducible refine LeO.bind ?_ (fun _ => ?_))
   | exact ih0 _ _ _
   | exact spec_l1All.mono _ _ _ _
   | exact spec_voSum.mono _ _
   | exact LeO.none _
   | refine LeO.ite ?_ ?_
   | refine LeO.bind ?_ (fun _ => ?_)
theorem spec_voGood.mono : ∀ a0 a1 k, LeO (spec_voGood.f k a0 a1) (spec_voGood.f (k + 1) a0 a1) := by
 intro a0 a1 k
 have ih0 := spec_voGood.mono_l k
 unfold spec_voGood.f
 repeat' first
   | (with_reducible exact ih0 _ _ _)
   | (with_reducible exact spec_l1All.mono _ _ _ _)
   | (with_reducible exact spec_voSum.mono _ _)
   | (with_reducible exact LeO.refl _)
   | (with_reducible exact LeO.none _)
   | (with_reducible refine LeO.ite ?_ ?_)
   | (with_reducible refine LeO.bind ?_ (fun _ => ?_))
   | exact ih0 _ _ _
   | exact spec_l1All.mono _ _ _ _
   | exact spec_voSum.mono _ _
   | exact LeO.none _
   | refine LeO.ite ?_ ?_
   | refine LeO.bind ?_ (fun _ => ?_)
set_option maxHeartbeats 8000000 in
set_option maxRecDepth 100000 in
theorem spec_voGood.calls (k : Nat) (a0_0 : Int) (A0_1 : Option Addr) (c0_1 : Nat) (l0_1 : List Int) (r : Bool) (w : World) (hr0_1 : Kd.C (Kd.int .i64) w A0_1 l0_1.length l0_1) (hc0_1 : l0_1.length ≤ c0_1) (h : spec_voGood.f k a0_0 l0_1 = some r) :
  Calls Try.prog 55 #[.agg #[.int .i64 a0_0, .slice A0_1 l0_1.length c0_1]] w fun e w' => e = .returned (.bool r) ∧ Below w.heap.size w w' := by
 have hu26 := Try.underlying26
 have HR0_1 := Aside0.mk hr0_1
 have HC0_1 := Aside0.mk hc0_1
 clear hr0_1 hc0_1
 have HB := Aside0.mk (Below.refl w.heap.size w)
 have H : ((spec_l1In.f (l0_1.length : Int) 1 9).bind fun t102 => (if t102 = true then ((spec_l1All.f k l0_1 0 1000).bind fun t103 => (spec_voGood.j0 k (!t103) a0_0 l0_1)) else (spec_voGood.j0 k true a0_0 l0_1))) = some r := h
 clear h
 have HC2 := Aside0.mk H
 clear H
 go_enter Try.func55, Try.ntmps55
 go_upto_region 1 with (first | ((with_reducible refine gate_dst (N := 1) rfl ?_); refine box_event ?hg (N := 1) ?hd (cs := #[.int .i64 a0_0, .slice A0_1 l0_1.length c0_1]) (t := 26) ?hr ?_; (case hd => rfl); (case hg => rfl); (case hr => first | (go_simp; done) | (go_simp; rfl)); intro gb101 hg w3 hbox hb; have n0_ := Aside0.mk (below_step (by repeat (first | (with_reducible first | exact HB.out | apply ba | apply bd | apply be) | exact HB.out)) hb); have n1_ := Aside0.mk (hbox); have n2_ := Aside0.mk ((by rw [hg]; exact (below_size (by repeat (first | (with_reducible first | exact HB.out | apply ba | apply bd | apply be) | exact HB.out))) : w.heap.size ≤ gb101)); have n3_ := Aside0.mk ((by rw [hg]; exact (below_size (by repeat (first | (with_reducible first | exact HB.out | apply ba | apply bd | apply be) | exact HB.out))) : w.heap.size ≤ gb101)); clear HB; have HB := n0_; have BK101 := n1_; have GW101 := n2_; have GE101 := n3_; clear n0_ n1_ n2_ n3_; clear hb hbox hg))
 repeat (go_quiet (first | ((with_reducible refine gate_dst (N := 1) rfl ?_); refine box_event ?hg (N := 1) ?hd (cs := #[.int .i64 a0_0, .slice A0_1 l0_1.length c0_1]) (t := 26) ?hr ?_; (case hd => rfl); (case hg => rfl); (case hr => first | (go_simp; done) | (go_simp; rfl)); intro gb101 hg w3 hbox hb; have n0_ := Aside0.mk (below_step (by repeat (first | (with_reducible first | exact HB.out | apply ba | apply bd | apply be) | exact HB.out)) hb); have n1_ := Aside0.mk (hbox); have n2_ := Aside0.mk ((by rw [hg]; exact (below_size (by repeat (first | (with_reducible first | exact HB.out | apply ba | apply bd | apply be) | exact HB.out))) : w.heap.size ≤ gb101)); have n3_ := Aside0.mk ((by rw [hg]; exact (below_size (by repeat (first | (with_reducible first | exact HB.out | apply ba | apply bd | apply be) | exact HB.out))) : w.heap.size ≤ gb101)); clear HB; have HB := n0_; have BK101 := n1_; have GW101 := n2_; have GE101 := n3_; clear n0_ n1_ n2_ n3_; clear hb hbox hg)); go_upto_region 1 with (first | ((with_reducible refine gate_dst (N := 1) rfl ?_); refine box_event ?hg (N := 1) ?hd (cs := #[.int .i64 a0_0, .slice A0_1 l0_1.length c0_1]) (t := 26) ?hr ?_; (case hd => rfl); (case hg => rfl); (case hr => first | (go_simp; done) | (go_simp; rfl)); intro gb101 hg w3 hbox hb; have n0_ := Aside0.mk (below_step (by repeat (first | (with_reducible first | exact HB.out | apply ba | apply bd | apply be) | exact HB.out)) hb); have n1_ := Aside0.mk (hbox); have n2_ := Aside0.mk ((by rw [hg]; exact (below_size (by repeat (first | (with_reducible first | exact HB.out | apply ba | apply bd | apply be) | exact HB.out))) : w.heap.size ≤ gb101)); have n3_ := Aside0.mk ((by rw [hg]; exact (below_size (by repeat (first | (with_reducible first | exact HB.out | apply ba | apply bd | apply be) | exact HB.out))) : w.heap.size ≤ gb101)); clear HB; have HB := n0_; have BK101 := n1_; have GW101 := n2_; have GE101 := n3_; clear n0_ n1_ n2_ n3_; clear hb hbox hg)))
 (try simp only [Act.put, sA, sZ, sS])
 go_cut [13] (fun v13 wc => ∃ (kq : Nat) (x13_1 : Bool), v13 = .bool x13_1 ∧ Aside0 (spec_voGood.j0 kq x13_1 a0_0 l0_1 = some r) ∧ Aside0 (kq ≤ k) ∧ Aside0 (wc.heap[gb101]? = some (.cells #[.int .i64 a0_0, (.slice A0_1 l0_1.length c0_1)] 26 (0, 0))) ∧ Aside0 (Below w.heap.size w wc))
 case first =>
  have H := HC2.out
  clear HC2
  replace H := oB H
  obtain ⟨t102, A40, H⟩ := H
  replace H : (if t102 = true then ((spec_l1All.f k l0_1 0 1000).bind fun t103 => (spec_voGood.j0 k (!t103) a0_0 l0_1)) else (spec_voGood.j0 k true a0_0 l0_1)) = some r := H
  have A4 := Aside0.mk A40
  clear A40
  by_cases c5 : t102 = true
  ·subst c5
   have H1 : ((spec_l1All.f k l0_1 0 1000).bind fun t103 => (spec_voGood.j0 k (!t103) a0_0 l0_1)) = some r := by rw [if_pos rfl] at H; exact H
   clear H
   have H := H1
   clear H1
   replace H := oB H
   obtain ⟨t103, A60, H⟩ := H
   replace H : (spec_voGood.j0 k (!t103) a0_0 l0_1) = some r := H
   have A6 := Aside0.mk A60
   clear A60
   have H' := Aside0.mk H
   clear H
   have hcz7_0 : w3.cell? ⟨gb101, 0, none⟩ = some (.int .i64 a0_0) := (blk_cell BK101.out 0).trans rfl
   have hcz7_1 : w3.cell? ⟨gb101, 1, none⟩ = some (.slice A0_1 l0_1.length c0_1) := (blk_cell BK101.out 1).trans rfl
   have hfz7_0 := blk_frozen BK101.out 0
   have hfz7_1 := blk_frozen BK101.out 1
   go_wp2_with (first | (go_at_call 99; (with_reducible refine (spec_l1In.calls (l0_1.length : Int) 1 9 true _ A4.out).mono ?_); rintro e w' ⟨rfl, ⟨nd, rfl⟩⟩; (try first | exact ⟨rfl, _, World.drewN_drewN _ _ _⟩ | exact ⟨rfl, _, Eq.trans (World.drewN_drewN _ _ _) (congrArg (World.drewN _) (Nat.add_assoc _ _ _))⟩)) | (go_at_call 65; (with_reducible refine (spec_l1All.calls k _ _ l0_1 0 1000 t103 _ ?side1 ?side2 A6.out).mono ?_); (case side1 => repeat (first | exact (Kd.C_below HR0_1.out (by repeat (first | (with_reducible first | exact HB.out | apply ba | apply bd | apply be | refine bs ?_ GE101.out) | exact HB.out))) | (with_reducible refine Kd.C_alloc ?_ _) | (with_reducible refine Kd.C_drewN ?_ _) | (with_reducible refine Kd.C_drew ?_))); (case side2 => exact HC0_1.out); rintro e w' ⟨rfl, ⟨nd, rfl⟩⟩; (try first | exact ⟨rfl, _, World.drewN_drewN _ _ _⟩ | exact ⟨rfl, _, Eq.trans (World.drewN_drewN _ _ _) (congrArg (World.drewN _) (Nat.add_assoc _ _ _))⟩)))
   repeat (go_quiet (first | (go_at_call 99; (with_reducible refine (spec_l1In.calls (l0_1.length : Int) 1 9 true _ A4.out).mono ?_); rintro e w' ⟨rfl, ⟨nd, rfl⟩⟩; (try first | exact ⟨rfl, _, World.drewN_drewN _ _ _⟩ | exact ⟨rfl, _, Eq.trans (World.drewN_drewN _ _ _) (congrArg (World.drewN _) (Nat.add_assoc _ _ _))⟩)) | (go_at_call 65; (with_reducible refine (spec_l1All.calls k _ _ l0_1 0 1000 t103 _ ?side1 ?side2 A6.out).mono ?_); (case side1 => repeat (first | exact (Kd.C_below HR0_1.out (by repeat (first | (with_reducible first | exact HB.out | apply ba | apply bd | apply be | refine bs ?_ GE101.out) | exact HB.out))) | (with_reducible refine Kd.C_alloc ?_ _) | (with_reducible refine Kd.C_drewN ?_ _) | (with_reducible refine Kd.C_drew ?_))); (case side2 => exact HC0_1.out); rintro e w' ⟨rfl, ⟨nd, rfl⟩⟩; (try first | exact ⟨rfl, _, World.drewN_drewN _ _ _⟩ | exact ⟨rfl, _, Eq.trans (World.drewN_drewN _ _ _) (congrArg (World.drewN _) (Nat.add_assoc _ _ _))⟩))); try go_wp2_with (first | (go_at_call 99; (with_reducible refine (spec_l1In.calls (l0_1.length : Int) 1 9 true _ A4.out).mono ?_); rintro e w' ⟨rfl, ⟨nd, rfl⟩⟩; (try first | exact ⟨rfl, _, World.drewN_drewN _ _ _⟩ | exact ⟨rfl, _, Eq.trans (World.drewN_drewN _ _ _) (congrArg (World.drewN _) (Nat.add_assoc _ _ _))⟩)) | (go_at_call 65; (with_reducible refine (spec_l1All.calls k _ _ l0_1 0 1000 t103 _ ?side1 ?side2 A6.out).mono ?_); (case side1 => repeat (first | exact (Kd.C_below HR0_1.out (by repeat (first | (with_reducible first | exact HB.out | apply ba | apply bd | apply be | refine bs ?_ GE101.out) | exact HB.out))) | (with_reducible refine Kd.C_alloc ?_ _) | (with_reducible refine Kd.C_drewN ?_ _) | (with_reducible refine Kd.C_drew ?_))); (case side2 => exact HC0_1.out); rintro e w' ⟨rfl, ⟨nd, rfl⟩⟩; (try first | exact ⟨rfl, _, World.drewN_drewN _ _ _⟩ | exact ⟨rfl, _, Eq.trans (World.drewN_drewN _ _ _) (congrArg (World.drewN _) (Nat.add_assoc _ _ _))⟩))))
   go_meet
   case rel => exact ⟨_, (!t103), (by first | rfl | (simp; done) | (simp [*]; done)), H', ⟨by first | omega | exact Nat.le_refl _⟩, ⟨by (first | exact bp BK101.out | exact BK101.out)⟩, ⟨by repeat (first | (with_reducible first | exact HB.out | apply ba | apply bd | apply be | refine bs ?_ GE101.out) | exact HB.out)⟩⟩
  ·replace c5 := Bool.eq_false_iff.mpr c5
   subst c5
   have H1 : (spec_voGood.j0 k true a0_0 l0_1) = some r := by rw [if_neg (show ¬ (false = true) by decide)] at H; exact H
   clear H
   have H := H1
   clear H1
   have H' := Aside0.mk H
   clear H
   have hcz8_0 : w3.cell? ⟨gb101, 0, none⟩ = some (.int .i64 a0_0) := (blk_cell BK101.out 0).trans rfl
   have hcz8_1 : w3.cell? ⟨gb101, 1, none⟩ = some (.slice A0_1 l0_1.length c0_1) := (blk_cell BK101.out 1).trans rfl
   have hfz8_0 := blk_frozen BK101.out 0
   have hfz8_1 := blk_frozen BK101.out 1
   go_wp2_with (first | (go_at_call 99; (with_reducible refine (spec_l1In.calls (l0_1.length : Int) 1 9 false _ A4.out).mono ?_); rintro e w' ⟨rfl, ⟨nd, rfl⟩⟩; (try first | exact ⟨rfl, _, World.drewN_drewN _ _ _⟩ | exact ⟨rfl, _, Eq.trans (World.drewN_drewN _ _ _) (congrArg (World.drewN _) (Nat.add_assoc _ _ _))⟩)))
   repeat (go_quiet (first | (go_at_call 99; (with_reducible refine (spec_l1In.calls (l0_1.length : Int) 1 9 false _ A4.out).mono ?_); rintro e w' ⟨rfl, ⟨nd, rfl⟩⟩; (try first | exact ⟨rfl, _, World.drewN_drewN _ _ _⟩ | exact ⟨rfl, _, Eq.trans (World.drewN_drewN _ _ _) (congrArg (World.drewN _) (Nat.add_assoc _ _ _))⟩))); try go_wp2_with (first | (go_at_call 99; (with_reducible refine (spec_l1In.calls (l0_1.length : Int) 1 9 false _ A4.out).mono ?_); rintro e w' ⟨rfl, ⟨nd, rfl⟩⟩; (try first | exact ⟨rfl, _, World.drewN_drewN _ _ _⟩ | exact ⟨rfl, _, Eq.trans (World.drewN_drewN _ _ _) (congrArg (World.drewN _) (Nat.add_assoc _ _ _))⟩))))
   go_meet
   case rel => exact ⟨_, (true), (by first | rfl | (simp; done) | (simp [*]; done)), H', ⟨by first | omega | exact Nat.le_refl _⟩, ⟨by (first | exact bp BK101.out | exact BK101.out)⟩, ⟨by repeat (first | (with_reducible first | exact HB.out | apply ba | apply bd | apply be | refine bs ?_ GE101.out) | exact HB.out)⟩⟩
 case rest =>
  clear HC2
  try clear p2
  try clear c5
  try clear hcz7_0
  try clear hcz7_1
  try clear hcz8_0
  try clear hcz8_1
  try clear hfz7_0
  try clear hfz7_1
  try clear hfz8_0
  try clear hfz8_1
  obtain ⟨kq, x13_1, rfl, HA, HJ1, BK101, HB⟩ := hcut
  cases kq with
  | zero => exact absurd HA.out (by simp [spec_voGood.j0])
  | succ kj1 =>
   have H := HA.out
   clear HA
   simp only [spec_voGood.j0] at H
   by_cases c9 : x13_1 = true
   ·subst c9
    have H1 : (some false) = some r := by rw [if_pos rfl] at H; exact H
    clear H
    have H := H1
    clear H1
    obtain rfl := Option.some.inj H
    go_wp2
    repeat (go_quiet (fail); try go_wp2)
    go_ret
    exact ⟨by first | rfl | (simp <;> rfl) | (simp [*] <;> rfl), by repeat (first | (with_reducible first | exact HB.out | apply ba | apply bd | apply be | refine bs ?_ GE101.out) | exact HB.out)⟩
   ·replace c9 := Bool.eq_false_iff.mpr c9
    subst c9
    have H1 : ((spec_voSum.f kj1 l0_1).bind fun t104 => ((spec_l1In.f a0_0 1 t104).bind fun t105 => (some t105))) = some r := by rw [if_neg (show ¬ (false = true) by decide)] at H; exact H
    clear H
    have H := H1
    clear H1
    replace H := oB H
    obtain ⟨t104, A100, H⟩ := H
    replace H : ((spec_l1In.f a0_0 1 t104).bind fun t105 => (some t105)) = some r := H
    have A10 := Aside0.mk A100
    clear A100
    replace H := oB H
    obtain ⟨t105, A110, H⟩ := H
    replace H : (some t105) = some r := H
    have A11 := Aside0.mk A110
    clear A110
    obtain rfl := Option.some.inj H
    have hcz12_0 : wc.cell? ⟨gb101, 0, none⟩ = some (.int .i64 a0_0) := (blk_cell BK101.out 0).trans rfl
    have hcz12_1 : wc.cell? ⟨gb101, 1, none⟩ = some (.slice A0_1 l0_1.length c0_1) := (blk_cell BK101.out 1).trans rfl
    have hfz12_0 := blk_frozen BK101.out 0
    have hfz12_1 := blk_frozen BK101.out 1
    go_wp2_with (first | (go_at_call 66; (with_reducible refine (spec_voSum.calls kj1 _ _ l0_1 t104 _ ?side1 ?side2 A10.out).mono ?_); (case side1 => repeat (first | exact (Kd.C_below HR0_1.out HB.out) | (with_reducible refine Kd.C_alloc ?_ _) | (with_reducible refine Kd.C_drewN ?_ _) | (with_reducible refine Kd.C_drew ?_))); (case side2 => exact HC0_1.out); rintro e w' ⟨rfl, ⟨nd, rfl⟩⟩; (try first | exact ⟨rfl, _, World.drewN_drewN _ _ _⟩ | exact ⟨rfl, _, Eq.trans (World.drewN_drewN _ _ _) (congrArg (World.drewN _) (Nat.add_assoc _ _ _))⟩)) | (go_at_call 99; (with_reducible refine (spec_l1In.calls a0_0 1 t104 t105 _ A11.out).mono ?_); rintro e w' ⟨rfl, ⟨nd, rfl⟩⟩; (try first | exact ⟨rfl, _, World.drewN_drewN _ _ _⟩ | exact ⟨rfl, _, Eq.trans (World.drewN_drewN _ _ _) (congrArg (World.drewN _) (Nat.add_assoc _ _ _))⟩)))
    repeat (go_quiet (first | (go_at_call 66; (with_reducible refine (spec_voSum.calls kj1 _ _ l0_1 t104 _ ?side1 ?side2 A10.out).mono ?_); (case side1 => repeat (first | exact (Kd.C_below HR0_1.out HB.out) | (with_reducible refine Kd.C_alloc ?_ _) | (with_reducible refine Kd.C_drewN ?_ _) | (with_reducible refine Kd.C_drew ?_))); (case side2 => exact HC0_1.out); rintro e w' ⟨rfl, ⟨nd, rfl⟩⟩; (try first | exact ⟨rfl, _, World.drewN_drewN _ _ _⟩ | exact ⟨rfl, _, Eq.trans (World.drewN_drewN _ _ _) (congrArg (World.drewN _) (Nat.add_assoc _ _ _))⟩)) | (go_at_call 99; (with_reducible refine (spec_l1In.calls a0_0 1 t104 t105 _ A11.out).mono ?_); rintro e w' ⟨rfl, ⟨nd, rfl⟩⟩; (try first | exact ⟨rfl, _, World.drewN_drewN _ _ _⟩ | exact ⟨rfl, _, Eq.trans (World.drewN_drewN _ _ _) (congrArg (World.drewN _) (Nat.add_assoc _ _ _))⟩))); try go_wp2_with (first | (go_at_call 66; (with_reducible refine (spec_voSum.calls kj1 _ _ l0_1 t104 _ ?side1 ?side2 A10.out).mono ?_); (case side1 => repeat (first | exact (Kd.C_below HR0_1.out HB.out) | (with_reducible refine Kd.C_alloc ?_ _) | (with_reducible refine Kd.C_drewN ?_ _) | (with_reducible refine Kd.C_drew ?_))); (case side2 => exact HC0_1.out); rintro e w' ⟨rfl, ⟨nd, rfl⟩⟩; (try first | exact ⟨rfl, _, World.drewN_drewN _ _ _⟩ | exact ⟨rfl, _, Eq.trans (World.drewN_drewN _ _ _) (congrArg (World.drewN _) (Nat.add_assoc _ _ _))⟩)) | (go_at_call 99; (with_reducible refine (spec_l1In.calls a0_0 1 t104 t105 _ A11.out).mono ?_); rintro e w' ⟨rfl, ⟨nd, rfl⟩⟩; (try first | exact ⟨rfl, _, World.drewN_drewN _ _ _⟩ | exact ⟨rfl, _, Eq.trans (World.drewN_drewN _ _ _) (congrArg (World.drewN _) (Nat.add_assoc _ _ _))⟩))))
    go_ret
    exact ⟨by first | rfl | (simp <;> rfl) | (simp [*] <;> rfl), by repeat (first | (with_reducible first | exact HB.out | apply ba | apply bd | apply be | refine bs ?_ GE101.out) | exact HB.out)⟩

end Go.Proofs.Yticnoiflccbhcaa.Q

namespace Go.Proofs.Yticnoiflccbhcaa.Q
open Go.RowKit Go.Proofs.YticnoiflccbhcaaW.PrintWords Go.Proofs.YticnoiflccbhcaaW.PrintLast Go.Proofs.YticnoiflccbhcaaW.PrintMore Go.Proofs.YticnoiflccbhcaaM
set_option linter.unusedVariables false
set_option linter.unusedSimpArgs false
theorem spec_l1In.v (a b c : Int) : spec_l1In.f a b c = some (decide (b ≤ a) && decide (a ≤ c)) := by
  unfold spec_l1In.f
  by_cases h : b ≤ a
  · rw [if_pos h]; simp [h]
  · rw [if_neg h]; simp [h]
theorem spec_l1All.ev_l (l : List Int) (lo hi : Int) (hl : l.length ≤ 9223372036854775807) : ∀ (d i : Nat), i + d = l.length → Ev (fun k => spec_l1All.l0 k lo hi l (l.length : Int) (i : Int)) ((l.drop i).all fun x => decide (lo ≤ x) && decide (x ≤ hi)) := by
  intro d
  induction d with
  | zero =>
    intro i h
    refine ev_step ?_
    simp only [spec_l1All.l0]
    rw [ev_neg (by omega), ev_now, List.drop_of_length_le (by omega)]
    rfl
  | succ d ih =>
    intro i h
    refine ev_step ?_
    simp only [spec_l1All.l0]
    have hi' : i < l.length := by omega
    rw [ev_pos (by omega), ev_pos (by omega), ev_pos (by omega), w64i (n := l.length) (by omega) (by omega) hl, rd_lt l i hi', List.drop_eq_getElem_cons hi', List.all_cons, ev_bind (ev_of (spec_l1In.v _ _ _))]
    cases hb : (decide (lo ≤ l[i]) && decide (l[i] ≤ hi)) with
    | true =>
      rw [ev_pos rfl, Bool.true_and]
      exact ih (i + 1) (by omega)
    | false =>
      rw [ev_neg (by decide), ev_now]
      rfl
theorem spec_l1All.ev (l : List Int) (lo hi : Int) (hl : l.length ≤ 9223372036854775807) : Ev (fun k => spec_l1All.f k l lo hi) (l.all fun x => decide (lo ≤ x) && decide (x ≤ hi)) := spec_l1All.ev_l l lo hi hl l.length 0 (by omega)
theorem spec_voGood.ev (q : Int) (l : List Int) (hl : l.length ≤ 9223372036854775807) : Ev (fun k => spec_voGood.f k q l) (goodB q l) := by
  simp only [spec_voGood.f]
  rw [ev_bind (ev_of (spec_l1In.v _ _ _))]
  unfold goodB
  by_cases h1 : 1 ≤ (l.length : Int) ∧ (l.length : Int) ≤ 9
  · rw [ev_pos (by simp [h1]), ev_bind (spec_l1All.ev l 0 1000 hl)]
    refine ev_step ?_
    simp only [spec_voGood.j0]
    cases hb : (l.all fun x => decide (0 ≤ x) && decide (x ≤ 1000)) with
    | true =>
      rw [ev_neg (by simp), ev_bind (spec_voSum.ev l hl), ev_bind (ev_of (spec_l1In.v _ _ _)), ev_now, wfold_w l (by omega) hb]
      have e1 : 1 ≤ l.length := by omega
      have e2 : l.length ≤ 9 := by omega
      simp [e1, e2]
    | false =>
      rw [ev_pos (by simp), ev_now]
      simp
  · rw [ev_neg (by simpa using h1)]
    refine ev_step ?_
    simp only [spec_voGood.j0]
    rw [ev_pos (by simp), ev_now]
    have : ¬ (1 ≤ l.length ∧ l.length ≤ 9) := by omega
    by_cases e1 : 1 ≤ l.length
    · have e2 : ¬ l.length ≤ 9 := by omega
      simp [e2]
    · simp [e1]
end Go.Proofs.Yticnoiflccbhcaa.Q

namespace Go.Proofs.Yticnoiflccbhcaa.Q
open Go.RowKit Go.Proofs.YticnoiflccbhcaaW.PrintWords Go.Proofs.YticnoiflccbhcaaW.PrintLast Go.Proofs.YticnoiflccbhcaaW.PrintMore Go.Proofs.YticnoiflccbhcaaM
set_option linter.unusedVariables false
set_option linter.unusedSimpArgs false
theorem spec_l1Rising.ev_l (l : List Int) (lo hi : Int) (hl : l.length ≤ 9223372036854775807) : ∀ (d i : Nat), i + d = l.length → Ev (fun k => spec_l1Rising.l0 k l lo hi l (l.length : Int) (i : Int)) (((l.drop i).all fun x => decide (lo ≤ x) && decide (x ≤ hi)) && incB (l.drop (i - 1))) := by
  intro d
  induction d with
  | zero =>
    intro i h
    refine ev_step ?_
    simp only [spec_l1Rising.l0]
    rw [ev_neg (by omega), ev_now, incB_short (by rw [List.length_drop]; omega), List.drop_of_length_le (by omega)]
    rfl
  | succ d ih =>
    intro i h
    refine ev_step ?_
    simp only [spec_l1Rising.l0]
    have hi' : i < l.length := by omega
    rw [ev_pos (by omega), ev_pos (by omega), ev_pos (by omega), w64i (n := l.length) (by omega) (by omega) hl, rd_lt l i hi', ev_bind (ev_of (spec_l1In.v _ _ _)), show (l.drop i).all (fun x => decide (lo ≤ x) && decide (x ≤ hi)) = ((decide (lo ≤ l[i]) && decide (l[i] ≤ hi)) && (l.drop (i + 1)).all fun x => decide (lo ≤ x) && decide (x ≤ hi)) by rw [List.drop_eq_getElem_cons hi', List.all_cons]]
    cases hb : (decide (lo ≤ l[i]) && decide (l[i] ≤ hi)) with
    | false =>
      rw [ev_neg (by decide), ev_now]
      simp
    | true =>
      rw [ev_pos rfl, Bool.true_and]
      by_cases h0 : i = 0
      · subst h0
        rw [ev_neg (by omega)]
        exact ih 1 (by omega)
      · have e1 : (i : Int) - 1 = ((i - 1 : Nat) : Int) := by omega
        rw [ev_pos (by omega), w64 (by omega) (by omega), e1, ev_pos (by omega), ev_pos (by omega), rd_lt l (i - 1) (by omega), incB_at l i (by omega) hi']
        by_cases hc : l[i - 1] ≥ l[i]
        · rw [ev_pos hc, ev_now, decide_eq_false (by omega)]
          simp
        · rw [ev_neg hc, decide_eq_true (by omega), Bool.true_and]
          have := ih (i + 1) (by omega)
          rw [Nat.add_sub_cancel] at this
          exact this
theorem spec_voSet.ev (n : Int) (l : List Int) (h0 : 0 ≤ n) (h9 : n ≤ 1000) (hl : l.length ≤ 9223372036854775807) : Ev (fun k => spec_voSet.f k n l) (setB n l) := by
  simp only [spec_voSet.f]
  have h := spec_l1Rising.ev_l l 0 (n - 1) hl l.length 0 (by omega)
  rw [List.drop_zero] at h
  rw [w64 (by omega) (by omega), ev_bind (show Ev (fun k => spec_l1Rising.f k l 0 (n - 1)) (setB n l) from h), ev_now]
end Go.Proofs.Yticnoiflccbhcaa.Q

namespace Go.Proofs.Yticnoiflccbhcaa.Q
open Go.RowKit Go.Proofs.YticnoiflccbhcaaW.PrintWords Go.Proofs.YticnoiflccbhcaaW.PrintLast Go.Proofs.YticnoiflccbhcaaW.PrintMore Go.Proofs.YticnoiflccbhcaaM
set_option linter.unusedVariables false
set_option linter.unusedSimpArgs false
theorem spec_gmSets.ev_l (n : Int) (l : List (List Int)) (h0 : 0 ≤ n) (h9 : n ≤ 1000) (hl : l.length ≤ 9223372036854775807) (hx : ∀ x ∈ l, x.length ≤ 9223372036854775807) : ∀ (d i : Nat), i + d = l.length → Ev (fun k => spec_gmSets.l0 k n l (l.length : Int) (i : Int)) (setsB n (l.drop i)) := by
  intro d
  induction d with
  | zero =>
    intro i h
    refine ev_step ?_
    simp only [spec_gmSets.l0]
    rw [ev_neg (by omega), ev_now, List.drop_of_length_le (by omega)]
    rfl
  | succ d ih =>
    intro i h
    refine ev_step ?_
    simp only [spec_gmSets.l0]
    have hi : i < l.length := by omega
    have e : setsB n (l.drop i) = ((!(decide ((l[i].length : Int) = 0)) && setB n l[i]) && setsB n (l.drop (i + 1))) := by
      unfold setsB
      rw [List.drop_eq_getElem_cons hi, List.all_cons]
    rw [ev_pos (by omega), ev_pos (by omega), ev_pos (by omega), w64i (n := l.length) (by omega) (by omega) hl, rd_L2_lt l i hi, e]
    by_cases hc : (l[i].length : Int) = 0
    · rw [ev_pos hc, ev_now, decide_eq_true hc]
      rfl
    · rw [ev_neg hc, decide_eq_false hc, ev_bind (spec_voSet.ev n l[i] h0 h9 (hx _ (List.getElem_mem hi)))]
      cases setB n l[i] with
      | true =>
        rw [ev_pos rfl]
        exact ih (i + 1) (by omega)
      | false =>
        rw [ev_neg (by decide), ev_now]
        rfl
theorem spec_gmSets.ev (n : Int) (l : List (List Int)) (most : Int) (hl : l.length ≤ 9223372036854775807) (hx : ∀ x ∈ l, x.length ≤ 9223372036854775807) : Ev (fun k => spec_gmSets.f k n l most) ((decide (1 ≤ n) && decide (n ≤ 9)) && ((decide (1 ≤ (l.length : Int)) && decide ((l.length : Int) ≤ most)) && setsB n l)) := by
  simp only [spec_gmSets.f]
  rw [ev_bind (ev_of (spec_l1In.v _ _ _))]
  cases h1 : (decide (1 ≤ n) && decide (n ≤ 9)) with
  | false =>
    rw [ev_neg (by decide)]
    refine ev_step ?_
    simp only [spec_gmSets.j0]
    rw [ev_pos trivial, ev_now]
    rfl
  | true =>
    simp only [Bool.and_eq_true, decide_eq_true_eq] at h1
    rw [ev_pos rfl, ev_bind (ev_of (spec_l1In.v _ _ _)), Bool.true_and]
    refine ev_step ?_
    simp only [spec_gmSets.j0]
    cases (decide (1 ≤ (l.length : Int)) && decide ((l.length : Int) ≤ most)) with
    | false =>
      rw [ev_pos (by decide), ev_now]
      rfl
    | true =>
      rw [ev_neg (by decide), Bool.true_and]
      exact spec_gmSets.ev_l n l (by omega) (by omega) hl hx l.length 0 (by omega)
theorem spec_gmGood.ev_l1 (n : Int) (l : List (List Int)) (hl : l.length ≤ 9223372036854775807) (hs : ∀ x ∈ l, x.length ≤ 9223372036854775807 ∧ (∀ y ∈ x, 0 ≤ y ∧ y ≤ 8) ∧ maskN x < 512) (i : Nat) (hi : i < l.length) (R : Bool) (hR : Ev (fun k => spec_gmGood.l0 k l (l.length : Int) ((i : Int) + 1) n l) R) : ∀ (d j : Nat), j + d = i → Ev (fun k => spec_gmGood.l1 k ((maskN l[i] : Nat) : Int) l (l.length : Int) (i : Int) (l.take i) ((l.take i).length : Int) (j : Int) n l) ((List.range' j d).all (gInS l i) && R) := by
  have ht : (l.take i).length = i := by rw [List.length_take]; omega
  intro d
  induction d with
  | zero =>
    intro j h
    refine ev_step ?_
    simp only [spec_gmGood.l1]
    rw [ev_neg (by omega), w64i (n := l.length) (by omega) (by omega) hl]
    exact hR
  | succ d ih =>
    intro j h
    refine ev_step ?_
    simp only [spec_gmGood.l1]
    have hj : j < l.length := by omega
    have hjt : j < (l.take i).length := by omega
    obtain ⟨hx1, hx2, hx3⟩ := hs l[i] (List.getElem_mem hi)
    obtain ⟨hy1, hy2, hy3⟩ := hs l[j] (List.getElem_mem hj)
    have m2 := spec_voBits.ev l[j] hy1 (fun y hy => by have := hy2 y hy; omega)
    rw [ev_pos (by omega), ev_pos (by omega), ev_pos (by omega), w64i (i := (j : Int)) (n := l.length) (by omega) (by omega) hl, List.range'_succ, List.all_cons, rd_L2_lt (l.take i) j hjt, List.getElem_take, ev_bind m2, and_nat _ _ (by omega) (by omega), gInS, mAt_lt l i hi, mAt_lt l j hj]
    by_cases c : maskN l[i] &&& maskN l[j] = maskN l[i]
    · rw [ev_pos (by rw [c]), ev_now, decide_eq_true c]
      rfl
    · rw [ev_neg (by omega), decide_eq_false c]
      by_cases c2 : maskN l[i] &&& maskN l[j] = maskN l[j]
      · rw [ev_pos (by rw [c2]), ev_now, decide_eq_true c2]
        rfl
      · rw [ev_neg (by omega), decide_eq_false c2]
        exact ih (j + 1) (by omega)
theorem spec_gmGood.ev_l0 (n : Int) (l : List (List Int)) (hl : l.length ≤ 9223372036854775807) (hs : ∀ x ∈ l, x.length ≤ 9223372036854775807 ∧ (∀ y ∈ x, 0 ≤ y ∧ y ≤ 8) ∧ maskN x < 512) : ∀ (d i : Nat), i + d = l.length → Ev (fun k => spec_gmGood.l0 k l (l.length : Int) (i : Int) n l) ((List.range' i d).all (gS l)) := by
  intro d
  induction d with
  | zero =>
    intro i h
    refine ev_step ?_
    simp only [spec_gmGood.l0]
    rw [ev_neg (by omega), ev_now]
    rfl
  | succ d ih =>
    intro i h
    refine ev_step ?_
    simp only [spec_gmGood.l0]
    have hi : i < l.length := by omega
    obtain ⟨hx1, hx2, hx3⟩ := hs l[i] (List.getElem_mem hi)
    have m1 := spec_voBits.ev l[i] hx1 (fun y hy => by have := hx2 y hy; omega)
    rw [ev_pos (by omega), ev_pos (by omega), ev_pos (by omega), rd_L2_lt l i hi, List.range'_succ, List.all_cons]
    have hin : Ev (fun k => spec_gmGood.l1 k ((maskN l[i] : Nat) : Int) l (l.length : Int) (i : Int) (l.take i) ((l.take i).length : Int) ((0 : Nat) : Int) n l) ((List.range' 0 i).all (gInS l i) && (List.range' (i + 1) d).all (gS l)) := spec_gmGood.ev_l1 n l hl hs i hi _ (by have := ih (i + 1) (by omega); exact this) i 0 (by omega)
    by_cases e : i = 0
    · rw [ev_neg (by omega)]
      refine ev_step ?_
      simp only [spec_gmGood.j1]
      rw [ev_neg (by decide), ev_bind m1, ev_pos (by omega), ev_pos (by omega), Int.toNat_natCast, gS, show gOrd l i = true by simp [gOrd, e], Bool.true_and]
      exact hin
    · have e1 : (i : Int) - 1 = ((i - 1 : Nat) : Int) := by omega
      rw [ev_pos (by omega), w64 (by omega) (by omega), e1, ev_pos (by omega), ev_pos (by omega), rd_L2_lt l (i - 1) (by omega), ev_bind (spec_voBefore.ev _ _ (hs _ (List.getElem_mem (by omega))).1)]
      refine ev_step ?_
      simp only [spec_gmGood.j1]
      rw [gS, gOrd_pos l i e hi]
      by_cases c : cmpL (l[i - 1]'(by omega)) l[i] < 0
      · rw [ev_neg (by simp [c]), decide_eq_true c, Bool.true_and, ev_bind m1, ev_pos (by omega), ev_pos (by omega), Int.toNat_natCast]
        exact hin
      · rw [ev_pos (by simp; omega), ev_now, decide_eq_false c]
        rfl
theorem spec_gmGood.ev (n : Int) (l : List (List Int)) (hl : l.length ≤ 9223372036854775807) (hx : ∀ x ∈ l, x.length ≤ 9223372036854775807) : Ev (fun k => spec_gmGood.f k n l) (gameB n l) := by
  simp only [spec_gmGood.f]
  rw [ev_bind (spec_gmSets.ev n l 126 hl hx), gameB]
  cases h1 : (decide (1 ≤ n) && decide (n ≤ 9)) with
  | false =>
    rw [ev_neg (by simp), ev_now]
    rfl
  | true =>
    simp only [Bool.and_eq_true, decide_eq_true_eq] at h1
    rw [Bool.true_and, Bool.true_and]
    by_cases h2 : (l.length : Int) = 0
    · rw [decide_eq_false (show ¬ (1 ≤ (l.length : Int)) by omega), ev_neg (by simp), ev_now, decide_eq_true h2]
      rfl
    · rw [decide_eq_true (show 1 ≤ (l.length : Int) by omega), decide_eq_false h2]
      cases h3 : setsB n l with
      | false =>
        rw [ev_neg (by simp), ev_now]
        rfl
      | true =>
        have hs : ∀ x ∈ l, x.length ≤ 9223372036854775807 ∧ (∀ y ∈ x, 0 ≤ y ∧ y ≤ 8) ∧ maskN x < 512 := fun x hx' => ⟨hx x hx', setsB_mask h3 (by omega) x hx'⟩
        have hfull := spec_gmGood.ev_l0 n l hl hs l.length 0 (by omega)
        by_cases h4 : (l.length : Int) ≤ 126
        · rw [ev_pos (by simp [h4])]
          exact hfull
        · rw [ev_neg (by simp [h4]), ev_now]
          cases h5 : (List.range' 0 l.length).all (gS l) with
          | false => rfl
          | true => exact absurd (game_few (by omega) h3 h5) (by omega)
end Go.Proofs.Yticnoiflccbhcaa.Q

namespace Go.Proofs.Yticnoiflccbhcaa.Q
open Go.RowKit Go.Proofs.YticnoiflccbhcaaW.PrintWords Go.Proofs.YticnoiflccbhcaaW.PrintLast Go.Proofs.YticnoiflccbhcaaW.PrintMore Go.Proofs.YticnoiflccbhcaaM
set_option linter.unusedVariables false
set_option linter.unusedSimpArgs false
theorem spec_bit (m i : Nat) (hm : m < 2 ^ 62) (hi : i ≤ 62) : Int.tmod (shr .i64 (m : Int) (i : Int)) 2 = ((m / 2 ^ i % 2 : Nat) : Int) := by
  rw [shr_nat m i (by omega)]
  generalize m / 2 ^ i = x
  rw [Int.tmod_eq_emod_of_nonneg (by omega)]
  omega
theorem spec_voWeight.ev_l (q : Int) (ws : List Int) (m : Nat) (hm : m < 2 ^ 62) (hl : ws.length ≤ 60) (hw : ∀ x ∈ ws, 0 ≤ x ∧ x ≤ 1000000000) : ∀ (d i : Nat) (s : Int), i + d = ws.length → 0 ≤ s → s + wsum (ws.drop i) (m / 2 ^ i) ≤ 1000000000000 → Ev (fun k => spec_voWeight.l0 k (m : Int) s ws (ws.length : Int) (i : Int)) (s + wsum (ws.drop i) (m / 2 ^ i)) := by
  intro d
  induction d with
  | zero =>
    intro i s h _ _
    refine ev_step ?_
    simp only [spec_voWeight.l0]
    rw [ev_neg (by omega), ev_now, List.drop_of_length_le (by omega)]
    simp [wsum]
  | succ d ih =>
    intro i s h h0 h1
    refine ev_step ?_
    simp only [spec_voWeight.l0]
    have hi : i < ws.length := by omega
    have hx := hw ws[i] (List.getElem_mem hi)
    have hd : wsum (ws.drop i) (m / 2 ^ i) = (if m / 2 ^ i % 2 = 1 then ws[i] else 0) + wsum (ws.drop (i + 1)) (m / 2 ^ (i + 1)) := by
      rw [wsum_drop ws i _ hi, Nat.div_div_eq_div_mul, ← Nat.pow_succ]
    have hb := wsum_bounds (ws.drop (i + 1)) (fun x hx => (hw x (List.mem_of_mem_drop hx)).1) (m / 2 ^ (i + 1))
    rw [ev_pos (by omega), ev_pos (by omega), ev_pos (by omega), spec_bit m i hm (by omega), w64i (n := ws.length) (by omega) (by omega) (by omega), rd_lt ws i hi, hd]
    rw [hd] at h1
    by_cases hbit : m / 2 ^ i % 2 = 1
    · rw [if_pos hbit] at h1 ⊢
      rw [ev_pos (by rw [hbit]; rfl), w64 (by omega) (by omega), ← Int.add_assoc]
      exact ih (i + 1) (s + ws[i]) (by omega) (by omega) (by omega)
    · rw [if_neg hbit] at h1 ⊢
      rw [ev_neg (by omega), Int.zero_add]
      exact ih (i + 1) s (by omega) h0 (by omega)
theorem spec_voWeight.ev (q : Int) (ws : List Int) (m : Nat) (hm : m < 2 ^ 62) (hl : ws.length ≤ 60) (hw : ∀ x ∈ ws, 0 ≤ x ∧ x ≤ 1000000000) : Ev (fun k => spec_voWeight.f k q ws (m : Int)) (wsum ws m) := by
  have hb := wsum_bounds ws (fun x hx => (hw x hx).1) m
  have hs := sum_bounds ws 1000000000 hw
  have := spec_voWeight.ev_l q ws m hm hl hw ws.length 0 0 (by omega) (by omega) (by simp; omega)
  simpa [spec_voWeight.f] using this
end Go.Proofs.Yticnoiflccbhcaa.Q

namespace Go.Proofs.Yticnoiflccbhcaa.Q
open Go.RowKit Go.Proofs.YticnoiflccbhcaaX Go.Proofs.YticnoiflccbhcaaW.PrintWords Go.Proofs.YticnoiflccbhcaaW.PrintLast Go.Proofs.YticnoiflccbhcaaW.PrintMore
attribute [local go_sem] max2_int min2_int max_two min_two max_three min_three max_four min_four   -- for this text's walks alone
set_option linter.unusedVariables false
set_option linter.unusedSimpArgs false

/-! ### spec_voWins: function 58 -/
def spec_voWins.l0 : Nat → List Bool → Int → Int → List Int → Option (List Bool)
 | 0, _, _, _, _ => none
 | k + 1, x3, x4, x102000, x102001 => (spec_voAll.f (x102001.length : Int)).bind fun t102 => (if x4 ≤ t102 then ((spec_voWeight.f k x102000 x102001 x4).bind fun t103 => (if x3.length < 140737488355328 then (spec_voWins.l0 k (x3 ++ [decide (t103 ≥ x102000)]) (wrap64 (x4 + 1)) x102000 x102001) else (none))) else (some x3))
def spec_voWins.f (k : Nat) (a0_0 : Int) (l0_1 : List Int) : Option (List Bool) := spec_voWins.l0 k ([] : List Bool) 0 a0_0 l0_1
theorem spec_voWins.mono_l : ∀ k, (∀ y0 y1 y2 y3, LeO (spec_voWins.l0 k y0 y1 y2 y3) (spec_voWins.l0 (k + 1) y0 y1 y2 y3))
 | 0 => fun _ _ _ _ r h => by simp [spec_voWins.l0] at h
 | k + 1 => by
  have ih0 := spec_voWins.mono_l k
  ·intro y0 y1 y2 y3
   unfold spec_voWins.l0
   repeat' first
   | (with_reducible exact ih0 _ _ _ _)
   | (with_reducible exact spec_voWeight.mono _ _ _ _)
   | (with_reducible exact LeO.refl _)
   | (with_reducible exact LeO.none _)
   | (with_reducible refine LeO.ite ?_ ?_)
   | (with_reducible refine LeO.bind ?_ (fun _ => ?_))
   | exact ih0 _ _ _ _
   | exact spec_voWeight.mono _ _ _ _
   | exact LeO.none _
   | refine LeO.ite ?_ ?_
   | refine LeO.bind ?_ (fun _ => ?_)
theorem spec_voWins.mono : ∀ a0 a1 k, LeO (spec_voWins.f k a0 a1) (spec_voWins.f (k + 1) a0 a1) := by
 intro a0 a1 k
 have ih0 := spec_voWins.mono_l k
 unfold spec_voWins.f
 repeat' first
   | (with_reducible exact ih0 _ _ _ _)
   | (with_reducible exact spec_voWeight.mono _ _ _ _)
   | (with_reducible exact LeO.refl _)
   | (with_reducible exact LeO.none _)
   | (with_reducible refine LeO.ite ?_ ?_)
   | (with_reducible refine LeO.bind ?_ (fun _ => ?_))
   | exact ih0 _ _ _ _
   | exact spec_voWeight.mono _ _ _ _
   | exact LeO.none _
   | refine LeO.ite ?_ ?_
   | refine LeO.bind ?_ (fun _ => ?_)
def spec_voWins.T5 : Bool × List (List Nat × List Nat) := (true, [([], []), ([], []), ([], []), ([1, 2], [1, 2]), ([], []), ([4], [4]), ([3, 5], [3, 5]), ([6], [6]), ([0, 7, 3], [0, 7]), ([8, 8, 0, 1, 2, 3, 4, 5, 6, 7, 8], [0, 8])])
def spec_voWins.B5 : List Nat := [0, 0, 0, 6, 0, 16, 62, 126, 255, 511]
theorem spec_voWins.tab5 : rtab .any (opsOf Try.f58 5) = spec_voWins.T5 := by kernel_rfl
theorem spec_voWins.bits5 : waitsOk spec_voWins.T5.2 spec_voWins.B5 = true := by kernel_rfl
set_option maxHeartbeats 8000000 in
set_option maxRecDepth 100000 in
theorem spec_voWins.calls (k : Nat) (a0_0 : Int) (A0_1 : Option Addr) (c0_1 : Nat) (l0_1 : List Int) (r : List Bool) (w : World) (hr0_1 : Kd.C (Kd.int .i64) w A0_1 l0_1.length l0_1) (hc0_1 : l0_1.length ≤ c0_1) (h : spec_voWins.f k a0_0 l0_1 = some r) :
  Calls Try.prog 58 #[.agg #[.int .i64 a0_0, .slice A0_1 l0_1.length c0_1]] w fun e w' => ∃ v0_ : Value, e = .returned (v0_) ∧ Kd.R Kd.bool 4 w' w.heap.size (fun _ => True) v0_ r ∧ Below w.heap.size w w' := by
 have hu26 := Try.underlying26
 have HR0_1 := Aside0.mk hr0_1
 have HC0_1 := Aside0.mk hc0_1
 clear hr0_1 hc0_1
 have HB := Aside0.mk (Below.refl w.heap.size w)
 have H : (spec_voWins.l0 k ([] : List Bool) 0 a0_0 l0_1) = some r := h
 clear h
 have H' := Aside0.mk H
 clear H
 go_enter Try.func58, Try.ntmps58
 go_wp2_with (first | ((with_reducible refine gate_dst (N := 1) rfl ?_); refine box_event ?hg (N := 1) ?hd (cs := #[.int .i64 a0_0, .slice A0_1 l0_1.length c0_1]) (t := 26) ?hr ?_; (case hd => rfl); (case hg => rfl); (case hr => first | (go_simp; done) | (go_simp; rfl)); intro gb101 hg w2 hbox hb; have n0_ := Aside0.mk (below_step (by repeat (first | (with_reducible first | exact HB.out | apply ba | apply bd | apply be) | exact HB.out)) hb); have n1_ := Aside0.mk (hbox); have n2_ := Aside0.mk ((by rw [hg]; exact (below_size (by repeat (first | (with_reducible first | exact HB.out | apply ba | apply bd | apply be) | exact HB.out))) : w.heap.size ≤ gb101)); have n3_ := Aside0.mk ((by rw [hg]; exact (below_size (by repeat (first | (with_reducible first | exact HB.out | apply ba | apply bd | apply be) | exact HB.out))) : w.heap.size ≤ gb101)); clear HB; have HB := n0_; have BK101 := n1_; have GW101 := n2_; have GE101 := n3_; clear n0_ n1_ n2_ n3_; clear hb hbox hg))
 go_loopg [3, 4] k (fun kq v3 v4 w' => ∃ (x3_1 : List Bool) (x4_1 : Int), v4 = .int .i64 x4_1 ∧ Aside0 (spec_voWins.l0 kq x3_1 x4_1 a0_0 l0_1 = some r) ∧ Aside0 (kq ≤ k) ∧ Aside0 (Kd.R Kd.bool 4 w' w.heap.size (fun _ => True) v3 x3_1) ∧ Aside0 (w'.heap[gb101]? = some (.cells #[.int .i64 a0_0, (.slice A0_1 l0_1.length c0_1)] 26 (0, 0))) ∧ Aside0 (Below w.heap.size w w'))
 case atStart => exact ⟨(([] : List Bool)), (0), (by first | rfl | (simp; done) | (simp [*]; done)), H', ⟨Nat.le_refl _⟩, ⟨by first | exact Kd.R_nil _ _ _ _ _ | exact Kd.N_nil _ _ _ _ _ | exact Kd.V_nil _ _ _ _ _ | exact Kd.Q_nil _ _ _ _ _ | exact Kd.S_nil _ _ _ _ _⟩, ⟨by (first | exact bp BK101.out | exact BK101.out)⟩, ⟨by repeat (first | (with_reducible first | exact HB.out | apply ba | apply bd | apply be | refine bs ?_ GE101.out) | exact HB.out)⟩⟩
 case round =>
  clear H'
  try clear p2
  obtain ⟨x3_1, x4_1, rfl, HA, HK1, HO_3, BK101, HB⟩ := hrel
  cases gk with
  | zero => exact absurd HA.out (by simp [spec_voWins.l0])
  | succ k1 =>
   have H := HA.out
   clear HA
   simp only [spec_voWins.l0] at H
   replace H := oB H
   obtain ⟨t102, A30, H⟩ := H
   replace H : (if x4_1 ≤ t102 then ((spec_voWeight.f k1 a0_0 l0_1 x4_1).bind fun t103 => (if x3_1.length < 140737488355328 then (spec_voWins.l0 k1 (x3_1 ++ [decide (t103 ≥ a0_0)]) (wrap64 (x4_1 + 1)) a0_0 l0_1) else (none))) else (some x3_1)) = some r := H
   have A3 := Aside0.mk A30
   clear A30
   by_cases c4 : x4_1 ≤ t102
   ·rw [if_pos c4] at H
    have c4b0 : decide (x4_1 ≤ t102) = true := decide_eq_true c4
    clear c4
    replace H := oB H
    obtain ⟨t103, A50, H⟩ := H
    replace H : (if x3_1.length < 140737488355328 then (spec_voWins.l0 k1 (x3_1 ++ [decide (t103 ≥ a0_0)]) (wrap64 (x4_1 + 1)) a0_0 l0_1) else (none)) = some r := H
    have A5 := Aside0.mk A50
    clear A50
    by_cases c6 : x3_1.length < 140737488355328
    ·rw [if_pos c6] at H
     have LMc6 := Aside0.mk c6
     clear c6
     obtain ⟨y104, hy104⟩ : ∃ y_ : List Bool, y_ = (x3_1 ++ [decide (t103 ≥ a0_0)]) := ⟨_, rfl⟩
     replace H : (spec_voWins.l0 k1 y104 (wrap64 (x4_1 + 1)) a0_0 l0_1) = some r := by first | (rw [hy104]; with_reducible exact H) | (have H2_ := (Option.bind_some _ _).symm.trans H; rw [hy104]; with_reducible exact H2_) | (have H2_ := (Option.bind_some _ _).symm.trans H; with_reducible exact H2_) | with_reducible exact H | (rw [hy104]; exact H) | exact H
     have Ny104 := Aside0.mk hy104
     clear hy104
     have H' := Aside0.mk H
     clear H
     have hcz7_0 : wr.cell? ⟨gb101, 0, none⟩ = some (.int .i64 a0_0) := (blk_cell BK101.out 0).trans rfl
     have hcz7_1 : wr.cell? ⟨gb101, 1, none⟩ = some (.slice A0_1 l0_1.length c0_1) := (blk_cell BK101.out 1).trans rfl
     have hfz7_0 := blk_frozen BK101.out 0
     have hfz7_1 := blk_frozen BK101.out 1
     try go_wp2_with (first | ((with_reducible refine gate_callee (f := 101) rfl ?_); refine goesL_ (some 9) rfl rfl Try.func101 (by kernel_rfl) rfl #[.int .i64 (l0_1.length : Int)] rfl (by (try simp only [mA, mC, mN]); first | done | rfl | (simp only [List.length_drop, List.length_take]; rfl)) ?_; (with_reducible refine (spec_voAll.calls (l0_1.length : Int) t102 _ A3.out).mono ?_); rintro e w' ⟨rfl, ⟨nd, rfl⟩⟩; refine ⟨_, rfl, ?_⟩))
     (try (rw [drewN_self wr]; generalize hq_ : World.drewN wr _ = wr; have n0_ : Aside0 (Kd.R Kd.bool 4 wr w.heap.size (fun _ => True) u3 x3_1) := ⟨by rw [← hq_]; exact (by (first | exact rp HO_3.out | exact HO_3.out))⟩; have n1_ : Aside0 (wr.heap[gb101]? = some (.cells #[.int .i64 a0_0, .slice A0_1 l0_1.length c0_1] 26 (0, 0))) := ⟨by rw [← hq_]; exact (by (first | exact bp BK101.out | exact BK101.out))⟩; have n2_ : Aside0 (Below w.heap.size w wr) := ⟨by rw [← hq_]; exact (by repeat (first | (with_reducible first | exact HB.out | apply ba | apply bd | apply be | refine bs ?_ GE101.out) | exact HB.out))⟩; clear HO_3 BK101 HB hq_; have HO_3 := n0_; have BK101 := n1_; have HB := n2_; clear n0_ n1_ n2_))
     have n0_ := Aside0.mk (Kd.R_drew HO_3.out)
     have n1_ := Aside0.mk (blk_drew BK101.out)
     have n2_ := Aside0.mk (below_drew1 HB.out)
     clear HO_3
     clear BK101
     clear HB
     have HO_3 := n0_
     have BK101 := n1_
     have HB := n2_
     clear n0_ n1_ n2_
     refine start_ (n := 10) (S := fun w' => w'.cell? ⟨gb101, 0, none⟩ = some (.int .i64 a0_0) ∧ w'.cell? ⟨gb101, 1, none⟩ = some (.slice A0_1 l0_1.length c0_1)) (ds := []) #[false, false, false, false, false, false, false, false, false, false] (by kernel_rfl) rfl rfl ⟨(blk_cell BK101.out 0).trans rfl, (blk_cell BK101.out 1).trans rfl⟩ (fun hHeld => ?_); refine with_tabW spec_voWins.tab5 spec_voWins.bits5 (fun HT_ HW_ => ?_)
     generalize wr.drew = w8 at HO_3 BK101 HB hHeld ⊢
     refine pure_ (i := 0) (N := some 13) (v := ?_) (a' := ?_) #[true, false, false, false, false, false, false, false, false, false] rfl rfl (any_of HT_.out (by kernel_rfl)) (fun _ _ _ h => h) (Or.inl ⟨by rfl, ?_⟩) ?_ ?_
     rotate_left
     ·intro w'
      go_simp
      with_reducible rfl
     rotate_left
     ·simp only [Act.put, sA, sZ, sS, i64_w, i32_w]
      rfl
     refine pure_ (i := 2) (N := some 15) (v := ?_) (a' := ?_) #[true, false, true, false, false, false, false, false, false, false] rfl rfl (any_of HT_.out (by kernel_rfl)) (fun _ _ _ h => h) (Or.inl ⟨by rfl, ?_⟩) ?_ ?_
     rotate_left
     ·intro w'
      go_simp
      with_reducible rfl
     rotate_left
     ·simp only [Act.put, sA, sZ, sS, i64_w, i32_w]
      rfl
     refine pure_ (i := 4) (N := some 17) (v := ?_) (a' := ?_) #[true, false, true, false, true, false, false, false, false, false] rfl rfl (any_of HT_.out (by kernel_rfl)) (fun _ _ _ h => h) (Or.inl ⟨by rfl, ?_⟩) ?_ ?_
     rotate_left
     ·intro w'
      go_simp
      with_reducible rfl
     rotate_left
     ·simp only [Act.put, sA, sZ, sS, i64_w, i32_w]
      rfl
     refine take_ (i := 1) (N := some 14) (v := ?_) (a' := ?_) #[true, true, true, false, true, false, false, false, false, false] rfl rfl (take_ofW HT_.out HW_.out (by kernel_rfl)) (fun _ _ _ h => h) (Or.inl ⟨by rfl, ?_⟩) hHeld ?_ ?_
     rotate_left
     ·rintro w' ⟨s0, s1⟩
      go_simp
      with_reducible rfl
     rotate_left
     ·simp only [Act.put, sA, sZ, sS, i64_w, i32_w]
      rfl
     refine take_ (i := 5) (N := some 18) (v := ?_) (a' := ?_) #[true, true, true, false, true, true, false, false, false, false] rfl rfl (take_ofW HT_.out HW_.out (by kernel_rfl)) (fun _ _ _ h => h) (Or.inl ⟨by rfl, ?_⟩) hHeld ?_ ?_
     rotate_left
     ·rintro w' ⟨s0, s1⟩
      go_simp
      with_reducible rfl
     rotate_left
     ·simp only [Act.put, sA, sZ, sS, i64_w, i32_w]
      rfl
     refine one_ (i := 3) (N := some 16) #[true, true, true, true, true, true, false, false, false, false] rfl rfl (one_of HT_.out (by kernel_rfl)) (by decide) (fun K hK => ?_)
     refine goes_ Try.func100 (by kernel_rfl) rfl #[.agg #[.int .i64 a0_0, .slice A0_1 l0_1.length c0_1], .int .i64 x4_1] (by rfl) rfl rfl (by (try simp only [mA, mC, mN]); first | done | rfl | (simp only [List.length_drop, List.length_take]; rfl)) ?_
     with_reducible refine (spec_voWeight.calls k1 a0_0 _ _ l0_1 x4_1 t103 _ ?side1 ?side2 A5.out).mono ?_
     (case side1 => repeat (first | exact (Kd.C_below HR0_1.out HB.out) | (with_reducible refine Kd.C_alloc ?_ _) | (with_reducible refine Kd.C_drewN ?_ _) | (with_reducible refine Kd.C_drew ?_)))
     (case side2 => exact HC0_1.out)
     rintro e w9 ⟨rfl, hb⟩
     refine ⟨_, rfl, ?_⟩
     have n0_ := Aside0.mk (Kd.R_below (by (first | exact rp HO_3.out | exact HO_3.out)) hb)
     have n1_ := Aside0.mk (blk_below (g := gb101) (o := .cells #[.int .i64 a0_0, .slice A0_1 l0_1.length c0_1] 26 (0, 0)) (by (first | exact bp BK101.out | exact BK101.out)) hb)
     have n2_ := Aside0.mk (below_step (by repeat (first | (with_reducible first | exact HB.out | apply ba | apply bd | apply be | refine bs ?_ GE101.out) | exact HB.out)) hb)
     clear HO_3
     clear BK101
     clear HB
     have HO_3 := n0_
     have BK101 := n1_
     have HB := n2_
     clear n0_ n1_ n2_
     (try clear hb)
     (try clear hb2)
     (try clear hk)
     (try clear hi)
     refine hK.out _ _ ⟨(blk_cell BK101.out 0).trans rfl, (blk_cell BK101.out 1).trans rfl⟩ (fun hHeld => ?_)
     clear hK K
     refine norm_ (a' := ?_) ?_ ?_
     rotate_left
     ·show Act.put _ (some 16) _ = _
      simp only [Act.put, sA, sZ, sS, i64_w, i32_w]
      rfl
     refine pure_ (i := 6) (N := some 19) (v := ?_) (a' := ?_) #[true, true, true, true, true, true, true, false, false, false] rfl rfl (any_of HT_.out (by kernel_rfl)) (fun _ _ _ h => h) (Or.inl ⟨by rfl, ?_⟩) ?_ ?_
     rotate_left
     ·intro w'
      go_simp
      with_reducible rfl
     rotate_left
     ·simp only [Act.put, sA, sZ, sS, i64_w, i32_w]
      rfl
     refine one_ (i := 7) (N := some 20) #[true, true, true, true, true, true, true, true, false, false] rfl rfl (one_of HT_.out (by kernel_rfl)) (by decide) (fun K hK => ?_)
     refine value_ (w1 := ?_) (v := ?_) (by rfl) rfl ?_ ?_
     rotate_left 2
     ·go_simp
      constructor
      ·rfl
      ·rfl
     refine hK.out _ _ ⟨(blk_cell (blk_alloc BK101.out _) 0).trans rfl, (blk_cell (blk_alloc BK101.out _) 1).trans rfl⟩ (fun hHeld => ?_)
     clear hK K
     refine norm_ (a' := ?_) ?_ ?_
     rotate_left
     ·show Act.put _ (some 20) _ = _
      simp only [Act.put, sA, sZ, sS, i64_w, i32_w]
      rfl
     refine one_ (i := 8) (N := some 21) #[true, true, true, true, true, true, true, true, true, false] rfl rfl (one_of HT_.out (by kernel_rfl)) (by decide) (fun K hK => ?_)
     refine Kd.R_append_step Kd.bool (w0 := w) w.heap.size (by rfl) (.tmp 13) (.tmp 20) 61 4 (.bool false) 1 rfl Try.underlying61 info4 rfl (by decide) (by omega) u3 x3_1 (decide (t103 ≥ a0_0)) [.bool (decide (t103 ≥ a0_0))] (fun _ => True) (fun _ => False) rfl rfl ?aP (fun _ hk => hk.elim) ?aF ?aO ?aB ?aS ?aL ?_
     (case aP => exact rfl)
     (case aB => exact (by repeat (first | (with_reducible first | exact HB.out | apply ba | apply bd | apply be | refine bs ?_ GE101.out) | exact HB.out)))
     (case aF => exact (fun _ _ => trivial))
     (case aO => exact (by (first | exact rp HO_3.out | exact HO_3.out)))
     (case aS => exact (below_size (by repeat (first | (with_reducible first | exact HB.out | apply ba | apply bd | apply be | refine bs ?_ GE101.out) | exact HB.out))))
     (case aL => have := LMc6.out; omega)
     intro v105 w10 ho hb hg hat
     rw [← Ny104.out] at ho
     have n0_ := Aside0.mk (blk_grown (g := gb101) (o := .cells #[.int .i64 a0_0, .slice A0_1 l0_1.length c0_1] 26 (0, 0)) (by (first | exact bp BK101.out | exact BK101.out)) hg (Kd.R_ne HO_3.out BK101.out (by decide)))
     have n1_ := Aside0.mk (hb)
     have n2_ := Aside0.mk (ho)
     clear BK101
     clear HB
     clear HO_3
     have BK101 := n0_
     have HB := n1_
     have HO106 := n2_
     clear n0_ n1_ n2_
     clear ho hb hg hat
     refine hK.out _ _ ⟨(blk_cell BK101.out 0).trans rfl, (blk_cell BK101.out 1).trans rfl⟩ (fun hHeld => ?_)
     clear hK K
     refine norm_ (a' := ?_) ?_ ?_
     rotate_left
     ·show Act.put _ (some 21) _ = _
      simp only [Act.put, sA, sZ, sS, i64_w, i32_w]
      rfl
     refine pure_ (i := 9) (N := some 3) (v := ?_) (a' := ?_) #[true, true, true, true, true, true, true, true, true, true] rfl rfl (any_of HT_.out (by kernel_rfl)) (fun _ _ _ h => h) (Or.inl ⟨by rfl, ?_⟩) ?_ ?_
     rotate_left
     ·intro w'
      go_simp
      with_reducible rfl
     rotate_left
     ·simp only [Act.put, sA, sZ, sS, i64_w, i32_w]
      rfl
     refine done_ (done_of HT_.out (by kernel_rfl)) ?_
     try go_wp2
     go_roundg k1
     case measure => have := HK1.out; omega
     case rel => exact ⟨(y104), (wrap64 (x4_1 + 1)), (by first | rfl | (simp; done) | (simp [*]; done)), H', ⟨by have := HK1.out; omega⟩, ⟨by (first | exact rp HO106.out | exact HO106.out)⟩, ⟨by (first | exact bp BK101.out | exact BK101.out)⟩, ⟨by repeat (first | (with_reducible first | exact HB.out | apply ba | apply bd | apply be | refine bs ?_ GE101.out) | exact HB.out)⟩⟩
    ·rw [if_neg c6] at H
     exact absurd H (by simp)
   ·rw [if_neg c4] at H
    have c4b0 : decide (x4_1 ≤ t102) = false := decide_eq_false c4
    clear c4
    obtain rfl := Option.some.inj H
    have hcz11_0 : wr.cell? ⟨gb101, 0, none⟩ = some (.int .i64 a0_0) := (blk_cell BK101.out 0).trans rfl
    have hcz11_1 : wr.cell? ⟨gb101, 1, none⟩ = some (.slice A0_1 l0_1.length c0_1) := (blk_cell BK101.out 1).trans rfl
    have hfz11_0 := blk_frozen BK101.out 0
    have hfz11_1 := blk_frozen BK101.out 1
    go_wp2_with (first | ((with_reducible refine gate_callee (f := 101) rfl ?_); refine goesL_ (some 9) rfl rfl Try.func101 (by kernel_rfl) rfl #[.int .i64 (l0_1.length : Int)] rfl (by (try simp only [mA, mC, mN]); first | done | rfl | (simp only [List.length_drop, List.length_take]; rfl)) ?_; (with_reducible refine (spec_voAll.calls (l0_1.length : Int) t102 _ A3.out).mono ?_); rintro e w' ⟨rfl, ⟨nd, rfl⟩⟩; refine ⟨_, rfl, ?_⟩))
    go_ret
    exact ⟨_, by first | rfl | (simp <;> rfl) | (simp [*] <;> rfl), by (first | exact rp HO_3.out | exact HO_3.out), by repeat (first | (with_reducible first | exact HB.out | apply ba | apply bd | apply be | refine bs ?_ GE101.out) | exact HB.out)⟩

end Go.Proofs.Yticnoiflccbhcaa.Q

namespace Go.Proofs.Yticnoiflccbhcaa.Q
open Go.RowKit Go.Proofs.YticnoiflccbhcaaW.PrintWords Go.Proofs.YticnoiflccbhcaaW.PrintLast Go.Proofs.YticnoiflccbhcaaW.PrintMore Go.Proofs.YticnoiflccbhcaaM
set_option linter.unusedVariables false
set_option linter.unusedSimpArgs false
theorem spec_voAll.v (n : Nat) (hn : n ≤ 60) : spec_voAll.f (n : Int) = some ((2 ^ n - 1 : Nat) : Int) := by
  unfold spec_voAll.f
  have h0 : 0 < 2 ^ n := Nat.two_pow_pos n
  have h : 2 ^ n ≤ 2 ^ 60 := Nat.pow_le_pow_right (by omega) hn
  rw [if_pos (by omega), shl_one n (by omega), w64 (by omega) (by omega)]
  congr 1
  omega
theorem winsL_take (q : Int) (ws : List Int) (m : Nat) (h : m < 2 ^ ws.length) : (winsL q ws).take (m + 1) = (winsL q ws).take m ++ [decide (q ≤ wsum ws m)] := by
  rw [List.take_succ_eq_append_getElem (by rw [winsL_length]; exact h), winsL_get]
theorem spec_voWins.ev_l (q : Int) (ws : List Int) (hl : ws.length ≤ 9) (hw : ∀ x ∈ ws, 0 ≤ x ∧ x ≤ 1000000000) : ∀ (d m : Nat), m + d = 2 ^ ws.length → Ev (fun k => spec_voWins.l0 k ((winsL q ws).take m) (m : Int) q ws) (winsL q ws) := by
  have hp : 2 ^ ws.length ≤ 2 ^ 9 := Nat.pow_le_pow_right (by omega) hl
  have h0 : 0 < 2 ^ ws.length := Nat.two_pow_pos _
  intro d
  induction d with
  | zero =>
    intro m h
    refine ev_step ?_
    simp only [spec_voWins.l0]
    rw [ev_bind (ev_of (spec_voAll.v ws.length (by omega))), ev_neg (by omega), ev_now, List.take_of_length_le (by rw [winsL_length]; omega)]
  | succ d ih =>
    intro m h
    refine ev_step ?_
    simp only [spec_voWins.l0]
    rw [ev_bind (ev_of (spec_voAll.v ws.length (by omega))), ev_pos (by omega), ev_bind (spec_voWeight.ev q ws m (by omega) (by omega) hw), ev_pos (by simp; omega), w64i (n := 512) (by omega) (by omega) (by omega)]
    have := ih (m + 1) (by omega)
    rw [winsL_take q ws m (by omega)] at this
    exact this
theorem spec_voWins.ev (q : Int) (ws : List Int) (hl : ws.length ≤ 9) (hw : ∀ x ∈ ws, 0 ≤ x ∧ x ≤ 1000000000) : Ev (fun k => spec_voWins.f k q ws) (winsL q ws) := by
  have := spec_voWins.ev_l q ws hl hw (2 ^ ws.length) 0 (by omega)
  simpa [spec_voWins.f] using this
end Go.Proofs.Yticnoiflccbhcaa.Q

namespace Go.Proofs.Yticnoiflccbhcaa.Q
open Go.RowKit Go.Proofs.YticnoiflccbhcaaW.PrintWords Go.Proofs.YticnoiflccbhcaaW.PrintLast Go.Proofs.YticnoiflccbhcaaW.PrintMore Go.Proofs.YticnoiflccbhcaaM
set_option linter.unusedVariables false
set_option linter.unusedSimpArgs false
theorem spec_gmWins.ev_l1 (l : List (List Int)) (hl : l.length ≤ 1000000) (hs : ∀ x ∈ l, x.length ≤ 9223372036854775807 ∧ (∀ y ∈ x, 0 ≤ y ∧ y ≤ 60)) (N m : Nat) (hm : m < N) (hN : N ≤ 1000000) (R : List Bool) : ∀ (d j : Nat) (acc : List Bool) (ha : acc.length = N), j + d = l.length → Ev (fun k => spec_gmWins.l0 k l (acc.set m ((acc[m]'(by omega)) || ((l.drop j).any fun x => decide (m &&& maskN x = maskN x)))) (N : Int) ((m : Int) + 1)) R → Ev (fun k => spec_gmWins.l1 k l acc (m : Int) (N : Int) (m : Int) l (l.length : Int) (j : Int)) R := by
  intro d
  induction d with
  | zero =>
    intro j acc ha h hR
    refine ev_step ?_
    simp only [spec_gmWins.l1]
    rw [List.drop_of_length_le (by omega), List.any_nil, Bool.or_false, List.set_getElem_self] at hR
    rw [ev_neg (by omega), w64i (n := N) (by omega) (by omega) (by omega)]
    exact hR
  | succ d ih =>
    intro j acc ha h hR
    refine ev_step ?_
    simp only [spec_gmWins.l1]
    have hj : j < l.length := by omega
    have hma : m < acc.length := by omega
    have hx := hs l[j] (List.getElem_mem hj)
    have hlt : maskN l[j] < 2 ^ 61 := orBits_lt61 l[j] 0 (by omega) hx.2
    rw [ev_pos (by omega), ev_pos (by omega), ev_pos (by omega), w64i (i := (j : Int)) (n := l.length) (by omega) (by omega) (by omega), rd_L2_lt l j hj, ev_bind (spec_voBits.ev l[j] hx.1 hx.2), ev_pos (by omega), ev_pos (by omega), rdOf_lt false acc m hma, Int.toNat_natCast, and_nat m (maskN l[j]) (by omega) (by omega)]
    rw [List.drop_eq_getElem_cons hj, List.any_cons] at hR
    by_cases c : acc[m] = true
    · rw [ev_pos c]
      refine ih (j + 1) (acc.set m true) (by simpa using ha) (by omega) ?_
      rw [c, Bool.true_or] at hR
      rw [List.getElem_set_self, List.set_set, Bool.true_or]
      exact hR
    · rw [ev_neg c]
      refine ih (j + 1) (acc.set m _) (by simpa using ha) (by omega) ?_
      rw [List.getElem_set_self, List.set_set]
      rw [Bool.eq_false_iff.2 c, Bool.false_or] at hR
      have e : ((((m &&& maskN l[j] : Nat) : Int) == ((maskN l[j] : Nat) : Int))) = decide (m &&& maskN l[j] = maskN l[j]) := by
        by_cases c2 : m &&& maskN l[j] = maskN l[j]
        · rw [decide_eq_true c2, c2, beq_self_eq_true]
        · rw [decide_eq_false c2]
          exact beq_eq_false_iff_ne.2 (by omega)
      rw [e]
      exact hR
theorem spec_gmWins.ev_l0 (n : Nat) (hn : n ≤ 18) (l : List (List Int)) (hl : l.length ≤ 1000000) (hs : ∀ x ∈ l, x.length ≤ 9223372036854775807 ∧ (∀ y ∈ x, 0 ≤ y ∧ y ≤ 60)) : ∀ (d m : Nat) (acc : List Bool), m + d = 2 ^ n → acc.length = 2 ^ n → acc.take m = (winsG n l).take m → (∀ j (h : j < acc.length), m ≤ j → acc[j] = false) → Ev (fun k => spec_gmWins.l0 k l acc ((2 ^ n : Nat) : Int) (m : Int)) (winsG n l) := by
  have hp : 2 ^ n ≤ 2 ^ 18 := Nat.pow_le_pow_right (by omega) hn
  have hwl := winsG_length n l
  intro d
  induction d with
  | zero =>
    intro m acc h ha ht hf
    refine ev_step ?_
    simp only [spec_gmWins.l0]
    rw [ev_neg (by omega), ev_now]
    rw [List.take_of_length_le (by omega), List.take_of_length_le (by omega)] at ht
    exact ht
  | succ d ih =>
    intro m acc h ha ht hf
    refine ev_step ?_
    simp only [spec_gmWins.l0]
    have hma : m < acc.length := by omega
    rw [ev_pos (by omega)]
    refine spec_gmWins.ev_l1 l hl hs (2 ^ n) m (by omega) (by omega) (winsG n l) l.length 0 acc ha (by omega) ?_
    rw [hf m hma (Nat.le_refl m), Bool.false_or, List.drop_zero]
    refine ih (m + 1) _ (by omega) (by simpa using ha) ?_ ?_
    · rw [List.take_succ_eq_append_getElem (by simpa using hma), List.take_succ_eq_append_getElem (by omega), List.take_set_of_le (by omega), ht, List.getElem_set_self, winsG_get]
    · intro j hj hmj
      rw [List.length_set] at hj
      rw [List.getElem_set_ne (by omega)]
      exact hf j hj (by omega)
theorem spec_gmWins.ev (n : Nat) (hn : n ≤ 18) (l : List (List Int)) (hl : l.length ≤ 1000000) (hs : ∀ x ∈ l, x.length ≤ 9223372036854775807 ∧ (∀ y ∈ x, 0 ≤ y ∧ y ≤ 60)) : Ev (fun k => spec_gmWins.f k (n : Int) l) (winsG n l) := by
  have hp : 2 ^ n ≤ 2 ^ 18 := Nat.pow_le_pow_right (by omega) hn
  have h0 : 0 < 2 ^ n := Nat.two_pow_pos n
  simp only [spec_gmWins.f]
  have e : (((2 ^ n - 1 : Nat) : Int) + 1) = ((2 ^ n : Nat) : Int) := by omega
  rw [ev_bind (ev_of (spec_voAll.v n (by omega))), e, w64 (by omega) (by omega), ev_pos (by omega), ev_pos (by rw [Int.toNat_natCast]; omega), Int.toNat_natCast]
  simp only [Option.bind_some, List.length_replicate]
  exact spec_gmWins.ev_l0 n hn l hl hs (2 ^ n) 0 _ (by omega) (by simp) (by simp) (fun j h _ => by simp)
theorem spec_gmAll.ev (n : Nat) (hn : n ≤ 18) (l : List (List Int)) (hl : l.length ≤ 1000000) (hs : ∀ x ∈ l, x.length ≤ 9223372036854775807 ∧ (∀ y ∈ x, 0 ≤ y ∧ y ≤ 60)) : Ev (fun k => spec_gmAll.f k (n : Int) l) (winsG n l) := by
  simp only [spec_gmAll.f]
  rw [ev_bind (spec_gmWins.ev n hn l hl hs), ev_now]
end Go.Proofs.Yticnoiflccbhcaa.Q

namespace Go.Proofs.Yticnoiflccbhcaa.Q
open Go.RowKit Go.Proofs.YticnoiflccbhcaaW.PrintWords Go.Proofs.YticnoiflccbhcaaW.PrintLast Go.Proofs.YticnoiflccbhcaaW.PrintMore Go.Proofs.YticnoiflccbhcaaM
set_option linter.unusedVariables false
set_option linter.unusedSimpArgs false
theorem good_sets {n : Int} {l : List (List Int)} (h : GoodG n l) : l.length ≤ 126 ∧ ∀ x ∈ l, x.length ≤ 9223372036854775807 ∧ (∀ y ∈ x, 0 ≤ y ∧ y ≤ 60) := by
  have h9 := h.n9
  have h1 := h.n1
  have hg := (game_iff n l).2 h
  simp only [gameB, Bool.and_eq_true] at hg
  refine ⟨game_few h9 hg.2.2.1 hg.2.2.2, fun x hx => ⟨?_, fun y hy => ?_⟩⟩
  · have := setB_len (h.sets x hx).2 (by omega)
    omega
  · have := setB_in (h.sets x hx).2 y hy
    omega
end Go.Proofs.Yticnoiflccbhcaa.Q
