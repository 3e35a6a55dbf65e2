/- Printed functions, their contracts and plain facts on them: QSpecGmGood; PGmGood; QSpecVoWeight; PVoWeight; QSpecVoWins; PVoWins; QSpecGmAll; PGmWins; PVotesOf; QImplGameVotes; PVotesBy; PGameOfSets; PLawInts; QLawsSzGame; QLawsToGame; PLawGame; PLawSets; PLawGameMark; PLFnExactGameOfSets; O. Conditions: as each theorem states. -/
import Derived.Deep.Slices
import Derived.Lib.SmallJoins
import Derived.OpenShut
import Derived.ShutString
import Derived.ChangeArms
import Derived.ChangeOld
import Derived.Test.YtmmmblfghhcndaaWWords
import Derived.Test.YtmmmblfghhcndaaGGameOfSetsx0
import Derived.Test.YtmmmblfghhcndaaGGameOfSetsx1
import Derived.Test.YtmmmblfghhcndaaGGameOfSetsx2
namespace Go.Proofs.Ytmmmblfghhcndaa.Q
open Go.RowKit Go.Proofs.YtmmmblfghhcndaaX Go.Proofs.YtmmmblfghhcndaaW.PrintWords Go.Proofs.YtmmmblfghhcndaaW.PrintLast Go.Proofs.YtmmmblfghhcndaaW.PrintMore
attribute [local go_sem] max2_int min2_int max_two min_two max_three min_three max_four min_four   -- for this text's walks alone
set_option linter.unusedVariables false
set_option linter.unusedSimpArgs false

/-! ### spec_gmGood: function 75 -/
mutual
def spec_gmGood.l0 : Nat → List (List Int) → Int → Int → Int → List (List Int) → Option (Bool)
 | 0, _, _, _, _, _ => none
 | k + 1, x16, x17, x18, x102000, x102001 => if x18 < x17 then (if 0 ≤ x18 then (if x18 < (x16.length : Int) then (if x18 > 0 then (if 0 ≤ (wrap64 (x18 - 1)) then (if (wrap64 (x18 - 1)) < (x102001.length : Int) then ((spec_voBefore.f k (rd_L2 x102001 (wrap64 (x18 - 1))) (rd_L2 x16 x18)).bind fun t105 => (spec_gmGood.j1 k x18 (rd_L2 x16 x18) x16 x17 x18 (!t105) x102000 x102001)) else (none)) else (none)) else (spec_gmGood.j1 k x18 (rd_L2 x16 x18) x16 x17 x18 false x102000 x102001)) else (none)) else (none)) else (some true)
def spec_gmGood.j1 : Nat → Int → List Int → List (List Int) → Int → Int → Bool → Int → List (List Int) → Option (Bool)
 | 0, _, _, _, _, _, _, _, _ => none
 | k + 1, x3, x4, x16, x17, x18, x35, x102000, x102001 => if x35 = true then (some false) else ((spec_voBits.f k x4).bind fun t106 => (if 0 ≤ x3 then (if x3 ≤ (x102001.length : Int) then ((some (x102001.take (x3 : Int).toNat : List (List Int))).bind fun y107 => (spec_gmGood.l1 k t106 x16 x17 x18 y107 (y107.length : Int) 0 x102000 x102001)) else (none)) else (none)))
def spec_gmGood.l1 : Nat → Int → List (List Int) → Int → Int → List (List Int) → Int → Int → Int → List (List Int) → Option (Bool)
 | 0, _, _, _, _, _, _, _, _, _ => none
 | k + 1, x5, x16, x17, x18, x41, x42, x43, x102000, x102001 => if x43 < x42 then (if 0 ≤ x43 then (if x43 < (x41.length : Int) then ((spec_voBits.f k (rd_L2 x41 x43)).bind fun t112 => (if (Go.bits .and .i64 x5 t112) = x5 then (some false) else (if (Go.bits .and .i64 x5 t112) = t112 then (some false) else (spec_gmGood.l1 k x5 x16 x17 x18 x41 x42 (wrap64 (x43 + 1)) x102000 x102001)))) else (none)) else (none)) else (spec_gmGood.l0 k x16 x17 (wrap64 (x18 + 1)) x102000 x102001)
end
def spec_gmGood.f (k : Nat) (a0_0 : Int) (l0_1 : List (List Int)) : Option (Bool) := (spec_gmSets.f k a0_0 l0_1 126).bind fun t102 => (if t102 = true then (spec_gmGood.l0 k l0_1 (l0_1.length : Int) 0 a0_0 l0_1) else (some false))
theorem spec_gmGood.mono_l : ∀ k, (∀ y0 y1 y2 y3 y4, LeO (spec_gmGood.l0 k y0 y1 y2 y3 y4) (spec_gmGood.l0 (k + 1) y0 y1 y2 y3 y4)) ∧ (∀ y0 y1 y2 y3 y4 y5 y6 y7, LeO (spec_gmGood.j1 k y0 y1 y2 y3 y4 y5 y6 y7) (spec_gmGood.j1 (k + 1) y0 y1 y2 y3 y4 y5 y6 y7)) ∧ (∀ y0 y1 y2 y3 y4 y5 y6 y7 y8, LeO (spec_gmGood.l1 k y0 y1 y2 y3 y4 y5 y6 y7 y8) (spec_gmGood.l1 (k + 1) y0 y1 y2 y3 y4 y5 y6 y7 y8))
 | 0 => ⟨fun _ _ _ _ _ r h => by simp [spec_gmGood.l0] at h, fun _ _ _ _ _ _ _ _ r h => by simp [spec_gmGood.j1] at h, fun _ _ _ _ _ _ _ _ _ r h => by simp [spec_gmGood.l1] at h⟩
 | k + 1 => by
  obtain ⟨ih0, ih1, ih2⟩ := spec_gmGood.mono_l k
  refine ⟨?_, ?_, ?_⟩
  ·intro y0 y1 y2 y3 y4
   unfold spec_gmGood.l0
   repeat' first
   | (with_reducible exact ih0 _ _ _ _ _)
   | (with_reducible exact ih1 _ _ _ _ _ _ _ _)
   | (with_reducible exact ih2 _ _ _ _ _ _ _ _ _)
   | (with_reducible exact spec_gmSets.mono _ _ _ _)
   | (with_reducible exact spec_voBefore.mono _ _ _)
   | (with_reducible exact spec_voBits.mono _ _)
   | (with_reducible exact LeO.refl _)
   | (with_reducible exact LeO.none _)
   | (with_reducible refine LeO.ite ?_ ?_)
   | (with_reducible refine LeO.bind ?_ (fun _ => ?_))
   | exact ih0 _ _ _ _ _
   | exact ih1 _ _ _ _ _ _ _ _
   | exact ih2 _ _ _ _ _ _ _ _ _
   | exact spec_gmSets.mono _ _ _ _
   | exact spec_voBefore.mono _ _ _
   | exact spec_voBits.mono _ _
   | exact LeO.none _
   | refine LeO.ite ?_ ?_
   | refine LeO.bind ?_ (fun _ => ?_)
  ·intro y0 y1 y2 y3 y4 y5 y6 y7
   unfold spec_gmGood.j1
   repeat' first
   | (with_reducible exact ih0 _ _ _ _ _)
   | (with_reducible exact ih1 _ _ _ _ _ _ _ _)
   | (with_reducible exact ih2 _ _ _ _ _ _ _ _ _)
   | (with_reducible exact spec_gmSets.mono _ _ _ _)
   | (with_reducible exact spec_voBefore.mono _ _ _)
   | (with_reducible exact spec_voBits.mono _ _)
   | (with_reducible exact LeO.refl _)
   | (with_reducible exact LeO.none _)
   | (with_reducible refine LeO.ite ?_ ?_)
   | (with_reducible refine LeO.bind ?_ (fun _ => ?_))
   | exact ih0 _ _ _ _ _
   | exact ih1 _ _ _ _ _ _ _ _
   | exact ih2 _ _ _ _ _ _ _ _ _
   | exact spec_gmSets.mono _ _ _ _
   | exact spec_voBefore.mono _ _ _
   | exact spec_voBits.mono _ _
   | exact LeO.none _
   | refine LeO.ite ?_ ?_
   | refine LeO.bind ?_ (fun _ => ?_)
  ·intro y0 y1 y2 y3 y4 y5 y6 y7 y8
   unfold spec_gmGood.l1
   repeat' first
   | (with_reducible exact ih0 _ _ _ _ _)
   | (with_reducible exact ih1 _ _ _ _ _ _ _ _)
   | (with_reducible exact ih2 _ _ _ _ _ _ _ _ _)
   | (with_reducible exact spec_gmSets.mono _ _ _ _)
   | (with_reducible exact spec_voBefore.mono _ _ _)
   | (with_reducible exact spec_voBits.mono _ _)
   | (with_reducible exact LeO.refl _)
   | (with_reducible exact LeO.none _)
   | (with_reducible refine LeO.ite ?_ ?_)
   | (with_reducible refine LeO.bind ?_ (fun _ => ?_))
   | exact ih0 _ _ _ _ _
   | exact ih1 _ _ _ _ _ _ _ _
   | exact ih2 _ _ _ _ _ _ _ _ _
   | exact spec_gmSets.mono _ _ _ _
   | exact spec_voBefore.mono _ _ _
   | exact spec_voBits.mono _ _
   | exact LeO.none _
   | refine LeO.ite ?_ ?_
   | refine LeO.bind ?_ (fun _ => ?_)
theorem spec_gmGood.mono : ∀ a0 a1 k, LeO (spec_gmGood.f k a0 a1) (spec_gmGood.f (k + 1) a0 a1) := by
 intro a0 a1 k
 obtain ⟨ih0, ih1, ih2⟩ := spec_gmGood.mono_l k
 unfold spec_gmGood.f
 repeat' first
   | (with_reducible exact ih0 _ _ _ _ _)
   | (with_reducible exact ih1 _ _ _ _ _ _ _ _)
   | (with_reducible exact ih2 _ _ _ _ _ _ _ _ _)
   | (with_reducible exact spec_gmSets.mono _ _ _ _)
   | (with_reducible exact spec_voBefore.mono _ _ _)
   | (with_reducible exact spec_voBits.mono _ _)
   | (with_reducible exact LeO.refl _)
   | (with_reducible exact LeO.none _)
   | (with_reducible refine LeO.ite ?_ ?_)
   | (with_reducible refine LeO.bind ?_ (fun _ => ?_))
   | exact ih0 _ _ _ _ _
   | exact ih1 _ _ _ _ _ _ _ _
   | exact ih2 _ _ _ _ _ _ _ _ _
   | exact spec_gmSets.mono _ _ _ _
   | exact spec_voBefore.mono _ _ _
   | exact spec_voBits.mono _ _
   | exact LeO.none _
   | refine LeO.ite ?_ ?_
   | refine LeO.bind ?_ (fun _ => ?_)
set_option maxHeartbeats 8000000 in
set_option maxRecDepth 100000 in
theorem spec_gmGood.calls (k : Nat) (a0_0 : Int) (A0_1 : Option Addr) (c0_1 : Nat) (l0_1 : List (List Int)) (r : Bool) (w : World) (hr0_1 : Kd.C (Kd.slice 3 (Kd.int .i64)) w A0_1 l0_1.length l0_1) (hc0_1 : l0_1.length ≤ c0_1) (h : spec_gmGood.f k a0_0 l0_1 = some r) :
  Calls Try.prog 75 #[.agg #[.int .i64 a0_0, .slice A0_1 l0_1.length c0_1]] w fun e w' => e = .returned (.bool r) ∧ Below w.heap.size w w' := by
 have hu28 := Try.underlying28
 have HR0_1 := Aside0.mk hr0_1
 have HC0_1 := Aside0.mk hc0_1
 clear hr0_1 hc0_1
 have HB := Aside0.mk (Below.refl w.heap.size w)
 have H : ((spec_gmSets.f k a0_0 l0_1 126).bind fun t102 => (if t102 = true then (spec_gmGood.l0 k l0_1 (l0_1.length : Int) 0 a0_0 l0_1) else (some false))) = some r := h
 clear h
 replace H := oB H
 obtain ⟨t102, A20, H⟩ := H
 replace H : (if t102 = true then (spec_gmGood.l0 k l0_1 (l0_1.length : Int) 0 a0_0 l0_1) else (some false)) = some r := H
 have A2 := Aside0.mk A20
 clear A20
 by_cases c3 : t102 = true
 ·subst c3
  have H1 : (spec_gmGood.l0 k l0_1 (l0_1.length : Int) 0 a0_0 l0_1) = some r := by rw [if_pos rfl] at H; exact H
  clear H
  have H := H1
  clear H1
  have H' := Aside0.mk H
  clear H
  go_enter Try.func75, Try.ntmps75
  go_wp2_with (first | ((with_reducible refine gate_dst (N := 1) rfl ?_); refine box_event ?hg (N := 1) ?hd (cs := #[.int .i64 a0_0, .slice A0_1 l0_1.length c0_1]) (t := 28) ?hr ?_; (case hd => rfl); (case hg => rfl); (case hr => first | (go_simp; done) | (go_simp; rfl)); intro gb101 hg w4 hbox hb; have n0_ := Aside0.mk (below_step (by repeat (first | (with_reducible first | exact HB.out | apply ba | apply bd | apply be) | exact HB.out)) hb); have n1_ := Aside0.mk (hbox); have n2_ := Aside0.mk ((by rw [hg]; exact (below_size (by repeat (first | (with_reducible first | exact HB.out | apply ba | apply bd | apply be) | exact HB.out))) : w.heap.size ≤ gb101)); have n3_ := Aside0.mk ((by rw [hg]; exact (below_size (by repeat (first | (with_reducible first | exact HB.out | apply ba | apply bd | apply be) | exact HB.out))) : w.heap.size ≤ gb101)); clear HB; have HB := n0_; have BK101 := n1_; have GW101 := n2_; have GE101 := n3_; clear n0_ n1_ n2_ n3_; clear hb hbox hg; have hcz5_0 : w4.cell? ⟨gb101, 0, none⟩ = some (.int .i64 a0_0) := (blk_cell BK101.out 0).trans rfl; have hcz5_1 : w4.cell? ⟨gb101, 1, none⟩ = some (.slice A0_1 l0_1.length c0_1) := (blk_cell BK101.out 1).trans rfl; have hfz5_0 := blk_frozen BK101.out 0; have hfz5_1 := blk_frozen BK101.out 1) | ((with_reducible refine gate_callee (f := 62) rfl ?_); refine goesL_ (some 13) rfl rfl Try.func62 (by kernel_rfl) rfl #[.int .i64 a0_0, .slice A0_1 l0_1.length c0_1, .int .i64 126] rfl (by (try simp only [mA, mC, mN]); first | done | rfl | (simp only [List.length_drop, List.length_take]; rfl)) ?_; (with_reducible refine (spec_gmSets.calls k a0_0 _ _ l0_1 126 true _ ?side1 ?side2 A2.out).mono ?_); (case side1 => repeat (first | exact (Kd.C_below HR0_1.out HB.out) | (with_reducible refine Kd.C_alloc ?_ _) | (with_reducible refine Kd.C_drewN ?_ _) | (with_reducible refine Kd.C_drew ?_))); (case side2 => exact HC0_1.out); rintro e w' ⟨rfl, ⟨nd, rfl⟩⟩; refine ⟨_, rfl, ?_⟩))
  go_loopg [18] k (fun kq v18 w' => ∃ (x18_1 : Int), v18 = .int .i64 x18_1 ∧ Aside0 (spec_gmGood.l0 kq l0_1 (l0_1.length : Int) x18_1 a0_0 l0_1 = some r) ∧ Aside0 (kq ≤ k) ∧ Aside0 (w'.heap[gb101]? = some (.cells #[.int .i64 a0_0, (.slice A0_1 l0_1.length c0_1)] 28 (0, 0))) ∧ Aside0 (Below w.heap.size w w'))
  case atStart => exact ⟨(0), (by first | rfl | (simp; done) | (simp [*]; done)), H', ⟨Nat.le_refl _⟩, ⟨by (first | exact bp BK101.out | exact BK101.out)⟩, ⟨by repeat (first | (with_reducible first | exact HB.out | apply ba | apply bd | apply be | refine bs ?_ GE101.out) | exact HB.out)⟩⟩
  case round =>
   clear H'
   try clear p2
   try clear c3
   try clear hcz5_0
   try clear hcz5_1
   try clear hfz5_0
   try clear hfz5_1
   obtain ⟨x18_1, rfl, HA, HK1, BK101, HB⟩ := hrel
   cases gk with
   | zero => exact absurd HA.out (by simp [spec_gmGood.l0])
   | succ k1 =>
    have H := HA.out
    clear HA
    simp only [spec_gmGood.l0] at H
    by_cases c6 : x18_1 < (l0_1.length : Int)
    ·rw [if_pos c6] at H
     have c6b0 : decide (x18_1 < (l0_1.length : Int)) = true := decide_eq_true c6
     clear c6
     by_cases c7 : 0 ≤ x18_1
     ·rw [if_pos c7] at H
      have c7b0 : decide (0 ≤ x18_1) = true := decide_eq_true c7
      clear c7
      by_cases c8 : x18_1 < (l0_1.length : Int)
      ·rw [if_pos c8] at H
       have c8b0 : decide (x18_1 < (l0_1.length : Int)) = true := decide_eq_true c8
       clear c8
       have HC9 := Aside0.mk H
       clear H
       have p103 : 0 ≤ (x18_1 : Int) := of_decide_eq_true (by first | (with_reducible assumption) | assumption)
       have q103 : x18_1 < (l0_1.length : Int) := of_decide_eq_true (by first | (with_reducible assumption) | assumption)
       obtain ⟨ad103, A103_0, c103_0, e103, hx103_0, hl103_0, hi103_0⟩ := at_L2 HR0_1.out x18_1 p103 q103
       cases e103
       replace hx103_0 := (HB.out.cell (World.block_lt_of_cell? w _ hx103_0)).trans hx103_0
       have HR103_0 := Aside0.mk hi103_0
       have HC103_0 := Aside0.mk hl103_0
       clear hi103_0 hl103_0
       replace p103 := eq_true p103
       replace q103 := eq_true q103
       go_upto_region 6 with (fail)
       go_cut [35] (fun v35 wc => ∃ (kq : Nat) (x35_8 : Bool), v35 = .bool x35_8 ∧ Aside0 (spec_gmGood.j1 kq x18_1 (rd_L2 l0_1 x18_1) l0_1 (l0_1.length : Int) x18_1 x35_8 a0_0 l0_1 = some r) ∧ Aside0 (kq ≤ k1) ∧ Aside0 (wc.heap[gb101]? = some (.cells #[.int .i64 a0_0, (.slice (some ad103) l0_1.length c0_1)] 28 (0, 0))) ∧ Aside0 (Below w.heap.size w wc))
       case first =>
        have H := HC9.out
        clear HC9
        by_cases c10 : x18_1 > 0
        ·rw [if_pos c10] at H
         have c10b0 : decide (0 < x18_1) = true := decide_eq_true c10
         clear c10
         (first | rw [c10b0] | (simp only [i64_w, i32_w]; rw [c10b0]) | skip)
         obtain ⟨ji11, hji11⟩ : ∃ j_ : Int, (wrap64 (x18_1 - 1)) = j_ := ⟨_, rfl⟩
         replace H : (if 0 ≤ (ji11) then (if (ji11) < (l0_1.length : Int) then ((spec_voBefore.f k1 (rd_L2 l0_1 (ji11)) (rd_L2 l0_1 x18_1)).bind fun t105 => (spec_gmGood.j1 k1 x18_1 (rd_L2 l0_1 x18_1) l0_1 (l0_1.length : Int) x18_1 (!t105) a0_0 l0_1)) else (none)) else (none)) = some r := by first | (rw [hji11] at H; exact H) | (simp only [hji11] at H ⊢; exact H)
         have hji11w : (IntKind.i64.wrap (x18_1 - 1)) = ji11 := (i64_w _).trans hji11
         by_cases c12 : 0 ≤ (ji11)
         ·rw [if_pos c12] at H
          have c12b0 : decide (0 ≤ (ji11)) = true := decide_eq_true c12
          clear c12
          by_cases c13 : (ji11) < (l0_1.length : Int)
          ·rw [if_pos c13] at H
           have c13b0 : decide ((ji11) < (l0_1.length : Int)) = true := decide_eq_true c13
           clear c13
           replace H := oB H
           obtain ⟨t105, A140, H⟩ := H
           replace H : (spec_gmGood.j1 k1 x18_1 (rd_L2 l0_1 x18_1) l0_1 (l0_1.length : Int) x18_1 (!t105) a0_0 l0_1) = some r := H
           have A14 := Aside0.mk A140
           clear A140
           have H' := Aside0.mk H
           clear H
           have hcz15_0 : wr.cell? ⟨gb101, 0, none⟩ = some (.int .i64 a0_0) := (blk_cell BK101.out 0).trans rfl
           have hcz15_1 : wr.cell? ⟨gb101, 1, none⟩ = some (.slice (some ad103) l0_1.length c0_1) := (blk_cell BK101.out 1).trans rfl
           have hfz15_0 := blk_frozen BK101.out 0
           have hfz15_1 := blk_frozen BK101.out 1
           have p104 : 0 ≤ ((ji11) : Int) := of_decide_eq_true (by first | (with_reducible assumption) | assumption)
           have q104 : (ji11) < (l0_1.length : Int) := of_decide_eq_true (by first | (with_reducible assumption) | assumption)
           obtain ⟨ad104, A104_0, c104_0, e104, hx104_0, hl104_0, hi104_0⟩ := at_L2 HR0_1.out (ji11) p104 q104
           obtain rfl : ad103 = ad104 := (by injection e104)
           replace hx104_0 := (HB.out.cell (World.block_lt_of_cell? w _ hx104_0)).trans hx104_0
           have HR104_0 := Aside0.mk hi104_0
           have HC104_0 := Aside0.mk hl104_0
           clear hi104_0 hl104_0
           replace p104 := eq_true p104
           replace q104 := eq_true q104
           go_wp2_with (first | (go_at_call 117; (with_reducible refine (spec_voBefore.calls k1 _ _ (rd_L2 l0_1 (ji11)) _ _ (rd_L2 l0_1 x18_1) t105 _ ?side1 ?side2 ?side3 ?side4 A14.out).mono ?_); (case side1 => repeat (first | exact (Kd.C_below HR104_0.out HB.out) | (with_reducible refine Kd.C_alloc ?_ _) | (with_reducible refine Kd.C_drewN ?_ _) | (with_reducible refine Kd.C_drew ?_))); (case side2 => exact HC104_0.out); (case side3 => repeat (first | exact (Kd.C_below HR103_0.out HB.out) | (with_reducible refine Kd.C_alloc ?_ _) | (with_reducible refine Kd.C_drewN ?_ _) | (with_reducible refine Kd.C_drew ?_))); (case side4 => exact HC103_0.out); rintro e w' ⟨rfl, ⟨nd, rfl⟩⟩))
           go_meet
           case rel => exact ⟨_, (!t105), (by first | rfl | (simp; done) | (simp [*]; done)), H', ⟨by have := HK1.out; first | omega | exact Nat.le_refl _⟩, ⟨by (first | exact bp BK101.out | exact BK101.out)⟩, ⟨by repeat (first | (with_reducible first | exact HB.out | apply ba | apply bd | apply be | refine bs ?_ GE101.out) | exact HB.out)⟩⟩
          ·rw [if_neg c13] at H
           exact absurd H (by simp)
         ·rw [if_neg c12] at H
          exact absurd H (by simp)
        ·rw [if_neg c10] at H
         have c10b0 : decide (0 < x18_1) = false := decide_eq_false c10
         clear c10
         (first | rw [c10b0] | (simp only [i64_w, i32_w]; rw [c10b0]) | skip)
         have H' := Aside0.mk H
         clear H
         go_wp2
         go_meet
         case rel => exact ⟨_, (false), (by first | rfl | (simp; done) | (simp [*]; done)), H', ⟨by have := HK1.out; first | omega | exact Nat.le_refl _⟩, ⟨by (first | exact bp BK101.out | exact BK101.out)⟩, ⟨by repeat (first | (with_reducible first | exact HB.out | apply ba | apply bd | apply be | refine bs ?_ GE101.out) | exact HB.out)⟩⟩
       case rest =>
        clear HC9
        try clear c1
        try clear p1
        try clear q1
        try clear hx1
        try clear p2
        try clear c3
        try clear c6
        try clear c6b0
        try clear p6
        try clear c7
        try clear c7b0
        try clear c8
        try clear c8b0
        try clear c10
        try clear c10b0
        try clear p10
        try clear q10
        try clear hx10
        try clear c12
        try clear c12b0
        try clear c13
        try clear c13b0
        try clear hcz15_0
        try clear hcz15_1
        try clear hcz5_0
        try clear hcz5_1
        try clear hfz15_0
        try clear hfz15_1
        try clear hfz5_0
        try clear hfz5_1
        try clear hx103_0
        try clear hx104_0
        try clear p103
        try clear p104
        try clear p2
        try clear q103
        try clear q104
        obtain ⟨kq, x35_8, rfl, HA, HJ8, BK101, HB⟩ := hcut
        cases kq with
        | zero => exact absurd HA.out (by simp [spec_gmGood.j1])
        | succ kj8 =>
         have H := HA.out
         clear HA
         simp only [spec_gmGood.j1] at H
         by_cases c16 : x35_8 = true
         ·subst c16
          have H1 : (some false) = some r := by rw [if_pos rfl] at H; exact H
          clear H
          have H := H1
          clear H1
          obtain rfl := Option.some.inj H
          go_wp2
          go_ret
          exact ⟨by first | rfl | (simp <;> rfl) | (simp [*] <;> rfl), by repeat (first | (with_reducible first | exact HB.out | apply ba | apply bd | apply be | refine bs ?_ GE101.out) | exact HB.out)⟩
         ·replace c16 := Bool.eq_false_iff.mpr c16
          subst c16
          have H1 : ((spec_voBits.f kj8 (rd_L2 l0_1 x18_1)).bind fun t106 => (if 0 ≤ x18_1 then (if x18_1 ≤ (l0_1.length : Int) then ((some (l0_1.take (x18_1 : Int).toNat : List (List Int))).bind fun y107 => (spec_gmGood.l1 kj8 t106 l0_1 (l0_1.length : Int) x18_1 y107 (y107.length : Int) 0 a0_0 l0_1)) else (none)) else (none))) = some r := by rw [if_neg (show ¬ (false = true) by decide)] at H; exact H
          clear H
          have H := H1
          clear H1
          replace H := oB H
          obtain ⟨t106, A170, H⟩ := H
          replace H : (if 0 ≤ x18_1 then (if x18_1 ≤ (l0_1.length : Int) then ((some (l0_1.take (x18_1 : Int).toNat : List (List Int))).bind fun y107 => (spec_gmGood.l1 kj8 t106 l0_1 (l0_1.length : Int) x18_1 y107 (y107.length : Int) 0 a0_0 l0_1)) else (none)) else (none)) = some r := H
          have A17 := Aside0.mk A170
          clear A170
          by_cases c18 : 0 ≤ x18_1
          ·rw [if_pos c18] at H
           have c18b0 := eq_true c18
           have c18b1 : decide (0 ≤ x18_1) = true := decide_eq_true c18
           clear c18
           by_cases c19 : x18_1 ≤ (l0_1.length : Int)
           ·rw [if_pos c19] at H
            have c19b0 := eq_true c19
            have c19b1 : decide (x18_1 ≤ (l0_1.length : Int)) = true := decide_eq_true c19
            clear c19
            obtain ⟨y107, hy107⟩ : ∃ y_ : List (List Int), y_ = (l0_1.take (x18_1 : Int).toNat) := ⟨_, rfl⟩
            replace H : (spec_gmGood.l1 kj8 t106 l0_1 (l0_1.length : Int) x18_1 y107 (y107.length : Int) 0 a0_0 l0_1) = some r := by first | (rw [hy107]; with_reducible exact H) | (have H2_ := (Option.bind_some _ _).symm.trans H; rw [hy107]; with_reducible exact H2_) | (have H2_ := (Option.bind_some _ _).symm.trans H; with_reducible exact H2_) | with_reducible exact H | (rw [hy107]; exact H) | exact H
            have Ny107 := Aside0.mk hy107
            clear hy107
            have H' := Aside0.mk H
            clear H
            go_wp2_with (first | ((with_reducible refine gate_callee (f := 76) rfl ?_); refine goesL_ (some 37) rfl rfl Try.func76 (by kernel_rfl) rfl #[.slice A103_0 (rd_L2 l0_1 x18_1).length c103_0] rfl (by (try simp only [mA, mC, mN]); first | done | rfl | (simp only [List.length_drop, List.length_take]; rfl)) ?_; (with_reducible refine (spec_voBits.calls kj8 _ _ (rd_L2 l0_1 x18_1) t106 _ ?side1 ?side2 A17.out).mono ?_); (case side1 => repeat (first | exact (Kd.C_below HR103_0.out HB.out) | (with_reducible refine Kd.C_alloc ?_ _) | (with_reducible refine Kd.C_drewN ?_ _) | (with_reducible refine Kd.C_drew ?_))); (case side2 => exact HC103_0.out); rintro e w' ⟨rfl, ⟨nd, rfl⟩⟩; refine ⟨_, rfl, ?_⟩; have hcz20_0 : wc.cell? ⟨gb101, 0, none⟩ = some (.int .i64 a0_0) := (blk_cell BK101.out 0).trans rfl; have hcz20_1 : wc.cell? ⟨gb101, 1, none⟩ = some (.slice (some ad103) l0_1.length c0_1) := (blk_cell BK101.out 1).trans rfl; have hfz20_0 := blk_frozen BK101.out 0; have hfz20_1 := blk_frozen BK101.out 1; have q21 : (x18_1 : Int) ≤ ((l0_1.length : Int) : Int) := of_decide_eq_true (by first | (with_reducible assumption) | assumption); obtain ⟨i021, hi021, _, hsz21, _⟩ := info_parts info36; have hroom21 : l0_1.length ≤ c0_1 := HC0_1.out; have hC21 : Kd.C (Kd.slice 3 (Kd.int .i64)) _ (some ad103) l0_1.length l0_1 := HR0_1.out; have hcut21 := cut_to (P := Try.prog) 25 36 .i64 Try.underlying25 hi021 (some ad103) l0_1.length c0_1 x18_1 (of_decide_eq_true (by first | (with_reducible assumption) | assumption)) q21 hroom21; have hr21 := Kd.C_take (m := (x18_1 : Int).toNat) hC21 (by omega); have hy21 : y107.length = (x18_1 : Int).toNat := (by rw [Ny107.out, List.length_take]; omega); rw [← Ny107.out] at hr21; rw [← hy21] at hcut21; have HR110 := Aside0.mk hr21; have HC110 := Aside0.mk (show y107.length ≤ c0_1 from by omega); clear hr21 hC21 hroom21 hi021 hsz21; have KY21 := Aside0.mk hy21; clear hy21; replace q21 := eq_true q21))
            go_loopg [43] kj8 (fun kq v43 w' => ∃ (x43_3 : Int), v43 = .int .i64 x43_3 ∧ Aside0 (spec_gmGood.l1 kq t106 l0_1 (l0_1.length : Int) x18_1 y107 (y107.length : Int) x43_3 a0_0 l0_1 = some r) ∧ Aside0 (kq ≤ kj8) ∧ Aside0 (w'.heap[gb101]? = some (.cells #[.int .i64 a0_0, (.slice (some ad103) l0_1.length c0_1)] 28 (0, 0))) ∧ Aside0 (Below w.heap.size w w'))
            case atStart => exact ⟨(0), (by first | rfl | (simp; done) | (simp [*]; done)), H', ⟨Nat.le_refl _⟩, ⟨by (first | exact bp BK101.out | exact BK101.out)⟩, ⟨by repeat (first | (with_reducible first | exact HB.out | apply ba | apply bd | apply be | refine bs ?_ GE101.out) | exact HB.out)⟩⟩
            case round =>
             clear H'
             try clear c1
             try clear p1
             try clear q1
             try clear hx1
             try clear p2
             try clear q2
             try clear c3
             try clear c6
             try clear c6b0
             try clear p6
             try clear c7
             try clear c7b0
             try clear c8
             try clear c8b0
             try clear c10
             try clear c10b0
             try clear p10
             try clear q10
             try clear hx10
             try clear c12
             try clear c12b0
             try clear c13
             try clear c13b0
             try clear c16
             try clear c18
             try clear c18b0
             try clear c18b1
             try clear c19
             try clear c19b0
             try clear c19b1
             try clear q21
             try clear hcz15_0
             try clear hcz15_1
             try clear hcz20_0
             try clear hcz20_1
             try clear hcz5_0
             try clear hcz5_1
             try clear hfz15_0
             try clear hfz15_1
             try clear hfz20_0
             try clear hfz20_1
             try clear hfz5_0
             try clear hfz5_1
             try clear hx103_0
             try clear hx104_0
             try clear p1
             try clear p10
             try clear p103
             try clear p104
             try clear p2
             try clear p6
             try clear q1
             try clear q10
             try clear q103
             try clear q104
             try clear q21
             obtain ⟨x43_3, rfl, HA, HK3, BK101, HB⟩ := hrel
             cases gk with
             | zero => exact absurd HA.out (by simp [spec_gmGood.l1])
             | succ k3 =>
              have H := HA.out
              clear HA
              simp only [spec_gmGood.l1] at H
              by_cases c22 : x43_3 < (y107.length : Int)
              ·rw [if_pos c22] at H
               have c22b0 : decide (x43_3 < (y107.length : Int)) = true := decide_eq_true c22
               clear c22
               by_cases c23 : 0 ≤ x43_3
               ·rw [if_pos c23] at H
                have c23b0 : decide (0 ≤ x43_3) = true := decide_eq_true c23
                clear c23
                by_cases c24 : x43_3 < (y107.length : Int)
                ·rw [if_pos c24] at H
                 have c24b0 : decide (x43_3 < (y107.length : Int)) = true := decide_eq_true c24
                 clear c24
                 replace H := oB H
                 obtain ⟨t112, A250, H⟩ := H
                 replace H : (if (Go.bits .and .i64 t106 t112) = t106 then (some false) else (if (Go.bits .and .i64 t106 t112) = t112 then (some false) else (spec_gmGood.l1 k3 t106 l0_1 (l0_1.length : Int) x18_1 y107 (y107.length : Int) (wrap64 (x43_3 + 1)) a0_0 l0_1))) = some r := H
                 have A25 := Aside0.mk A250
                 clear A250
                 by_cases c26 : (Go.bits .and .i64 t106 t112) = t106
                 ·rw [if_pos c26] at H
                  have c26b0 : ((Go.bits .and .i64 t106 t112) == t106) = true := beq_iff_eq.mpr c26
                  have c26b1 : ((Go.bits .and .i64 t106 t112) != t106) = false := bne_eq_false_iff_eq.mpr c26
                  clear c26
                  obtain rfl := Option.some.inj H
                  have p111 : 0 ≤ (x43_3 : Int) := of_decide_eq_true (by first | (with_reducible assumption) | assumption)
                  have q111 : x43_3 < (y107.length : Int) := of_decide_eq_true (by first | (with_reducible assumption) | assumption)
                  obtain ⟨ad111, A111_0, c111_0, e111, hx111_0, hl111_0, hi111_0⟩ := at_L2 HR110.out x43_3 p111 q111
                  obtain rfl : ad103 = ad111 := (by injection e111)
                  replace hx111_0 := (HB.out.cell (World.block_lt_of_cell? w _ hx111_0)).trans hx111_0
                  have HR111_0 := Aside0.mk hi111_0
                  have HC111_0 := Aside0.mk hl111_0
                  clear hi111_0 hl111_0
                  replace p111 := eq_true p111
                  replace q111 := eq_true q111
                  go_wp2_with (first | ((with_reducible refine gate_callee (f := 76) rfl ?_); refine goesL_ (some 48) rfl rfl Try.func76 (by kernel_rfl) rfl #[.slice A111_0 (rd_L2 y107 x43_3).length c111_0] rfl (by (try simp only [mA, mC, mN]); first | done | rfl | (simp only [List.length_drop, List.length_take]; rfl)) ?_; (with_reducible refine (spec_voBits.calls k3 _ _ (rd_L2 y107 x43_3) t112 _ ?side1 ?side2 A25.out).mono ?_); (case side1 => repeat (first | exact (Kd.C_below HR111_0.out HB.out) | (with_reducible refine Kd.C_alloc ?_ _) | (with_reducible refine Kd.C_drewN ?_ _) | (with_reducible refine Kd.C_drew ?_))); (case side2 => exact HC111_0.out); rintro e w' ⟨rfl, ⟨nd, rfl⟩⟩; refine ⟨_, rfl, ?_⟩))
                  go_ret
                  exact ⟨by first | rfl | (simp <;> rfl) | (simp [*] <;> rfl), by repeat (first | (with_reducible first | exact HB.out | apply ba | apply bd | apply be | refine bs ?_ GE101.out) | exact HB.out)⟩
                 ·rw [if_neg c26] at H
                  have c26b0 : ((Go.bits .and .i64 t106 t112) == t106) = false := beq_eq_false_iff_ne.mpr c26
                  have c26b1 : ((Go.bits .and .i64 t106 t112) != t106) = true := bne_iff_ne.mpr c26
                  by_cases c27 : (Go.bits .and .i64 t106 t112) = t112
                  ·rw [if_pos c27] at H
                   have c27b0 : ((Go.bits .and .i64 t106 t112) == t112) = true := beq_iff_eq.mpr c27
                   have c27b1 : ((Go.bits .and .i64 t106 t112) != t112) = false := bne_eq_false_iff_eq.mpr c27
                   clear c27
                   obtain rfl := Option.some.inj H
                   have p111 : 0 ≤ (x43_3 : Int) := of_decide_eq_true (by first | (with_reducible assumption) | assumption)
                   have q111 : x43_3 < (y107.length : Int) := of_decide_eq_true (by first | (with_reducible assumption) | assumption)
                   obtain ⟨ad111, A111_0, c111_0, e111, hx111_0, hl111_0, hi111_0⟩ := at_L2 HR110.out x43_3 p111 q111
                   obtain rfl : ad103 = ad111 := (by injection e111)
                   replace hx111_0 := (HB.out.cell (World.block_lt_of_cell? w _ hx111_0)).trans hx111_0
                   have HR111_0 := Aside0.mk hi111_0
                   have HC111_0 := Aside0.mk hl111_0
                   clear hi111_0 hl111_0
                   replace p111 := eq_true p111
                   replace q111 := eq_true q111
                   go_wp2_with (first | ((with_reducible refine gate_callee (f := 76) rfl ?_); refine goesL_ (some 48) rfl rfl Try.func76 (by kernel_rfl) rfl #[.slice A111_0 (rd_L2 y107 x43_3).length c111_0] rfl (by (try simp only [mA, mC, mN]); first | done | rfl | (simp only [List.length_drop, List.length_take]; rfl)) ?_; (with_reducible refine (spec_voBits.calls k3 _ _ (rd_L2 y107 x43_3) t112 _ ?side1 ?side2 A25.out).mono ?_); (case side1 => repeat (first | exact (Kd.C_below HR111_0.out HB.out) | (with_reducible refine Kd.C_alloc ?_ _) | (with_reducible refine Kd.C_drewN ?_ _) | (with_reducible refine Kd.C_drew ?_))); (case side2 => exact HC111_0.out); rintro e w' ⟨rfl, ⟨nd, rfl⟩⟩; refine ⟨_, rfl, ?_⟩))
                   go_ret
                   exact ⟨by first | rfl | (simp <;> rfl) | (simp [*] <;> rfl), by repeat (first | (with_reducible first | exact HB.out | apply ba | apply bd | apply be | refine bs ?_ GE101.out) | exact HB.out)⟩
                  ·rw [if_neg c27] at H
                   have c27b0 : ((Go.bits .and .i64 t106 t112) == t112) = false := beq_eq_false_iff_ne.mpr c27
                   have c27b1 : ((Go.bits .and .i64 t106 t112) != t112) = true := bne_iff_ne.mpr c27
                   have H' := Aside0.mk H
                   clear H
                   have p111 : 0 ≤ (x43_3 : Int) := of_decide_eq_true (by first | (with_reducible assumption) | assumption)
                   have q111 : x43_3 < (y107.length : Int) := of_decide_eq_true (by first | (with_reducible assumption) | assumption)
                   obtain ⟨ad111, A111_0, c111_0, e111, hx111_0, hl111_0, hi111_0⟩ := at_L2 HR110.out x43_3 p111 q111
                   obtain rfl : ad103 = ad111 := (by injection e111)
                   replace hx111_0 := (HB.out.cell (World.block_lt_of_cell? w _ hx111_0)).trans hx111_0
                   have HR111_0 := Aside0.mk hi111_0
                   have HC111_0 := Aside0.mk hl111_0
                   clear hi111_0 hl111_0
                   replace p111 := eq_true p111
                   replace q111 := eq_true q111
                   go_wp2_with (first | ((with_reducible refine gate_callee (f := 76) rfl ?_); refine goesL_ (some 48) rfl rfl Try.func76 (by kernel_rfl) rfl #[.slice A111_0 (rd_L2 y107 x43_3).length c111_0] rfl (by (try simp only [mA, mC, mN]); first | done | rfl | (simp only [List.length_drop, List.length_take]; rfl)) ?_; (with_reducible refine (spec_voBits.calls k3 _ _ (rd_L2 y107 x43_3) t112 _ ?side1 ?side2 A25.out).mono ?_); (case side1 => repeat (first | exact (Kd.C_below HR111_0.out HB.out) | (with_reducible refine Kd.C_alloc ?_ _) | (with_reducible refine Kd.C_drewN ?_ _) | (with_reducible refine Kd.C_drew ?_))); (case side2 => exact HC111_0.out); rintro e w' ⟨rfl, ⟨nd, rfl⟩⟩; refine ⟨_, rfl, ?_⟩))
                   go_roundg k3
                   case measure => have := HK1.out; have := HJ8.out; have := HK3.out; omega
                   case rel => exact ⟨(wrap64 (x43_3 + 1)), (by first | rfl | (simp; done) | (simp [*]; done)), H', ⟨by have := HK1.out; have := HJ8.out; have := HK3.out; omega⟩, ⟨by (first | exact bp BK101.out | exact BK101.out)⟩, ⟨by repeat (first | (with_reducible first | exact HB.out | apply ba | apply bd | apply be | refine bs ?_ GE101.out) | exact HB.out)⟩⟩
                ·rw [if_neg c24] at H
                 exact absurd H (by simp)
               ·rw [if_neg c23] at H
                exact absurd H (by simp)
              ·rw [if_neg c22] at H
               have c22b0 : decide (x43_3 < (y107.length : Int)) = false := decide_eq_false c22
               clear c22
               have H' := Aside0.mk H
               clear H
               go_wp2
               go_roundg k3
               case measure => have := HK1.out; have := HJ8.out; have := HK3.out; omega
               case rel => exact ⟨(wrap64 (x18_1 + 1)), (by first | rfl | (simp; done) | (simp [*]; done)), H', ⟨by have := HK1.out; have := HJ8.out; have := HK3.out; omega⟩, ⟨by (first | exact bp BK101.out | exact BK101.out)⟩, ⟨by repeat (first | (with_reducible first | exact HB.out | apply ba | apply bd | apply be | refine bs ?_ GE101.out) | exact HB.out)⟩⟩
           ·rw [if_neg c19] at H
            exact absurd H (by simp)
          ·rw [if_neg c18] at H
           exact absurd H (by simp)
      ·rw [if_neg c8] at H
       exact absurd H (by simp)
     ·rw [if_neg c7] at H
      exact absurd H (by simp)
    ·rw [if_neg c6] at H
     have c6b0 : decide (x18_1 < (l0_1.length : Int)) = false := decide_eq_false c6
     clear c6
     obtain rfl := Option.some.inj H
     go_wp2
     go_ret
     exact ⟨by first | rfl | (simp <;> rfl) | (simp [*] <;> rfl), by repeat (first | (with_reducible first | exact HB.out | apply ba | apply bd | apply be | refine bs ?_ GE101.out) | exact HB.out)⟩
 ·replace c3 := Bool.eq_false_iff.mpr c3
  subst c3
  have H1 : (some false) = some r := by rw [if_neg (show ¬ (false = true) by decide)] at H; exact H
  clear H
  have H := H1
  clear H1
  obtain rfl := Option.some.inj H
  go_enter Try.func75, Try.ntmps75
  go_wp2_with (first | ((with_reducible refine gate_dst (N := 1) rfl ?_); refine box_event ?hg (N := 1) ?hd (cs := #[.int .i64 a0_0, .slice A0_1 l0_1.length c0_1]) (t := 28) ?hr ?_; (case hd => rfl); (case hg => rfl); (case hr => first | (go_simp; done) | (go_simp; rfl)); intro gb101 hg w28 hbox hb; have n0_ := Aside0.mk (below_step (by repeat (first | (with_reducible first | exact HB.out | apply ba | apply bd | apply be) | exact HB.out)) hb); have n1_ := Aside0.mk (hbox); have n2_ := Aside0.mk ((by rw [hg]; exact (below_size (by repeat (first | (with_reducible first | exact HB.out | apply ba | apply bd | apply be) | exact HB.out))) : w.heap.size ≤ gb101)); have n3_ := Aside0.mk ((by rw [hg]; exact (below_size (by repeat (first | (with_reducible first | exact HB.out | apply ba | apply bd | apply be) | exact HB.out))) : w.heap.size ≤ gb101)); clear HB; have HB := n0_; have BK101 := n1_; have GW101 := n2_; have GE101 := n3_; clear n0_ n1_ n2_ n3_; clear hb hbox hg; have hcz29_0 : w28.cell? ⟨gb101, 0, none⟩ = some (.int .i64 a0_0) := (blk_cell BK101.out 0).trans rfl; have hcz29_1 : w28.cell? ⟨gb101, 1, none⟩ = some (.slice A0_1 l0_1.length c0_1) := (blk_cell BK101.out 1).trans rfl; have hfz29_0 := blk_frozen BK101.out 0; have hfz29_1 := blk_frozen BK101.out 1) | ((with_reducible refine gate_callee (f := 62) rfl ?_); refine goesL_ (some 13) rfl rfl Try.func62 (by kernel_rfl) rfl #[.int .i64 a0_0, .slice A0_1 l0_1.length c0_1, .int .i64 126] rfl (by (try simp only [mA, mC, mN]); first | done | rfl | (simp only [List.length_drop, List.length_take]; rfl)) ?_; (with_reducible refine (spec_gmSets.calls k a0_0 _ _ l0_1 126 false _ ?side1 ?side2 A2.out).mono ?_); (case side1 => repeat (first | exact (Kd.C_below HR0_1.out HB.out) | (with_reducible refine Kd.C_alloc ?_ _) | (with_reducible refine Kd.C_drewN ?_ _) | (with_reducible refine Kd.C_drew ?_))); (case side2 => exact HC0_1.out); rintro e w' ⟨rfl, ⟨nd, rfl⟩⟩; refine ⟨_, rfl, ?_⟩))
  go_ret
  exact ⟨by first | rfl | (simp <;> rfl) | (simp [*] <;> rfl), by repeat (first | (with_reducible first | exact HB.out | apply ba | apply bd | apply be | refine bs ?_ GE101.out) | exact HB.out)⟩

end Go.Proofs.Ytmmmblfghhcndaa.Q

namespace Go.Proofs.Ytmmmblfghhcndaa.Q
open Go.RowKit Go.Proofs.YtmmmblfghhcndaaW.PrintWords Go.Proofs.YtmmmblfghhcndaaW.PrintLast Go.Proofs.YtmmmblfghhcndaaW.PrintMore Go.Proofs.YtmmmblfghhcndaaM
set_option linter.unusedVariables false
set_option linter.unusedSimpArgs false
theorem spec_gmSets.ev_l (n : Int) (l : List (List Int)) (h0 : 0 ≤ n) (h9 : n ≤ 1000) (hl : l.length ≤ 9223372036854775807) (hx : ∀ x ∈ l, x.length ≤ 9223372036854775807) : ∀ (d i : Nat), i + d = l.length → Ev (fun k => spec_gmSets.l0 k n l (l.length : Int) (i : Int)) (setsB n (l.drop i)) := by
  intro d
  induction d with
  | zero =>
    intro i h
    refine ev_step ?_
    simp only [spec_gmSets.l0]
    rw [ev_neg (by omega), ev_now, List.drop_of_length_le (by omega)]
    rfl
  | succ d ih =>
    intro i h
    refine ev_step ?_
    simp only [spec_gmSets.l0]
    have hi : i < l.length := by omega
    have e : setsB n (l.drop i) = ((!(decide ((l[i].length : Int) = 0)) && setB n l[i]) && setsB n (l.drop (i + 1))) := by
      unfold setsB
      rw [List.drop_eq_getElem_cons hi, List.all_cons]
    rw [ev_pos (by omega), ev_pos (by omega), ev_pos (by omega), w64i (n := l.length) (by omega) (by omega) hl, rd_L2_lt l i hi, e]
    by_cases hc : (l[i].length : Int) = 0
    · rw [ev_pos hc, ev_now, decide_eq_true hc]
      rfl
    · rw [ev_neg hc, decide_eq_false hc, ev_bind (spec_voSet.ev n l[i] h0 h9 (hx _ (List.getElem_mem hi)))]
      cases setB n l[i] with
      | true =>
        rw [ev_pos rfl]
        exact ih (i + 1) (by omega)
      | false =>
        rw [ev_neg (by decide), ev_now]
        rfl
theorem spec_gmSets.ev (n : Int) (l : List (List Int)) (most : Int) (hl : l.length ≤ 9223372036854775807) (hx : ∀ x ∈ l, x.length ≤ 9223372036854775807) : Ev (fun k => spec_gmSets.f k n l most) ((decide (1 ≤ n) && decide (n ≤ 9)) && ((decide (1 ≤ (l.length : Int)) && decide ((l.length : Int) ≤ most)) && setsB n l)) := by
  simp only [spec_gmSets.f]
  rw [ev_bind (ev_of (spec_l1In.v _ _ _))]
  cases h1 : (decide (1 ≤ n) && decide (n ≤ 9)) with
  | false =>
    rw [ev_neg (by decide)]
    refine ev_step ?_
    simp only [spec_gmSets.j0]
    rw [ev_pos trivial, ev_now]
    rfl
  | true =>
    simp only [Bool.and_eq_true, decide_eq_true_eq] at h1
    rw [ev_pos rfl, ev_bind (ev_of (spec_l1In.v _ _ _)), Bool.true_and]
    refine ev_step ?_
    simp only [spec_gmSets.j0]
    cases (decide (1 ≤ (l.length : Int)) && decide ((l.length : Int) ≤ most)) with
    | false =>
      rw [ev_pos (by decide), ev_now]
      rfl
    | true =>
      rw [ev_neg (by decide), Bool.true_and]
      exact spec_gmSets.ev_l n l (by omega) (by omega) hl hx l.length 0 (by omega)
theorem spec_gmGood.ev_l1 (n : Int) (l : List (List Int)) (hl : l.length ≤ 9223372036854775807) (hs : ∀ x ∈ l, x.length ≤ 9223372036854775807 ∧ (∀ y ∈ x, 0 ≤ y ∧ y ≤ 8) ∧ maskN x < 512) (i : Nat) (hi : i < l.length) (R : Bool) (hR : Ev (fun k => spec_gmGood.l0 k l (l.length : Int) ((i : Int) + 1) n l) R) : ∀ (d j : Nat), j + d = i → Ev (fun k => spec_gmGood.l1 k ((maskN l[i] : Nat) : Int) l (l.length : Int) (i : Int) (l.take i) ((l.take i).length : Int) (j : Int) n l) ((List.range' j d).all (gInS l i) && R) := by
  have ht : (l.take i).length = i := by rw [List.length_take]; omega
  intro d
  induction d with
  | zero =>
    intro j h
    refine ev_step ?_
    simp only [spec_gmGood.l1]
    rw [ev_neg (by omega), w64i (n := l.length) (by omega) (by omega) hl]
    exact hR
  | succ d ih =>
    intro j h
    refine ev_step ?_
    simp only [spec_gmGood.l1]
    have hj : j < l.length := by omega
    have hjt : j < (l.take i).length := by omega
    obtain ⟨hx1, hx2, hx3⟩ := hs l[i] (List.getElem_mem hi)
    obtain ⟨hy1, hy2, hy3⟩ := hs l[j] (List.getElem_mem hj)
    have m2 := spec_voBits.ev l[j] hy1 (fun y hy => by have := hy2 y hy; omega)
    rw [ev_pos (by omega), ev_pos (by omega), ev_pos (by omega), w64i (i := (j : Int)) (n := l.length) (by omega) (by omega) hl, List.range'_succ, List.all_cons, rd_L2_lt (l.take i) j hjt, List.getElem_take, ev_bind m2, and_nat _ _ (by omega) (by omega), gInS, mAt_lt l i hi, mAt_lt l j hj]
    by_cases c : maskN l[i] &&& maskN l[j] = maskN l[i]
    · rw [ev_pos (by rw [c]), ev_now, decide_eq_true c]
      rfl
    · rw [ev_neg (by omega), decide_eq_false c]
      by_cases c2 : maskN l[i] &&& maskN l[j] = maskN l[j]
      · rw [ev_pos (by rw [c2]), ev_now, decide_eq_true c2]
        rfl
      · rw [ev_neg (by omega), decide_eq_false c2]
        exact ih (j + 1) (by omega)
theorem spec_gmGood.ev_l0 (n : Int) (l : List (List Int)) (hl : l.length ≤ 9223372036854775807) (hs : ∀ x ∈ l, x.length ≤ 9223372036854775807 ∧ (∀ y ∈ x, 0 ≤ y ∧ y ≤ 8) ∧ maskN x < 512) : ∀ (d i : Nat), i + d = l.length → Ev (fun k => spec_gmGood.l0 k l (l.length : Int) (i : Int) n l) ((List.range' i d).all (gS l)) := by
  intro d
  induction d with
  | zero =>
    intro i h
    refine ev_step ?_
    simp only [spec_gmGood.l0]
    rw [ev_neg (by omega), ev_now]
    rfl
  | succ d ih =>
    intro i h
    refine ev_step ?_
    simp only [spec_gmGood.l0]
    have hi : i < l.length := by omega
    obtain ⟨hx1, hx2, hx3⟩ := hs l[i] (List.getElem_mem hi)
    have m1 := spec_voBits.ev l[i] hx1 (fun y hy => by have := hx2 y hy; omega)
    rw [ev_pos (by omega), ev_pos (by omega), ev_pos (by omega), rd_L2_lt l i hi, List.range'_succ, List.all_cons]
    have hin : Ev (fun k => spec_gmGood.l1 k ((maskN l[i] : Nat) : Int) l (l.length : Int) (i : Int) (l.take i) ((l.take i).length : Int) ((0 : Nat) : Int) n l) ((List.range' 0 i).all (gInS l i) && (List.range' (i + 1) d).all (gS l)) := spec_gmGood.ev_l1 n l hl hs i hi _ (by have := ih (i + 1) (by omega); exact this) i 0 (by omega)
    by_cases e : i = 0
    · rw [ev_neg (by omega)]
      refine ev_step ?_
      simp only [spec_gmGood.j1]
      rw [ev_neg (by decide), ev_bind m1, ev_pos (by omega), ev_pos (by omega), Int.toNat_natCast, gS, show gOrd l i = true by simp [gOrd, e], Bool.true_and]
      exact hin
    · have e1 : (i : Int) - 1 = ((i - 1 : Nat) : Int) := by omega
      rw [ev_pos (by omega), w64 (by omega) (by omega), e1, ev_pos (by omega), ev_pos (by omega), rd_L2_lt l (i - 1) (by omega), ev_bind (spec_voBefore.ev _ _ (hs _ (List.getElem_mem (by omega))).1)]
      refine ev_step ?_
      simp only [spec_gmGood.j1]
      rw [gS, gOrd_pos l i e hi]
      by_cases c : cmpL (l[i - 1]'(by omega)) l[i] < 0
      · rw [ev_neg (by simp [c]), decide_eq_true c, Bool.true_and, ev_bind m1, ev_pos (by omega), ev_pos (by omega), Int.toNat_natCast]
        exact hin
      · rw [ev_pos (by simp; omega), ev_now, decide_eq_false c]
        rfl
theorem spec_gmGood.ev (n : Int) (l : List (List Int)) (hl : l.length ≤ 9223372036854775807) (hx : ∀ x ∈ l, x.length ≤ 9223372036854775807) : Ev (fun k => spec_gmGood.f k n l) (gameB n l) := by
  simp only [spec_gmGood.f]
  rw [ev_bind (spec_gmSets.ev n l 126 hl hx), gameB]
  cases h1 : (decide (1 ≤ n) && decide (n ≤ 9)) with
  | false =>
    rw [ev_neg (by simp), ev_now]
    rfl
  | true =>
    simp only [Bool.and_eq_true, decide_eq_true_eq] at h1
    rw [Bool.true_and, Bool.true_and]
    by_cases h2 : (l.length : Int) = 0
    · rw [decide_eq_false (show ¬ (1 ≤ (l.length : Int)) by omega), ev_neg (by simp), ev_now, decide_eq_true h2]
      rfl
    · rw [decide_eq_true (show 1 ≤ (l.length : Int) by omega), decide_eq_false h2]
      cases h3 : setsB n l with
      | false =>
        rw [ev_neg (by simp), ev_now]
        rfl
      | true =>
        have hs : ∀ x ∈ l, x.length ≤ 9223372036854775807 ∧ (∀ y ∈ x, 0 ≤ y ∧ y ≤ 8) ∧ maskN x < 512 := fun x hx' => ⟨hx x hx', setsB_mask h3 (by omega) x hx'⟩
        have hfull := spec_gmGood.ev_l0 n l hl hs l.length 0 (by omega)
        by_cases h4 : (l.length : Int) ≤ 126
        · rw [ev_pos (by simp [h4])]
          exact hfull
        · rw [ev_neg (by simp [h4]), ev_now]
          cases h5 : (List.range' 0 l.length).all (gS l) with
          | false => rfl
          | true => exact absurd (game_few (by omega) h3 h5) (by omega)
end Go.Proofs.Ytmmmblfghhcndaa.Q

namespace Go.Proofs.Ytmmmblfghhcndaa.Q
open Go.RowKit Go.Proofs.YtmmmblfghhcndaaX Go.Proofs.YtmmmblfghhcndaaW.PrintWords Go.Proofs.YtmmmblfghhcndaaW.PrintLast Go.Proofs.YtmmmblfghhcndaaW.PrintMore
attribute [local go_sem] max2_int min2_int max_two min_two max_three min_three max_four min_four   -- for this text's walks alone
set_option linter.unusedVariables false
set_option linter.unusedSimpArgs false

/-! ### spec_voWeight: function 113 -/
def spec_voWeight.l0 : Nat → Int → Int → List Int → Int → Int → Option (Int)
 | 0, _, _, _, _, _ => none
 | k + 1, x1, x5, x9, x10, x11 => if x11 < x10 then (if 0 ≤ x11 then (if x11 < (x9.length : Int) then (if (Int.tmod (shr .i64 x1 x11) 2) = 1 then (spec_voWeight.l0 k x1 (wrap64 (x5 + (rd x9 x11))) x9 x10 (wrap64 (x11 + 1))) else (spec_voWeight.l0 k x1 x5 x9 x10 (wrap64 (x11 + 1)))) else (none)) else (none)) else (some x5)
def spec_voWeight.f (k : Nat) (a0_0 : Int) (l0_1 : List Int) (a1 : Int) : Option (Int) := spec_voWeight.l0 k a1 0 l0_1 (l0_1.length : Int) 0
theorem spec_voWeight.mono_l : ∀ k, (∀ y0 y1 y2 y3 y4, LeO (spec_voWeight.l0 k y0 y1 y2 y3 y4) (spec_voWeight.l0 (k + 1) y0 y1 y2 y3 y4))
 | 0 => fun _ _ _ _ _ r h => by simp [spec_voWeight.l0] at h
 | k + 1 => by
  have ih0 := spec_voWeight.mono_l k
  ·intro y0 y1 y2 y3 y4
   unfold spec_voWeight.l0
   repeat' first
   | (with_reducible exact ih0 _ _ _ _ _)
   | (with_reducible exact LeO.refl _)
   | (with_reducible exact LeO.none _)
   | (with_reducible refine LeO.ite ?_ ?_)
   | (with_reducible refine LeO.bind ?_ (fun _ => ?_))
   | exact ih0 _ _ _ _ _
   | exact LeO.none _
   | refine LeO.ite ?_ ?_
   | refine LeO.bind ?_ (fun _ => ?_)
theorem spec_voWeight.mono : ∀ a0 a1 a2 k, LeO (spec_voWeight.f k a0 a1 a2) (spec_voWeight.f (k + 1) a0 a1 a2) := by
 intro a0 a1 a2 k
 have ih0 := spec_voWeight.mono_l k
 unfold spec_voWeight.f
 repeat' first
   | (with_reducible exact ih0 _ _ _ _ _)
   | (with_reducible exact LeO.refl _)
   | (with_reducible exact LeO.none _)
   | (with_reducible refine LeO.ite ?_ ?_)
   | (with_reducible refine LeO.bind ?_ (fun _ => ?_))
   | exact ih0 _ _ _ _ _
   | exact LeO.none _
   | refine LeO.ite ?_ ?_
   | refine LeO.bind ?_ (fun _ => ?_)
set_option maxHeartbeats 8000000 in
set_option maxRecDepth 100000 in
theorem spec_voWeight.calls (k : Nat) (a0_0 : Int) (A0_1 : Option Addr) (c0_1 : Nat) (l0_1 : List Int) (a1 : Int) (r : Int) (w : World) (hr0_1 : Kd.C (Kd.int .i64) w A0_1 l0_1.length l0_1) (hc0_1 : l0_1.length ≤ c0_1) (h : spec_voWeight.f k a0_0 l0_1 a1 = some r) :
  Calls Try.prog 113 #[.agg #[.int .i64 a0_0, .slice A0_1 l0_1.length c0_1], .int .i64 a1] w fun e w' => e = .returned (.int .i64 r) ∧ Below w.heap.size w w' := by
 have hu41 := Try.underlying41
 have HR0_1 := Aside0.mk hr0_1
 have HC0_1 := Aside0.mk hc0_1
 clear hr0_1 hc0_1
 have HB := Aside0.mk (Below.refl w.heap.size w)
 have H : (spec_voWeight.l0 k a1 0 l0_1 (l0_1.length : Int) 0) = some r := h
 clear h
 have H' := Aside0.mk H
 clear H
 go_enter Try.func113, Try.ntmps113
 go_wp2_with (first | ((with_reducible refine gate_dst (N := 2) rfl ?_); refine box_event ?hg (N := 2) ?hd (cs := #[.int .i64 a0_0, .slice A0_1 l0_1.length c0_1]) (t := 41) ?hr ?_; (case hd => rfl); (case hg => rfl); (case hr => first | (go_simp; done) | (go_simp; rfl)); intro gb101 hg w3 hbox hb; have n0_ := Aside0.mk (below_step (by repeat (first | (with_reducible first | exact HB.out | apply ba | apply bd | apply be) | exact HB.out)) hb); have n1_ := Aside0.mk (hbox); have n2_ := Aside0.mk ((by rw [hg]; exact (below_size (by repeat (first | (with_reducible first | exact HB.out | apply ba | apply bd | apply be) | exact HB.out))) : w.heap.size ≤ gb101)); have n3_ := Aside0.mk ((by rw [hg]; exact (below_size (by repeat (first | (with_reducible first | exact HB.out | apply ba | apply bd | apply be) | exact HB.out))) : w.heap.size ≤ gb101)); clear HB; have HB := n0_; have BK101 := n1_; have GW101 := n2_; have GE101 := n3_; clear n0_ n1_ n2_ n3_; clear hb hbox hg; have hcz4_0 : w3.cell? ⟨gb101, 0, none⟩ = some (.int .i64 a0_0) := (blk_cell BK101.out 0).trans rfl; have hcz4_1 : w3.cell? ⟨gb101, 1, none⟩ = some (.slice A0_1 l0_1.length c0_1) := (blk_cell BK101.out 1).trans rfl; have hfz4_0 := blk_frozen BK101.out 0; have hfz4_1 := blk_frozen BK101.out 1))
 go_loopg [5, 11] k (fun kq v5 v11 w' => ∃ (x5_1 : Int) (x11_1 : Int), v5 = .int .i64 x5_1 ∧ v11 = .int .i64 x11_1 ∧ Aside0 (spec_voWeight.l0 kq a1 x5_1 l0_1 (l0_1.length : Int) x11_1 = some r) ∧ Aside0 (kq ≤ k) ∧ Aside0 (w'.heap[gb101]? = some (.cells #[.int .i64 a0_0, (.slice A0_1 l0_1.length c0_1)] 41 (0, 0))) ∧ Aside0 (Below w.heap.size w w'))
 case atStart => exact ⟨(0), (0), (by first | rfl | (simp; done) | (simp [*]; done)), (by first | rfl | (simp; done) | (simp [*]; done)), H', ⟨Nat.le_refl _⟩, ⟨by (first | exact bp BK101.out | exact BK101.out)⟩, ⟨by repeat (first | (with_reducible first | exact HB.out | apply ba | apply bd | apply be | refine bs ?_ GE101.out) | exact HB.out)⟩⟩
 case round =>
  clear H'
  try clear c1
  try clear p2
  try clear hcz4_0
  try clear hcz4_1
  try clear hfz4_0
  try clear hfz4_1
  obtain ⟨x5_1, x11_1, rfl, rfl, HA, HK1, BK101, HB⟩ := hrel
  cases gk with
  | zero => exact absurd HA.out (by simp [spec_voWeight.l0])
  | succ k1 =>
   have H := HA.out
   clear HA
   simp only [spec_voWeight.l0] at H
   by_cases c5 : x11_1 < (l0_1.length : Int)
   ·rw [if_pos c5] at H
    have c5b0 : decide (x11_1 < (l0_1.length : Int)) = true := decide_eq_true c5
    clear c5
    by_cases c6 : 0 ≤ x11_1
    ·rw [if_pos c6] at H
     have c6b0 : decide (0 ≤ x11_1) = true := decide_eq_true c6
     clear c6
     by_cases c7 : x11_1 < (l0_1.length : Int)
     ·rw [if_pos c7] at H
      have c7b0 : decide (x11_1 < (l0_1.length : Int)) = true := decide_eq_true c7
      clear c7
      have c8b0 := eq_true (of_decide_eq_true (by first | (with_reducible assumption) | assumption) : 0 ≤ x11_1)
      obtain ⟨ji9, hji9⟩ : ∃ j_ : Int, (shr .i64 a1 x11_1) = j_ := ⟨_, rfl⟩
      replace H : (if (Int.tmod (ji9) 2) = 1 then (spec_voWeight.l0 k1 a1 (wrap64 (x5_1 + (rd l0_1 x11_1))) l0_1 (l0_1.length : Int) (wrap64 (x11_1 + 1))) else (spec_voWeight.l0 k1 a1 x5_1 l0_1 (l0_1.length : Int) (wrap64 (x11_1 + 1)))) = some r := by first | (rw [hji9] at H; exact H) | (simp only [hji9] at H ⊢; exact H)
      have hji9_ : (a1 / 2 ^ min x11_1.toNat 64) = ji9 := hji9
      have hji9z : x11_1 ≤ 64 → (a1 / 2 ^ x11_1.toNat) = ji9 := shr_small hji9
      by_cases c10 : (Int.tmod (ji9) 2) = 1
      ·rw [if_pos c10] at H
       have c10b0 : ((Int.tmod (ji9) 2) == 1) = true := beq_iff_eq.mpr c10
       have c10b1 : ((Int.tmod (ji9) 2) != 1) = false := bne_eq_false_iff_eq.mpr c10
       clear c10
       have H' := Aside0.mk H
       clear H
       have p102 : 0 ≤ (x11_1 : Int) := of_decide_eq_true (by first | (with_reducible assumption) | assumption)
       have q102 : x11_1 < (l0_1.length : Int) := of_decide_eq_true (by first | (with_reducible assumption) | assumption)
       obtain ⟨ad102, e102, hx102_0⟩ := Kd.at_int HR0_1.out x11_1 p102 q102
       cases e102
       replace hx102_0 := (HB.out.cell (World.block_lt_of_cell? w _ hx102_0)).trans hx102_0
       replace p102 := eq_true p102
       replace q102 := eq_true q102
       go_wp2
       go_roundg k1
       case measure => have := HK1.out; omega
       case rel => exact ⟨(wrap64 (x5_1 + (rd l0_1 x11_1))), (wrap64 (x11_1 + 1)), (by first | rfl | (simp; done) | (simp [*]; done)), (by first | rfl | (simp; done) | (simp [*]; done)), H', ⟨by have := HK1.out; omega⟩, ⟨by (first | exact bp BK101.out | exact BK101.out)⟩, ⟨by repeat (first | (with_reducible first | exact HB.out | apply ba | apply bd | apply be | refine bs ?_ GE101.out) | exact HB.out)⟩⟩
      ·rw [if_neg c10] at H
       have c10b0 : ((Int.tmod (ji9) 2) == 1) = false := beq_eq_false_iff_ne.mpr c10
       have c10b1 : ((Int.tmod (ji9) 2) != 1) = true := bne_iff_ne.mpr c10
       have H' := Aside0.mk H
       clear H
       have p102 : 0 ≤ (x11_1 : Int) := of_decide_eq_true (by first | (with_reducible assumption) | assumption)
       have q102 : x11_1 < (l0_1.length : Int) := of_decide_eq_true (by first | (with_reducible assumption) | assumption)
       obtain ⟨ad102, e102, hx102_0⟩ := Kd.at_int HR0_1.out x11_1 p102 q102
       cases e102
       replace hx102_0 := (HB.out.cell (World.block_lt_of_cell? w _ hx102_0)).trans hx102_0
       replace p102 := eq_true p102
       replace q102 := eq_true q102
       go_wp2
       go_roundg k1
       case measure => have := HK1.out; omega
       case rel => exact ⟨(x5_1), (wrap64 (x11_1 + 1)), (by first | rfl | (simp; done) | (simp [*]; done)), (by first | rfl | (simp; done) | (simp [*]; done)), H', ⟨by have := HK1.out; omega⟩, ⟨by (first | exact bp BK101.out | exact BK101.out)⟩, ⟨by repeat (first | (with_reducible first | exact HB.out | apply ba | apply bd | apply be | refine bs ?_ GE101.out) | exact HB.out)⟩⟩
     ·rw [if_neg c7] at H
      exact absurd H (by simp)
    ·rw [if_neg c6] at H
     exact absurd H (by simp)
   ·rw [if_neg c5] at H
    have c5b0 : decide (x11_1 < (l0_1.length : Int)) = false := decide_eq_false c5
    clear c5
    obtain rfl := Option.some.inj H
    go_wp2
    go_ret
    exact ⟨by first | rfl | (simp <;> rfl) | (simp [*] <;> rfl), by repeat (first | (with_reducible first | exact HB.out | apply ba | apply bd | apply be | refine bs ?_ GE101.out) | exact HB.out)⟩

end Go.Proofs.Ytmmmblfghhcndaa.Q

namespace Go.Proofs.Ytmmmblfghhcndaa.Q
open Go.RowKit Go.Proofs.YtmmmblfghhcndaaW.PrintWords Go.Proofs.YtmmmblfghhcndaaW.PrintLast Go.Proofs.YtmmmblfghhcndaaW.PrintMore Go.Proofs.YtmmmblfghhcndaaM
set_option linter.unusedVariables false
set_option linter.unusedSimpArgs false
theorem spec_bit (m i : Nat) (hm : m < 2 ^ 62) (hi : i ≤ 62) : Int.tmod (shr .i64 (m : Int) (i : Int)) 2 = ((m / 2 ^ i % 2 : Nat) : Int) := by
  rw [shr_nat m i (by omega)]
  generalize m / 2 ^ i = x
  rw [Int.tmod_eq_emod_of_nonneg (by omega)]
  omega
theorem spec_voWeight.ev_l (q : Int) (ws : List Int) (m : Nat) (hm : m < 2 ^ 62) (hl : ws.length ≤ 60) (hw : ∀ x ∈ ws, 0 ≤ x ∧ x ≤ 1000000000) : ∀ (d i : Nat) (s : Int), i + d = ws.length → 0 ≤ s → s + wsum (ws.drop i) (m / 2 ^ i) ≤ 1000000000000 → Ev (fun k => spec_voWeight.l0 k (m : Int) s ws (ws.length : Int) (i : Int)) (s + wsum (ws.drop i) (m / 2 ^ i)) := by
  intro d
  induction d with
  | zero =>
    intro i s h _ _
    refine ev_step ?_
    simp only [spec_voWeight.l0]
    rw [ev_neg (by omega), ev_now, List.drop_of_length_le (by omega)]
    simp [wsum]
  | succ d ih =>
    intro i s h h0 h1
    refine ev_step ?_
    simp only [spec_voWeight.l0]
    have hi : i < ws.length := by omega
    have hx := hw ws[i] (List.getElem_mem hi)
    have hd : wsum (ws.drop i) (m / 2 ^ i) = (if m / 2 ^ i % 2 = 1 then ws[i] else 0) + wsum (ws.drop (i + 1)) (m / 2 ^ (i + 1)) := by
      rw [wsum_drop ws i _ hi, Nat.div_div_eq_div_mul, ← Nat.pow_succ]
    have hb := wsum_bounds (ws.drop (i + 1)) (fun x hx => (hw x (List.mem_of_mem_drop hx)).1) (m / 2 ^ (i + 1))
    rw [ev_pos (by omega), ev_pos (by omega), ev_pos (by omega), spec_bit m i hm (by omega), w64i (n := ws.length) (by omega) (by omega) (by omega), rd_lt ws i hi, hd]
    rw [hd] at h1
    by_cases hbit : m / 2 ^ i % 2 = 1
    · rw [if_pos hbit] at h1 ⊢
      rw [ev_pos (by rw [hbit]; rfl), w64 (by omega) (by omega), ← Int.add_assoc]
      exact ih (i + 1) (s + ws[i]) (by omega) (by omega) (by omega)
    · rw [if_neg hbit] at h1 ⊢
      rw [ev_neg (by omega), Int.zero_add]
      exact ih (i + 1) s (by omega) h0 (by omega)
theorem spec_voWeight.ev (q : Int) (ws : List Int) (m : Nat) (hm : m < 2 ^ 62) (hl : ws.length ≤ 60) (hw : ∀ x ∈ ws, 0 ≤ x ∧ x ≤ 1000000000) : Ev (fun k => spec_voWeight.f k q ws (m : Int)) (wsum ws m) := by
  have hb := wsum_bounds ws (fun x hx => (hw x hx).1) m
  have hs := sum_bounds ws 1000000000 hw
  have := spec_voWeight.ev_l q ws m hm hl hw ws.length 0 0 (by omega) (by omega) (by simp; omega)
  simpa [spec_voWeight.f] using this
end Go.Proofs.Ytmmmblfghhcndaa.Q

namespace Go.Proofs.Ytmmmblfghhcndaa.Q
open Go.RowKit Go.Proofs.YtmmmblfghhcndaaX Go.Proofs.YtmmmblfghhcndaaW.PrintWords Go.Proofs.YtmmmblfghhcndaaW.PrintLast Go.Proofs.YtmmmblfghhcndaaW.PrintMore
attribute [local go_sem] max2_int min2_int max_two min_two max_three min_three max_four min_four   -- for this text's walks alone
set_option linter.unusedVariables false
set_option linter.unusedSimpArgs false

/-! ### spec_voWins: function 72 -/
def spec_voWins.l0 : Nat → List Bool → Int → Int → List Int → Option (List Bool)
 | 0, _, _, _, _ => none
 | k + 1, x3, x4, x102000, x102001 => (spec_voAll.f (x102001.length : Int)).bind fun t102 => (if x4 ≤ t102 then ((spec_voWeight.f k x102000 x102001 x4).bind fun t103 => (if x3.length < 140737488355328 then (spec_voWins.l0 k (x3 ++ [decide (t103 ≥ x102000)]) (wrap64 (x4 + 1)) x102000 x102001) else (none))) else (some x3))
def spec_voWins.f (k : Nat) (a0_0 : Int) (l0_1 : List Int) : Option (List Bool) := spec_voWins.l0 k ([] : List Bool) 0 a0_0 l0_1
theorem spec_voWins.mono_l : ∀ k, (∀ y0 y1 y2 y3, LeO (spec_voWins.l0 k y0 y1 y2 y3) (spec_voWins.l0 (k + 1) y0 y1 y2 y3))
 | 0 => fun _ _ _ _ r h => by simp [spec_voWins.l0] at h
 | k + 1 => by
  have ih0 := spec_voWins.mono_l k
  ·intro y0 y1 y2 y3
   unfold spec_voWins.l0
   repeat' first
   | (with_reducible exact ih0 _ _ _ _)
   | (with_reducible exact spec_voWeight.mono _ _ _ _)
   | (with_reducible exact LeO.refl _)
   | (with_reducible exact LeO.none _)
   | (with_reducible refine LeO.ite ?_ ?_)
   | (with_reducible refine LeO.bind ?_ (fun _ => ?_))
   | exact ih0 _ _ _ _
   | exact spec_voWeight.mono _ _ _ _
   | exact LeO.none _
   | refine LeO.ite ?_ ?_
   | refine LeO.bind ?_ (fun _ => ?_)
theorem spec_voWins.mono : ∀ a0 a1 k, LeO (spec_voWins.f k a0 a1) (spec_voWins.f (k + 1) a0 a1) := by
 intro a0 a1 k
 have ih0 := spec_voWins.mono_l k
 unfold spec_voWins.f
 repeat' first
   | (with_reducible exact ih0 _ _ _ _)
   | (with_reducible exact spec_voWeight.mono _ _ _ _)
   | (with_reducible exact LeO.refl _)
   | (with_reducible exact LeO.none _)
   | (with_reducible refine LeO.ite ?_ ?_)
   | (with_reducible refine LeO.bind ?_ (fun _ => ?_))
   | exact ih0 _ _ _ _
   | exact spec_voWeight.mono _ _ _ _
   | exact LeO.none _
   | refine LeO.ite ?_ ?_
   | refine LeO.bind ?_ (fun _ => ?_)
def spec_voWins.T5 : Bool × List (List Nat × List Nat) := (true, [([], []), ([], []), ([], []), ([1, 2], [1, 2]), ([], []), ([4], [4]), ([3, 5], [3, 5]), ([6], [6]), ([0, 7, 3], [0, 7]), ([8, 8, 0, 1, 2, 3, 4, 5, 6, 7, 8], [0, 8])])
def spec_voWins.B5 : List Nat := [0, 0, 0, 6, 0, 16, 62, 126, 255, 511]
theorem spec_voWins.tab5 : rtab .any (opsOf Try.f72 5) = spec_voWins.T5 := by kernel_rfl
theorem spec_voWins.bits5 : waitsOk spec_voWins.T5.2 spec_voWins.B5 = true := by kernel_rfl
set_option maxHeartbeats 8000000 in
set_option maxRecDepth 100000 in
theorem spec_voWins.calls (k : Nat) (a0_0 : Int) (A0_1 : Option Addr) (c0_1 : Nat) (l0_1 : List Int) (r : List Bool) (w : World) (hr0_1 : Kd.C (Kd.int .i64) w A0_1 l0_1.length l0_1) (hc0_1 : l0_1.length ≤ c0_1) (h : spec_voWins.f k a0_0 l0_1 = some r) :
  Calls Try.prog 72 #[.agg #[.int .i64 a0_0, .slice A0_1 l0_1.length c0_1]] w fun e w' => ∃ v0_ : Value, e = .returned (v0_) ∧ Kd.R Kd.bool 4 w' w.heap.size (fun _ => True) v0_ r ∧ Below w.heap.size w w' := by
 have hu41 := Try.underlying41
 have HR0_1 := Aside0.mk hr0_1
 have HC0_1 := Aside0.mk hc0_1
 clear hr0_1 hc0_1
 have HB := Aside0.mk (Below.refl w.heap.size w)
 have H : (spec_voWins.l0 k ([] : List Bool) 0 a0_0 l0_1) = some r := h
 clear h
 have H' := Aside0.mk H
 clear H
 go_enter Try.func72, Try.ntmps72
 go_wp2_with (first | ((with_reducible refine gate_dst (N := 1) rfl ?_); refine box_event ?hg (N := 1) ?hd (cs := #[.int .i64 a0_0, .slice A0_1 l0_1.length c0_1]) (t := 41) ?hr ?_; (case hd => rfl); (case hg => rfl); (case hr => first | (go_simp; done) | (go_simp; rfl)); intro gb101 hg w2 hbox hb; have n0_ := Aside0.mk (below_step (by repeat (first | (with_reducible first | exact HB.out | apply ba | apply bd | apply be) | exact HB.out)) hb); have n1_ := Aside0.mk (hbox); have n2_ := Aside0.mk ((by rw [hg]; exact (below_size (by repeat (first | (with_reducible first | exact HB.out | apply ba | apply bd | apply be) | exact HB.out))) : w.heap.size ≤ gb101)); have n3_ := Aside0.mk ((by rw [hg]; exact (below_size (by repeat (first | (with_reducible first | exact HB.out | apply ba | apply bd | apply be) | exact HB.out))) : w.heap.size ≤ gb101)); clear HB; have HB := n0_; have BK101 := n1_; have GW101 := n2_; have GE101 := n3_; clear n0_ n1_ n2_ n3_; clear hb hbox hg))
 go_loopg [3, 4] k (fun kq v3 v4 w' => ∃ (x3_1 : List Bool) (x4_1 : Int), v4 = .int .i64 x4_1 ∧ Aside0 (spec_voWins.l0 kq x3_1 x4_1 a0_0 l0_1 = some r) ∧ Aside0 (kq ≤ k) ∧ Aside0 (Kd.R Kd.bool 4 w' w.heap.size (fun _ => True) v3 x3_1) ∧ Aside0 (w'.heap[gb101]? = some (.cells #[.int .i64 a0_0, (.slice A0_1 l0_1.length c0_1)] 41 (0, 0))) ∧ Aside0 (Below w.heap.size w w'))
 case atStart => exact ⟨(([] : List Bool)), (0), (by first | rfl | (simp; done) | (simp [*]; done)), H', ⟨Nat.le_refl _⟩, ⟨by first | exact Kd.R_nil _ _ _ _ _ | exact Kd.N_nil _ _ _ _ _ | exact Kd.V_nil _ _ _ _ _ | exact Kd.Q_nil _ _ _ _ _ | exact Kd.S_nil _ _ _ _ _⟩, ⟨by (first | exact bp BK101.out | exact BK101.out)⟩, ⟨by repeat (first | (with_reducible first | exact HB.out | apply ba | apply bd | apply be | refine bs ?_ GE101.out) | exact HB.out)⟩⟩
 case round =>
  clear H'
  try clear p2
  obtain ⟨x3_1, x4_1, rfl, HA, HK1, HO_3, BK101, HB⟩ := hrel
  cases gk with
  | zero => exact absurd HA.out (by simp [spec_voWins.l0])
  | succ k1 =>
   have H := HA.out
   clear HA
   simp only [spec_voWins.l0] at H
   replace H := oB H
   obtain ⟨t102, A30, H⟩ := H
   replace H : (if x4_1 ≤ t102 then ((spec_voWeight.f k1 a0_0 l0_1 x4_1).bind fun t103 => (if x3_1.length < 140737488355328 then (spec_voWins.l0 k1 (x3_1 ++ [decide (t103 ≥ a0_0)]) (wrap64 (x4_1 + 1)) a0_0 l0_1) else (none))) else (some x3_1)) = some r := H
   have A3 := Aside0.mk A30
   clear A30
   by_cases c4 : x4_1 ≤ t102
   ·rw [if_pos c4] at H
    have c4b0 : decide (x4_1 ≤ t102) = true := decide_eq_true c4
    clear c4
    replace H := oB H
    obtain ⟨t103, A50, H⟩ := H
    replace H : (if x3_1.length < 140737488355328 then (spec_voWins.l0 k1 (x3_1 ++ [decide (t103 ≥ a0_0)]) (wrap64 (x4_1 + 1)) a0_0 l0_1) else (none)) = some r := H
    have A5 := Aside0.mk A50
    clear A50
    by_cases c6 : x3_1.length < 140737488355328
    ·rw [if_pos c6] at H
     have LMc6 := Aside0.mk c6
     clear c6
     obtain ⟨y104, hy104⟩ : ∃ y_ : List Bool, y_ = (x3_1 ++ [decide (t103 ≥ a0_0)]) := ⟨_, rfl⟩
     replace H : (spec_voWins.l0 k1 y104 (wrap64 (x4_1 + 1)) a0_0 l0_1) = some r := by first | (rw [hy104]; with_reducible exact H) | (have H2_ := (Option.bind_some _ _).symm.trans H; rw [hy104]; with_reducible exact H2_) | (have H2_ := (Option.bind_some _ _).symm.trans H; with_reducible exact H2_) | with_reducible exact H | (rw [hy104]; exact H) | exact H
     have Ny104 := Aside0.mk hy104
     clear hy104
     have H' := Aside0.mk H
     clear H
     have hcz7_0 : wr.cell? ⟨gb101, 0, none⟩ = some (.int .i64 a0_0) := (blk_cell BK101.out 0).trans rfl
     have hcz7_1 : wr.cell? ⟨gb101, 1, none⟩ = some (.slice A0_1 l0_1.length c0_1) := (blk_cell BK101.out 1).trans rfl
     have hfz7_0 := blk_frozen BK101.out 0
     have hfz7_1 := blk_frozen BK101.out 1
     try go_wp2_with (first | ((with_reducible refine gate_callee (f := 78) rfl ?_); refine goesL_ (some 9) rfl rfl Try.func78 (by kernel_rfl) rfl #[.int .i64 (l0_1.length : Int)] rfl (by (try simp only [mA, mC, mN]); first | done | rfl | (simp only [List.length_drop, List.length_take]; rfl)) ?_; (with_reducible refine (spec_voAll.calls (l0_1.length : Int) t102 _ A3.out).mono ?_); rintro e w' ⟨rfl, ⟨nd, rfl⟩⟩; refine ⟨_, rfl, ?_⟩))
     (try (rw [drewN_self wr]; generalize hq_ : World.drewN wr _ = wr; have n0_ : Aside0 (Kd.R Kd.bool 4 wr w.heap.size (fun _ => True) u3 x3_1) := ⟨by rw [← hq_]; exact (by (first | exact rp HO_3.out | exact HO_3.out))⟩; have n1_ : Aside0 (wr.heap[gb101]? = some (.cells #[.int .i64 a0_0, .slice A0_1 l0_1.length c0_1] 41 (0, 0))) := ⟨by rw [← hq_]; exact (by (first | exact bp BK101.out | exact BK101.out))⟩; have n2_ : Aside0 (Below w.heap.size w wr) := ⟨by rw [← hq_]; exact (by repeat (first | (with_reducible first | exact HB.out | apply ba | apply bd | apply be | refine bs ?_ GE101.out) | exact HB.out))⟩; clear HO_3 BK101 HB hq_; have HO_3 := n0_; have BK101 := n1_; have HB := n2_; clear n0_ n1_ n2_))
     have n0_ := Aside0.mk (Kd.R_drew HO_3.out)
     have n1_ := Aside0.mk (blk_drew BK101.out)
     have n2_ := Aside0.mk (below_drew1 HB.out)
     clear HO_3
     clear BK101
     clear HB
     have HO_3 := n0_
     have BK101 := n1_
     have HB := n2_
     clear n0_ n1_ n2_
     refine start_ (n := 10) (S := fun w' => w'.cell? ⟨gb101, 0, none⟩ = some (.int .i64 a0_0) ∧ w'.cell? ⟨gb101, 1, none⟩ = some (.slice A0_1 l0_1.length c0_1)) (ds := []) #[false, false, false, false, false, false, false, false, false, false] (by kernel_rfl) rfl rfl ⟨(blk_cell BK101.out 0).trans rfl, (blk_cell BK101.out 1).trans rfl⟩ (fun hHeld => ?_); refine with_tabW spec_voWins.tab5 spec_voWins.bits5 (fun HT_ HW_ => ?_)
     generalize wr.drew = w8 at HO_3 BK101 HB hHeld ⊢
     refine pure_ (i := 0) (N := some 13) (v := ?_) (a' := ?_) #[true, false, false, false, false, false, false, false, false, false] rfl rfl (any_of HT_.out (by kernel_rfl)) (fun _ _ _ h => h) (Or.inl ⟨by rfl, ?_⟩) ?_ ?_
     rotate_left
     ·intro w'
      go_simp
      with_reducible rfl
     rotate_left
     ·simp only [Act.put, sA, sZ, sS, i64_w, i32_w]
      rfl
     refine pure_ (i := 2) (N := some 15) (v := ?_) (a' := ?_) #[true, false, true, false, false, false, false, false, false, false] rfl rfl (any_of HT_.out (by kernel_rfl)) (fun _ _ _ h => h) (Or.inl ⟨by rfl, ?_⟩) ?_ ?_
     rotate_left
     ·intro w'
      go_simp
      with_reducible rfl
     rotate_left
     ·simp only [Act.put, sA, sZ, sS, i64_w, i32_w]
      rfl
     refine pure_ (i := 4) (N := some 17) (v := ?_) (a' := ?_) #[true, false, true, false, true, false, false, false, false, false] rfl rfl (any_of HT_.out (by kernel_rfl)) (fun _ _ _ h => h) (Or.inl ⟨by rfl, ?_⟩) ?_ ?_
     rotate_left
     ·intro w'
      go_simp
      with_reducible rfl
     rotate_left
     ·simp only [Act.put, sA, sZ, sS, i64_w, i32_w]
      rfl
     refine take_ (i := 1) (N := some 14) (v := ?_) (a' := ?_) #[true, true, true, false, true, false, false, false, false, false] rfl rfl (take_ofW HT_.out HW_.out (by kernel_rfl)) (fun _ _ _ h => h) (Or.inl ⟨by rfl, ?_⟩) hHeld ?_ ?_
     rotate_left
     ·rintro w' ⟨s0, s1⟩
      go_simp
      with_reducible rfl
     rotate_left
     ·simp only [Act.put, sA, sZ, sS, i64_w, i32_w]
      rfl
     refine take_ (i := 5) (N := some 18) (v := ?_) (a' := ?_) #[true, true, true, false, true, true, false, false, false, false] rfl rfl (take_ofW HT_.out HW_.out (by kernel_rfl)) (fun _ _ _ h => h) (Or.inl ⟨by rfl, ?_⟩) hHeld ?_ ?_
     rotate_left
     ·rintro w' ⟨s0, s1⟩
      go_simp
      with_reducible rfl
     rotate_left
     ·simp only [Act.put, sA, sZ, sS, i64_w, i32_w]
      rfl
     refine one_ (i := 3) (N := some 16) #[true, true, true, true, true, true, false, false, false, false] rfl rfl (one_of HT_.out (by kernel_rfl)) (by decide) (fun K hK => ?_)
     refine goes_ Try.func113 (by kernel_rfl) rfl #[.agg #[.int .i64 a0_0, .slice A0_1 l0_1.length c0_1], .int .i64 x4_1] (by rfl) rfl rfl (by (try simp only [mA, mC, mN]); first | done | rfl | (simp only [List.length_drop, List.length_take]; rfl)) ?_
     with_reducible refine (spec_voWeight.calls k1 a0_0 _ _ l0_1 x4_1 t103 _ ?side1 ?side2 A5.out).mono ?_
     (case side1 => repeat (first | exact (Kd.C_below HR0_1.out HB.out) | (with_reducible refine Kd.C_alloc ?_ _) | (with_reducible refine Kd.C_drewN ?_ _) | (with_reducible refine Kd.C_drew ?_)))
     (case side2 => exact HC0_1.out)
     rintro e w9 ⟨rfl, hb⟩
     refine ⟨_, rfl, ?_⟩
     have n0_ := Aside0.mk (Kd.R_below (by (first | exact rp HO_3.out | exact HO_3.out)) hb)
     have n1_ := Aside0.mk (blk_below (g := gb101) (o := .cells #[.int .i64 a0_0, .slice A0_1 l0_1.length c0_1] 41 (0, 0)) (by (first | exact bp BK101.out | exact BK101.out)) hb)
     have n2_ := Aside0.mk (below_step (by repeat (first | (with_reducible first | exact HB.out | apply ba | apply bd | apply be | refine bs ?_ GE101.out) | exact HB.out)) hb)
     clear HO_3
     clear BK101
     clear HB
     have HO_3 := n0_
     have BK101 := n1_
     have HB := n2_
     clear n0_ n1_ n2_
     (try clear hb)
     (try clear hb2)
     (try clear hk)
     (try clear hi)
     refine hK.out _ _ ⟨(blk_cell BK101.out 0).trans rfl, (blk_cell BK101.out 1).trans rfl⟩ (fun hHeld => ?_)
     clear hK K
     refine norm_ (a' := ?_) ?_ ?_
     rotate_left
     ·show Act.put _ (some 16) _ = _
      simp only [Act.put, sA, sZ, sS, i64_w, i32_w]
      rfl
     refine pure_ (i := 6) (N := some 19) (v := ?_) (a' := ?_) #[true, true, true, true, true, true, true, false, false, false] rfl rfl (any_of HT_.out (by kernel_rfl)) (fun _ _ _ h => h) (Or.inl ⟨by rfl, ?_⟩) ?_ ?_
     rotate_left
     ·intro w'
      go_simp
      with_reducible rfl
     rotate_left
     ·simp only [Act.put, sA, sZ, sS, i64_w, i32_w]
      rfl
     refine one_ (i := 7) (N := some 20) #[true, true, true, true, true, true, true, true, false, false] rfl rfl (one_of HT_.out (by kernel_rfl)) (by decide) (fun K hK => ?_)
     refine value_ (w1 := ?_) (v := ?_) (by rfl) rfl ?_ ?_
     rotate_left 2
     ·go_simp
      constructor
      ·rfl
      ·rfl
     refine hK.out _ _ ⟨(blk_cell (blk_alloc BK101.out _) 0).trans rfl, (blk_cell (blk_alloc BK101.out _) 1).trans rfl⟩ (fun hHeld => ?_)
     clear hK K
     refine norm_ (a' := ?_) ?_ ?_
     rotate_left
     ·show Act.put _ (some 20) _ = _
      simp only [Act.put, sA, sZ, sS, i64_w, i32_w]
      rfl
     refine one_ (i := 8) (N := some 21) #[true, true, true, true, true, true, true, true, true, false] rfl rfl (one_of HT_.out (by kernel_rfl)) (by decide) (fun K hK => ?_)
     refine Kd.R_append_step Kd.bool (w0 := w) w.heap.size (by rfl) (.tmp 13) (.tmp 20) 66 4 (.bool false) 1 rfl Try.underlying66 info4 rfl (by decide) (by omega) u3 x3_1 (decide (t103 ≥ a0_0)) [.bool (decide (t103 ≥ a0_0))] (fun _ => True) (fun _ => False) rfl rfl ?aP (fun _ hk => hk.elim) ?aF ?aO ?aB ?aS ?aL ?_
     (case aP => exact rfl)
     (case aB => exact (by repeat (first | (with_reducible first | exact HB.out | apply ba | apply bd | apply be | refine bs ?_ GE101.out) | exact HB.out)))
     (case aF => exact (fun _ _ => trivial))
     (case aO => exact (by (first | exact rp HO_3.out | exact HO_3.out)))
     (case aS => exact (below_size (by repeat (first | (with_reducible first | exact HB.out | apply ba | apply bd | apply be | refine bs ?_ GE101.out) | exact HB.out))))
     (case aL => have := LMc6.out; omega)
     intro v105 w10 ho hb hg hat
     rw [← Ny104.out] at ho
     have n0_ := Aside0.mk (blk_grown (g := gb101) (o := .cells #[.int .i64 a0_0, .slice A0_1 l0_1.length c0_1] 41 (0, 0)) (by (first | exact bp BK101.out | exact BK101.out)) hg (Kd.R_ne HO_3.out BK101.out (by decide)))
     have n1_ := Aside0.mk (hb)
     have n2_ := Aside0.mk (ho)
     clear BK101
     clear HB
     clear HO_3
     have BK101 := n0_
     have HB := n1_
     have HO106 := n2_
     clear n0_ n1_ n2_
     clear ho hb hg hat
     refine hK.out _ _ ⟨(blk_cell BK101.out 0).trans rfl, (blk_cell BK101.out 1).trans rfl⟩ (fun hHeld => ?_)
     clear hK K
     refine norm_ (a' := ?_) ?_ ?_
     rotate_left
     ·show Act.put _ (some 21) _ = _
      simp only [Act.put, sA, sZ, sS, i64_w, i32_w]
      rfl
     refine pure_ (i := 9) (N := some 3) (v := ?_) (a' := ?_) #[true, true, true, true, true, true, true, true, true, true] rfl rfl (any_of HT_.out (by kernel_rfl)) (fun _ _ _ h => h) (Or.inl ⟨by rfl, ?_⟩) ?_ ?_
     rotate_left
     ·intro w'
      go_simp
      with_reducible rfl
     rotate_left
     ·simp only [Act.put, sA, sZ, sS, i64_w, i32_w]
      rfl
     refine done_ (done_of HT_.out (by kernel_rfl)) ?_
     try go_wp2
     go_roundg k1
     case measure => have := HK1.out; omega
     case rel => exact ⟨(y104), (wrap64 (x4_1 + 1)), (by first | rfl | (simp; done) | (simp [*]; done)), H', ⟨by have := HK1.out; omega⟩, ⟨by (first | exact rp HO106.out | exact HO106.out)⟩, ⟨by (first | exact bp BK101.out | exact BK101.out)⟩, ⟨by repeat (first | (with_reducible first | exact HB.out | apply ba | apply bd | apply be | refine bs ?_ GE101.out) | exact HB.out)⟩⟩
    ·rw [if_neg c6] at H
     exact absurd H (by simp)
   ·rw [if_neg c4] at H
    have c4b0 : decide (x4_1 ≤ t102) = false := decide_eq_false c4
    clear c4
    obtain rfl := Option.some.inj H
    have hcz11_0 : wr.cell? ⟨gb101, 0, none⟩ = some (.int .i64 a0_0) := (blk_cell BK101.out 0).trans rfl
    have hcz11_1 : wr.cell? ⟨gb101, 1, none⟩ = some (.slice A0_1 l0_1.length c0_1) := (blk_cell BK101.out 1).trans rfl
    have hfz11_0 := blk_frozen BK101.out 0
    have hfz11_1 := blk_frozen BK101.out 1
    go_wp2_with (first | ((with_reducible refine gate_callee (f := 78) rfl ?_); refine goesL_ (some 9) rfl rfl Try.func78 (by kernel_rfl) rfl #[.int .i64 (l0_1.length : Int)] rfl (by (try simp only [mA, mC, mN]); first | done | rfl | (simp only [List.length_drop, List.length_take]; rfl)) ?_; (with_reducible refine (spec_voAll.calls (l0_1.length : Int) t102 _ A3.out).mono ?_); rintro e w' ⟨rfl, ⟨nd, rfl⟩⟩; refine ⟨_, rfl, ?_⟩))
    go_ret
    exact ⟨_, by first | rfl | (simp <;> rfl) | (simp [*] <;> rfl), by (first | exact rp HO_3.out | exact HO_3.out), by repeat (first | (with_reducible first | exact HB.out | apply ba | apply bd | apply be | refine bs ?_ GE101.out) | exact HB.out)⟩

end Go.Proofs.Ytmmmblfghhcndaa.Q

namespace Go.Proofs.Ytmmmblfghhcndaa.Q
open Go.RowKit Go.Proofs.YtmmmblfghhcndaaW.PrintWords Go.Proofs.YtmmmblfghhcndaaW.PrintLast Go.Proofs.YtmmmblfghhcndaaW.PrintMore Go.Proofs.YtmmmblfghhcndaaM
set_option linter.unusedVariables false
set_option linter.unusedSimpArgs false
theorem spec_voAll.v (n : Nat) (hn : n ≤ 60) : spec_voAll.f (n : Int) = some ((2 ^ n - 1 : Nat) : Int) := by
  unfold spec_voAll.f
  have h0 : 0 < 2 ^ n := Nat.two_pow_pos n
  have h : 2 ^ n ≤ 2 ^ 60 := Nat.pow_le_pow_right (by omega) hn
  rw [if_pos (by omega), shl_one n (by omega), w64 (by omega) (by omega)]
  congr 1
  omega
theorem winsL_take (q : Int) (ws : List Int) (m : Nat) (h : m < 2 ^ ws.length) : (winsL q ws).take (m + 1) = (winsL q ws).take m ++ [decide (q ≤ wsum ws m)] := by
  rw [List.take_succ_eq_append_getElem (by rw [winsL_length]; exact h), winsL_get]
theorem spec_voWins.ev_l (q : Int) (ws : List Int) (hl : ws.length ≤ 9) (hw : ∀ x ∈ ws, 0 ≤ x ∧ x ≤ 1000000000) : ∀ (d m : Nat), m + d = 2 ^ ws.length → Ev (fun k => spec_voWins.l0 k ((winsL q ws).take m) (m : Int) q ws) (winsL q ws) := by
  have hp : 2 ^ ws.length ≤ 2 ^ 9 := Nat.pow_le_pow_right (by omega) hl
  have h0 : 0 < 2 ^ ws.length := Nat.two_pow_pos _
  intro d
  induction d with
  | zero =>
    intro m h
    refine ev_step ?_
    simp only [spec_voWins.l0]
    rw [ev_bind (ev_of (spec_voAll.v ws.length (by omega))), ev_neg (by omega), ev_now, List.take_of_length_le (by rw [winsL_length]; omega)]
  | succ d ih =>
    intro m h
    refine ev_step ?_
    simp only [spec_voWins.l0]
    rw [ev_bind (ev_of (spec_voAll.v ws.length (by omega))), ev_pos (by omega), ev_bind (spec_voWeight.ev q ws m (by omega) (by omega) hw), ev_pos (by simp; omega), w64i (n := 512) (by omega) (by omega) (by omega)]
    have := ih (m + 1) (by omega)
    rw [winsL_take q ws m (by omega)] at this
    exact this
theorem spec_voWins.ev (q : Int) (ws : List Int) (hl : ws.length ≤ 9) (hw : ∀ x ∈ ws, 0 ≤ x ∧ x ≤ 1000000000) : Ev (fun k => spec_voWins.f k q ws) (winsL q ws) := by
  have := spec_voWins.ev_l q ws hl hw (2 ^ ws.length) 0 (by omega)
  simpa [spec_voWins.f] using this
end Go.Proofs.Ytmmmblfghhcndaa.Q

namespace Go.Proofs.Ytmmmblfghhcndaa.Q
open Go.RowKit Go.Proofs.YtmmmblfghhcndaaX Go.Proofs.YtmmmblfghhcndaaW.PrintWords Go.Proofs.YtmmmblfghhcndaaW.PrintLast Go.Proofs.YtmmmblfghhcndaaW.PrintMore
attribute [local go_sem] max2_int min2_int max_two min_two max_three min_three max_four min_four   -- for this text's walks alone
set_option linter.unusedVariables false
set_option linter.unusedSimpArgs false

/-! ### spec_gmAll: function 91 -/
def spec_gmAll.f (k : Nat) (a0_0 : Int) (l0_1 : List (List Int)) : Option (List Bool) := (spec_gmWins.f k a0_0 l0_1).bind fun t102 => (some t102)
theorem spec_gmAll.mono : ∀ a0 a1 k, LeO (spec_gmAll.f k a0 a1) (spec_gmAll.f (k + 1) a0 a1) := by
 intro a0 a1 k
 unfold spec_gmAll.f
 repeat' first
   | (with_reducible exact spec_gmWins.mono _ _ _)
   | (with_reducible exact LeO.refl _)
   | (with_reducible exact LeO.none _)
   | (with_reducible refine LeO.ite ?_ ?_)
   | (with_reducible refine LeO.bind ?_ (fun _ => ?_))
   | exact spec_gmWins.mono _ _ _
   | exact LeO.none _
   | refine LeO.ite ?_ ?_
   | refine LeO.bind ?_ (fun _ => ?_)
set_option maxHeartbeats 8000000 in
set_option maxRecDepth 100000 in
theorem spec_gmAll.calls (k : Nat) (a0_0 : Int) (A0_1 : Option Addr) (c0_1 : Nat) (l0_1 : List (List Int)) (r : List Bool) (w : World) (hr0_1 : Kd.C (Kd.slice 3 (Kd.int .i64)) w A0_1 l0_1.length l0_1) (hc0_1 : l0_1.length ≤ c0_1) (h : spec_gmAll.f k a0_0 l0_1 = some r) :
  Calls Try.prog 91 #[.agg #[.int .i64 a0_0, .slice A0_1 l0_1.length c0_1]] w fun e w' => ∃ v0_ : Value, e = .returned (v0_) ∧ Kd.R Kd.bool 4 w' w.heap.size (fun _ => True) v0_ r ∧ Below w.heap.size w w' := by
 have hu28 := Try.underlying28
 have HR0_1 := Aside0.mk hr0_1
 have HC0_1 := Aside0.mk hc0_1
 clear hr0_1 hc0_1
 have HB := Aside0.mk (Below.refl w.heap.size w)
 have H : ((spec_gmWins.f k a0_0 l0_1).bind fun t102 => (some t102)) = some r := h
 clear h
 replace H := oB H
 obtain ⟨t102, A20, H⟩ := H
 replace H : (some t102) = some r := H
 have A2 := Aside0.mk A20
 clear A20
 obtain rfl := Option.some.inj H
 go_enter Try.func91, Try.ntmps91
 go_wp2_with (first | ((with_reducible refine gate_dst (N := 1) rfl ?_); refine box_event ?hg (N := 1) ?hd (cs := #[.int .i64 a0_0, .slice A0_1 l0_1.length c0_1]) (t := 28) ?hr ?_; (case hd => rfl); (case hg => rfl); (case hr => first | (go_simp; done) | (go_simp; rfl)); intro gb101 hg w3 hbox hb; have n0_ := Aside0.mk (below_step (by repeat (first | (with_reducible first | exact HB.out | apply ba | apply bd | apply be) | exact HB.out)) hb); have n1_ := Aside0.mk (hbox); have n2_ := Aside0.mk ((by rw [hg]; exact (below_size (by repeat (first | (with_reducible first | exact HB.out | apply ba | apply bd | apply be) | exact HB.out))) : w.heap.size ≤ gb101)); have n3_ := Aside0.mk ((by rw [hg]; exact (below_size (by repeat (first | (with_reducible first | exact HB.out | apply ba | apply bd | apply be) | exact HB.out))) : w.heap.size ≤ gb101)); clear HB; have HB := n0_; have BK101 := n1_; have GW101 := n2_; have GE101 := n3_; clear n0_ n1_ n2_ n3_; clear hb hbox hg; have hcz4_0 : w3.cell? ⟨gb101, 0, none⟩ = some (.int .i64 a0_0) := (blk_cell BK101.out 0).trans rfl; have hcz4_1 : w3.cell? ⟨gb101, 1, none⟩ = some (.slice A0_1 l0_1.length c0_1) := (blk_cell BK101.out 1).trans rfl; have hfz4_0 := blk_frozen BK101.out 0; have hfz4_1 := blk_frozen BK101.out 1) | ((with_reducible refine gate_callee (f := 64) rfl ?_); refine goesL_ (some 7) rfl rfl Try.func64 (by kernel_rfl) rfl #[.int .i64 a0_0, .slice A0_1 l0_1.length c0_1] rfl (by (try simp only [mA, mC, mN]); first | done | rfl | (simp only [List.length_drop, List.length_take]; rfl)) ?_; (with_reducible refine (spec_gmWins.calls k a0_0 _ _ l0_1 t102 _ ?side1 ?side2 A2.out).mono ?_); (case side1 => repeat (first | exact (Kd.C_below HR0_1.out HB.out) | (with_reducible refine Kd.C_alloc ?_ _) | (with_reducible refine Kd.C_drewN ?_ _) | (with_reducible refine Kd.C_drew ?_))); (case side2 => exact HC0_1.out); rintro e w5 ⟨v103, rfl, ho0, hb⟩; refine ⟨_, rfl, ?_⟩; have n0_ := Aside0.mk (Kd.R_lower ho0 (below_size (by repeat (first | (with_reducible first | exact HB.out | apply ba | apply bd | apply be | refine bs ?_ GE101.out) | exact HB.out)))); have n1_ := Aside0.mk (blk_below (g := gb101) (o := .cells #[.int .i64 a0_0, .slice A0_1 l0_1.length c0_1] 28 (0, 0)) (by (first | exact bp BK101.out | exact BK101.out)) hb); have n2_ := Aside0.mk (below_step (by repeat (first | (with_reducible first | exact HB.out | apply ba | apply bd | apply be | refine bs ?_ GE101.out) | exact HB.out)) hb); clear BK101; clear HB; have HO104 := n0_; have BK101 := n1_; have HB := n2_; clear n0_ n1_ n2_; (try clear hb); (try clear hb2); (try clear hk); (try clear hi); (try clear ho0)))
 go_ret
 exact ⟨_, by first | rfl | (simp <;> rfl) | (simp [*] <;> rfl), by (first | exact rp HO104.out | exact HO104.out), by repeat (first | (with_reducible first | exact HB.out | apply ba | apply bd | apply be | refine bs ?_ GE101.out) | exact HB.out)⟩

end Go.Proofs.Ytmmmblfghhcndaa.Q

namespace Go.Proofs.Ytmmmblfghhcndaa.Q
open Go.RowKit Go.Proofs.YtmmmblfghhcndaaW.PrintWords Go.Proofs.YtmmmblfghhcndaaW.PrintLast Go.Proofs.YtmmmblfghhcndaaW.PrintMore Go.Proofs.YtmmmblfghhcndaaM
set_option linter.unusedVariables false
set_option linter.unusedSimpArgs false
theorem spec_gmWins.ev_l1 (l : List (List Int)) (hl : l.length ≤ 1000000) (hs : ∀ x ∈ l, x.length ≤ 9223372036854775807 ∧ (∀ y ∈ x, 0 ≤ y ∧ y ≤ 60)) (N m : Nat) (hm : m < N) (hN : N ≤ 1000000) (R : List Bool) : ∀ (d j : Nat) (acc : List Bool) (ha : acc.length = N), j + d = l.length → Ev (fun k => spec_gmWins.l0 k l (acc.set m ((acc[m]'(by omega)) || ((l.drop j).any fun x => decide (m &&& maskN x = maskN x)))) (N : Int) ((m : Int) + 1)) R → Ev (fun k => spec_gmWins.l1 k l acc (m : Int) (N : Int) (m : Int) l (l.length : Int) (j : Int)) R := by
  intro d
  induction d with
  | zero =>
    intro j acc ha h hR
    refine ev_step ?_
    simp only [spec_gmWins.l1]
    rw [List.drop_of_length_le (by omega), List.any_nil, Bool.or_false, List.set_getElem_self] at hR
    rw [ev_neg (by omega), w64i (n := N) (by omega) (by omega) (by omega)]
    exact hR
  | succ d ih =>
    intro j acc ha h hR
    refine ev_step ?_
    simp only [spec_gmWins.l1]
    have hj : j < l.length := by omega
    have hma : m < acc.length := by omega
    have hx := hs l[j] (List.getElem_mem hj)
    have hlt : maskN l[j] < 2 ^ 61 := orBits_lt61 l[j] 0 (by omega) hx.2
    rw [ev_pos (by omega), ev_pos (by omega), ev_pos (by omega), w64i (i := (j : Int)) (n := l.length) (by omega) (by omega) (by omega), rd_L2_lt l j hj, ev_bind (spec_voBits.ev l[j] hx.1 hx.2), ev_pos (by omega), ev_pos (by omega), rdOf_lt false acc m hma, Int.toNat_natCast, and_nat m (maskN l[j]) (by omega) (by omega)]
    rw [List.drop_eq_getElem_cons hj, List.any_cons] at hR
    by_cases c : acc[m] = true
    · rw [ev_pos c]
      refine ih (j + 1) (acc.set m true) (by simpa using ha) (by omega) ?_
      rw [c, Bool.true_or] at hR
      rw [List.getElem_set_self, List.set_set, Bool.true_or]
      exact hR
    · rw [ev_neg c]
      refine ih (j + 1) (acc.set m _) (by simpa using ha) (by omega) ?_
      rw [List.getElem_set_self, List.set_set]
      rw [Bool.eq_false_iff.2 c, Bool.false_or] at hR
      have e : ((((m &&& maskN l[j] : Nat) : Int) == ((maskN l[j] : Nat) : Int))) = decide (m &&& maskN l[j] = maskN l[j]) := by
        by_cases c2 : m &&& maskN l[j] = maskN l[j]
        · rw [decide_eq_true c2, c2, beq_self_eq_true]
        · rw [decide_eq_false c2]
          exact beq_eq_false_iff_ne.2 (by omega)
      rw [e]
      exact hR
theorem spec_gmWins.ev_l0 (n : Nat) (hn : n ≤ 18) (l : List (List Int)) (hl : l.length ≤ 1000000) (hs : ∀ x ∈ l, x.length ≤ 9223372036854775807 ∧ (∀ y ∈ x, 0 ≤ y ∧ y ≤ 60)) : ∀ (d m : Nat) (acc : List Bool), m + d = 2 ^ n → acc.length = 2 ^ n → acc.take m = (winsG n l).take m → (∀ j (h : j < acc.length), m ≤ j → acc[j] = false) → Ev (fun k => spec_gmWins.l0 k l acc ((2 ^ n : Nat) : Int) (m : Int)) (winsG n l) := by
  have hp : 2 ^ n ≤ 2 ^ 18 := Nat.pow_le_pow_right (by omega) hn
  have hwl := winsG_length n l
  intro d
  induction d with
  | zero =>
    intro m acc h ha ht hf
    refine ev_step ?_
    simp only [spec_gmWins.l0]
    rw [ev_neg (by omega), ev_now]
    rw [List.take_of_length_le (by omega), List.take_of_length_le (by omega)] at ht
    exact ht
  | succ d ih =>
    intro m acc h ha ht hf
    refine ev_step ?_
    simp only [spec_gmWins.l0]
    have hma : m < acc.length := by omega
    rw [ev_pos (by omega)]
    refine spec_gmWins.ev_l1 l hl hs (2 ^ n) m (by omega) (by omega) (winsG n l) l.length 0 acc ha (by omega) ?_
    rw [hf m hma (Nat.le_refl m), Bool.false_or, List.drop_zero]
    refine ih (m + 1) _ (by omega) (by simpa using ha) ?_ ?_
    · rw [List.take_succ_eq_append_getElem (by simpa using hma), List.take_succ_eq_append_getElem (by omega), List.take_set_of_le (by omega), ht, List.getElem_set_self, winsG_get]
    · intro j hj hmj
      rw [List.length_set] at hj
      rw [List.getElem_set_ne (by omega)]
      exact hf j hj (by omega)
theorem spec_gmWins.ev (n : Nat) (hn : n ≤ 18) (l : List (List Int)) (hl : l.length ≤ 1000000) (hs : ∀ x ∈ l, x.length ≤ 9223372036854775807 ∧ (∀ y ∈ x, 0 ≤ y ∧ y ≤ 60)) : Ev (fun k => spec_gmWins.f k (n : Int) l) (winsG n l) := by
  have hp : 2 ^ n ≤ 2 ^ 18 := Nat.pow_le_pow_right (by omega) hn
  have h0 : 0 < 2 ^ n := Nat.two_pow_pos n
  simp only [spec_gmWins.f]
  have e : (((2 ^ n - 1 : Nat) : Int) + 1) = ((2 ^ n : Nat) : Int) := by omega
  rw [ev_bind (ev_of (spec_voAll.v n (by omega))), e, w64 (by omega) (by omega), ev_pos (by omega), ev_pos (by rw [Int.toNat_natCast]; omega), Int.toNat_natCast]
  simp only [Option.bind_some, List.length_replicate]
  exact spec_gmWins.ev_l0 n hn l hl hs (2 ^ n) 0 _ (by omega) (by simp) (by simp) (fun j h _ => by simp)
theorem spec_gmAll.ev (n : Nat) (hn : n ≤ 18) (l : List (List Int)) (hl : l.length ≤ 1000000) (hs : ∀ x ∈ l, x.length ≤ 9223372036854775807 ∧ (∀ y ∈ x, 0 ≤ y ∧ y ≤ 60)) : Ev (fun k => spec_gmAll.f k (n : Int) l) (winsG n l) := by
  simp only [spec_gmAll.f]
  rw [ev_bind (spec_gmWins.ev n hn l hl hs), ev_now]
end Go.Proofs.Ytmmmblfghhcndaa.Q

namespace Go.Proofs.Ytmmmblfghhcndaa.Q
open Go.RowKit Go.Proofs.YtmmmblfghhcndaaW.PrintWords Go.Proofs.YtmmmblfghhcndaaW.PrintLast Go.Proofs.YtmmmblfghhcndaaW.PrintMore Go.Proofs.YtmmmblfghhcndaaM
set_option linter.unusedVariables false
set_option linter.unusedSimpArgs false
theorem impl_votesOf.at_l (n N : Nat) (hN : N ≤ 1000000) (P : Int → Option Bool) (p : Nat → Bool) (hP : ∀ m, m < N → P (m : Int) = some (p m)) : ∀ (d m k : Nat) (acc : List Bool), m + d = N → d < k → acc.length = N → acc.take m = ((List.range N).map p).take m → impl_votesOf.l0 k P (N : Int) (m : Int) (n : Int) acc = some ((n : Int), (List.range N).map p) := by
  intro d
  induction d with
  | zero =>
    intro m k acc h hk hlen ht
    obtain ⟨k, rfl⟩ : ∃ j, k = j + 1 := ⟨k - 1, by omega⟩
    simp only [impl_votesOf.l0]
    rw [List.take_of_length_le (by omega), List.take_of_length_le (by simp; omega)] at ht
    rw [if_neg (by omega), ht]
  | succ d ih =>
    intro m k acc h hk hlen ht
    obtain ⟨k, rfl⟩ : ∃ j, k = j + 1 := ⟨k - 1, by omega⟩
    have hm : m < N := by omega
    simp only [impl_votesOf.l0]
    rw [if_pos (by omega), hP m hm, Option.bind_some, if_pos (by omega), if_pos (by omega), w64i (n := N) (by omega) (by omega) (by omega), Int.toNat_natCast]
    refine ih (m + 1) k (acc.set m (p m)) (by omega) (by omega) (by simpa using hlen) ?_
    rw [List.take_succ_eq_append_getElem (by simp; omega), List.take_succ_eq_append_getElem (by simp; omega), List.take_set_of_le (by omega), ht]
    simp
theorem impl_votesOf.ev (n : Nat) (hn : n ≤ 19) (g : Nat → Int → Option Bool) (p : Nat → Bool) (hg : ∀ m : Nat, m < 2 ^ n → Ev (fun k => g k (m : Int)) (p m)) : Ev (fun k => impl_votesOf.f k (n : Int) (g k)) ((n : Int), (List.range (2 ^ n)).map p) := by
  have hp : 2 ^ n ≤ 2 ^ 19 := Nat.pow_le_pow_right (by omega) hn
  have h0 : 0 < 2 ^ n := Nat.two_pow_pos n
  generalize hN : 2 ^ n = N at *
  obtain ⟨K, hK⟩ := ev_all N (fun k m => g k (m : Int)) p hg
  refine ⟨max K (N + 1), fun k hk => ?_⟩
  simp only [impl_votesOf.f]
  rw [if_pos (by omega), shl_one n (by omega), hN, if_pos (by omega), Int.toNat_natCast, if_pos (by omega), Option.bind_some, List.length_replicate]
  exact impl_votesOf.at_l n N (by omega) (g k) p (fun m hm => hK k (by omega) m hm) N 0 k _ (by omega) (by omega) (by simp) (by simp)
end Go.Proofs.Ytmmmblfghhcndaa.Q

namespace Go.Proofs.Ytmmmblfghhcndaa.Q
open Go.RowKit Go.Proofs.YtmmmblfghhcndaaX Go.Proofs.YtmmmblfghhcndaaW.PrintWords Go.Proofs.YtmmmblfghhcndaaW.PrintLast Go.Proofs.YtmmmblfghhcndaaW.PrintMore
attribute [local go_sem] max2_int min2_int max_two min_two max_three min_three max_four min_four   -- for this text's walks alone
set_option linter.unusedVariables false
set_option linter.unusedSimpArgs false

/-! ### impl_Game_votes: function 59 -/
def impl_Game_votes.f (k : Nat) (a0_0 : Int) (l0_1 : List (List Int)) : Option (Int × List Bool) := (impl_votesBy.f k a0_0 l0_1).bind fun bt103 => (some (bt103.1, bt103.2))
theorem impl_Game_votes.mono : ∀ a0 a1 k, LeO (impl_Game_votes.f k a0 a1) (impl_Game_votes.f (k + 1) a0 a1) := by
 intro a0 a1 k
 unfold impl_Game_votes.f
 repeat' first
   | (with_reducible exact impl_votesBy.mono _ _ _)
   | (with_reducible exact LeO.refl _)
   | (with_reducible exact LeO.none _)
   | (with_reducible refine LeO.ite ?_ ?_)
   | (with_reducible refine LeO.bind ?_ (fun _ => ?_))
   | exact impl_votesBy.mono _ _ _
   | exact LeO.none _
   | refine LeO.ite ?_ ?_
   | refine LeO.bind ?_ (fun _ => ?_)
set_option maxHeartbeats 8000000 in
set_option maxRecDepth 100000 in
theorem impl_Game_votes.calls (k : Nat) (a0_0 : Int) (A0_1 : Option Addr) (c0_1 : Nat) (l0_1 : List (List Int)) (r1 : Int) (r2 : List Bool) (w : World) (hr0_1 : Kd.C (Kd.slice 3 (Kd.int .i64)) w A0_1 l0_1.length l0_1) (hc0_1 : l0_1.length ≤ c0_1) (h : impl_Game_votes.f k a0_0 l0_1 = some (r1, r2)) :
  Calls Try.prog 59 #[.agg #[.int .i64 a0_0, .slice A0_1 l0_1.length c0_1]] w fun e w' => ∃ v1_ : Value, e = .returned (.agg #[.int .i64 r1, v1_]) ∧ Kd.R Kd.bool 4 w' w.heap.size (fun _ => True) v1_ r2 ∧ Below w.heap.size w w' := by
 have hu28 := Try.underlying28
 have hu69 := Try.underlying69
 have HR0_1 := Aside0.mk hr0_1
 have HC0_1 := Aside0.mk hc0_1
 clear hr0_1 hc0_1
 have HB := Aside0.mk (Below.refl w.heap.size w)
 have H : ((impl_votesBy.f k a0_0 l0_1).bind fun bt103 => (some (bt103.1, bt103.2))) = some (r1, r2) := h
 clear h
 replace H := oB H
 obtain ⟨⟨t103, t104⟩, A20, H⟩ := H
 replace H : (some (t103, t104)) = some (r1, r2) := H
 have A2 := Aside0.mk A20
 clear A20
 simp only [Option.some.injEq, Prod.mk.injEq] at H
 obtain ⟨rfl, rfl⟩ := H
 go_enter Try.func59, Try.ntmps59
 go_wp2_with (first | ((with_reducible refine gate_dst (N := 1) rfl ?_); refine box_event ?hg (N := 1) ?hd (cs := #[.int .i64 a0_0, .slice A0_1 l0_1.length c0_1]) (t := 28) ?hr ?_; (case hd => rfl); (case hg => rfl); (case hr => first | (go_simp; done) | (go_simp; rfl)); intro gb101 hg w3 hbox hb; have n0_ := Aside0.mk (below_step (by repeat (first | (with_reducible first | exact HB.out | apply ba | apply bd | apply be) | exact HB.out)) hb); have n1_ := Aside0.mk (hbox); have n2_ := Aside0.mk ((by rw [hg]; exact (below_size (by repeat (first | (with_reducible first | exact HB.out | apply ba | apply bd | apply be) | exact HB.out))) : w.heap.size ≤ gb101)); have n3_ := Aside0.mk ((by rw [hg]; exact (below_size (by repeat (first | (with_reducible first | exact HB.out | apply ba | apply bd | apply be) | exact HB.out))) : w.heap.size ≤ gb101)); clear HB; have HB := n0_; have BK101 := n1_; have GW101 := n2_; have GE101 := n3_; clear n0_ n1_ n2_ n3_; clear hb hbox hg) | ((with_reducible refine gate_dst (N := 2) rfl ?_); refine box_event ?hg (N := 2) ?hd (cs := #[.int .i64 0, .slice none 0 0]) (t := 69) ?hr ?_; (case hd => rfl); (case hg => rfl); (case hr => first | (go_simp; done) | (go_simp; rfl)); intro gb102 hg w4 hbox hb; have n0_ := Aside0.mk (blk_below (g := gb101) (o := .cells #[.int .i64 a0_0, .slice A0_1 l0_1.length c0_1] 28 (0, 0)) (by (first | exact bp BK101.out | exact BK101.out)) hb); have n1_ := Aside0.mk (below_step (by repeat (first | (with_reducible first | exact HB.out | apply ba | apply bd | apply be | refine bs ?_ GE101.out) | exact HB.out)) hb); have n2_ := Aside0.mk (hbox); have n3_ := Aside0.mk ((by rw [hg]; exact (below_size (by repeat (first | (with_reducible first | exact HB.out | apply ba | apply bd | apply be | refine bs ?_ GE101.out) | exact HB.out))) : w.heap.size ≤ gb102)); have n4_ := Aside0.mk ((by rw [hg]; exact (below_size (by repeat (first | (with_reducible first | exact HB.out | apply ba | apply bd | apply be | refine bs ?_ GE101.out) | exact HB.out))) : w.heap.size ≤ gb102)); have n5_ := Aside0.mk ((by rw [hg]; exact Nat.ne_of_lt (blk_lt (g := gb101) (o := .cells #[.int .i64 a0_0, .slice A0_1 l0_1.length c0_1] 28 (0, 0)) (by (first | exact bp BK101.out | exact BK101.out))) : gb101 ≠ gb102)); have n6_ := Aside0.mk ((by rw [hg]; exact Nat.ne_of_gt (blk_lt (g := gb101) (o := .cells #[.int .i64 a0_0, .slice A0_1 l0_1.length c0_1] 28 (0, 0)) (by (first | exact bp BK101.out | exact BK101.out))) : gb102 ≠ gb101)); clear BK101; clear HB; have BK101 := n0_; have HB := n1_; have BK102 := n2_; have GW102 := n3_; have GE102 := n4_; have NB101_102 := n5_; have NB102_101 := n6_; clear n0_ n1_ n2_ n3_ n4_ n5_ n6_; clear hb hbox hg; have hnb5 := NB101_102.out; have hnc5 := NB102_101.out; have hcz6_0 : w4.cell? ⟨gb101, 0, none⟩ = some (.int .i64 a0_0) := (blk_cell BK101.out 0).trans rfl; have hcz6_1 : w4.cell? ⟨gb101, 1, none⟩ = some (.slice A0_1 l0_1.length c0_1) := (blk_cell BK101.out 1).trans rfl; have hfz6_0 := blk_frozen BK101.out 0; have hfz6_1 := blk_frozen BK101.out 1) | ((with_reducible refine gate_callee (f := 68) rfl ?_); refine goesL_ (some 7) rfl rfl Try.func68 (by kernel_rfl) rfl #[.int .i64 a0_0, .slice A0_1 l0_1.length c0_1] rfl (by (try simp only [mA, mC, mN]); first | done | rfl | (simp only [List.length_drop, List.length_take]; rfl)) ?_; (with_reducible refine (impl_votesBy.calls k a0_0 _ _ l0_1 t103 t104 _ ?side1 ?side2 A2.out).mono ?_); (case side1 => repeat (first | exact (Kd.C_below HR0_1.out HB.out) | (with_reducible refine Kd.C_alloc ?_ _) | (with_reducible refine Kd.C_drewN ?_ _) | (with_reducible refine Kd.C_drew ?_))); (case side2 => exact HC0_1.out); rintro e w7 ⟨v105, rfl, ho0, hb⟩; refine ⟨_, rfl, ?_⟩; have n0_ := Aside0.mk (Kd.R_lower ho0 (below_size (by repeat (first | (with_reducible first | exact HB.out | apply ba | apply bd | apply be | refine bs ?_ GE101.out | refine bs ?_ GE102.out) | exact HB.out)))); have n1_ := Aside0.mk (blk_below (g := gb101) (o := .cells #[.int .i64 a0_0, .slice A0_1 l0_1.length c0_1] 28 (0, 0)) (by (first | exact bp BK101.out | exact BK101.out)) hb); have n2_ := Aside0.mk (blk_below (g := gb102) (o := .cells #[.int .i64 0, .slice none 0 0] 69 (0, 0)) (by (first | exact bp BK102.out | exact BK102.out)) hb); have n3_ := Aside0.mk (below_step (by repeat (first | (with_reducible first | exact HB.out | apply ba | apply bd | apply be | refine bs ?_ GE101.out | refine bs ?_ GE102.out) | exact HB.out)) hb); clear BK101; clear BK102; clear HB; have HO106 := n0_; have BK101 := n1_; have BK102 := n2_; have HB := n3_; clear n0_ n1_ n2_ n3_; (try clear hb); (try clear hb2); (try clear hk); (try clear hi); (try clear ho0); have hcz8_0 : w7.cell? ⟨gb102, 0, none⟩ = some (.int .i64 0) := (blk_cell BK102.out 0).trans rfl; have hcz8_1 : w7.cell? ⟨gb102, 1, none⟩ = some (.slice none 0 0) := (blk_cell BK102.out 1).trans rfl; have hfz8_0 := blk_frozen BK102.out 0; have hfz8_1 := blk_frozen BK102.out 1; obtain ⟨Ao9, co9, eo9⟩ := Kd.R_slice HO106.out; subst eo9))
 refine bodyPost_ret (results_cell_row rfl _ _ gb102 69 #[.int .i64 t103, .slice Ao9 t104.length co9] (0, 0) _ rfl (by (try refine bp ?_); refine blk_put (cs := #[.int .i64 t103, .slice none 0 0]) ?_ 1 _ rfl; (try refine bp ?_); refine blk_put (cs := #[.int .i64 0, .slice none 0 0]) ?_ 0 _ rfl; (first | exact bp BK102.out | exact BK102.out)) Try.underlying69 rfl (by kernel_rfl)) rfl ?_
 exact ⟨_, by first | rfl | (simp <;> rfl) | (simp [*] <;> rfl), by (try refine rp ?_); exact Kd.R_mono (Kd.R_far (p := ⟨gb102, 1, none⟩) (Kd.R_far (p := ⟨gb102, 0, none⟩) (Kd.R_types HO106.out BK102.out (by decide)) (fun _ hk => hk.2) (.int .i64 t103)) (fun _ hk => hk.2) (.slice Ao9 t104.length co9)) (fun _ hk => trivial), by repeat (first | (with_reducible first | exact HB.out | apply ba | apply bd | apply be | refine bs ?_ GE101.out | refine bs ?_ GE102.out) | exact HB.out)⟩

end Go.Proofs.Ytmmmblfghhcndaa.Q

namespace Go.Proofs.Ytmmmblfghhcndaa.Q
open Go.RowKit Go.Proofs.YtmmmblfghhcndaaW.PrintWords Go.Proofs.YtmmmblfghhcndaaW.PrintLast Go.Proofs.YtmmmblfghhcndaaW.PrintMore Go.Proofs.YtmmmblfghhcndaaM
set_option linter.unusedVariables false
set_option linter.unusedSimpArgs false
theorem impl_votesBy.ev_l (l : List (List Int)) (hl : l.length ≤ 1000000) (hs : ∀ x ∈ l, x.length ≤ 9223372036854775807 ∧ (∀ y ∈ x, 0 ≤ y ∧ y ≤ 60)) : ∀ (d i : Nat), i + d = l.length → Ev (fun k => impl_votesBy.l0 k ((l.map fun x => ((maskN x : Nat) : Int)).take i) l (i : Int)) (l.map fun x => ((maskN x : Nat) : Int)) := by
  have hml : (l.map fun x => ((maskN x : Nat) : Int)).length = l.length := by simp
  intro d
  induction d with
  | zero =>
    intro i h
    refine ev_step ?_
    simp only [impl_votesBy.l0]
    rw [ev_neg (by omega), ev_now, List.take_of_length_le (by omega)]
  | succ d ih =>
    intro i h
    refine ev_step ?_
    simp only [impl_votesBy.l0]
    have hi : i < l.length := by omega
    have hx := hs l[i] (List.getElem_mem hi)
    rw [ev_pos (by omega), ev_pos (by omega), rdOf_lt [] l i hi, ev_bind (impl_maskOf.ev l[i] hx.1 hx.2), ev_pos (by rw [List.length_take]; omega), w64i (n := l.length) (by omega) (by omega) (by omega)]
    have := ih (i + 1) (by omega)
    rw [List.take_succ_eq_append_getElem (by omega), List.getElem_map] at this
    exact this
theorem impl_votesBy.ev (n : Nat) (hn : n ≤ 18) (l : List (List Int)) (hl : l.length ≤ 1000000) (hs : ∀ x ∈ l, x.length ≤ 9223372036854775807 ∧ (∀ y ∈ x, 0 ≤ y ∧ y ≤ 60)) : Ev (fun k => impl_votesBy.f k (n : Int) l) ((n : Int), winsG n l) := by
  have hp : 2 ^ n ≤ 2 ^ 18 := Nat.pow_le_pow_right (by omega) hn
  simp only [impl_votesBy.f]
  have h0 := impl_votesBy.ev_l l hl hs l.length 0 (by omega)
  rw [List.take_zero] at h0
  rw [ev_bind (show Ev (fun k => impl_votesBy.l0 k ([] : List Int) l 0) _ from h0)]
  refine impl_votesOf.ev n (by omega) (fun _ x => some (impl_votesBy_1.p (l.map fun x => ((maskN x : Nat) : Int)) x)) (fun m => l.any fun x => decide (m &&& maskN x = maskN x)) (fun m hm => ?_)
  rw [ev_now, impl_votesBy_1.p]
  clear h0 hl
  induction l with
  | nil => rfl
  | cons x l ih =>
    have hx := hs x List.mem_cons_self
    have hlt := orBits_lt61 x 0 (by omega) hx.2
    have hm2 : maskN x < 2 ^ 61 := hlt
    rw [List.map_cons, List.any_cons, List.any_cons, ih (fun y hy => hs y (List.mem_cons_of_mem _ hy)), and_nat m (maskN x) (by omega) (by omega)]
    congr 1
    by_cases c : m &&& maskN x = maskN x
    · rw [decide_eq_true c, c, decide_eq_true rfl]
    · rw [decide_eq_false c, decide_eq_false (by omega)]
theorem impl_Game_votes.ev (n : Nat) (hn : n ≤ 18) (l : List (List Int)) (hl : l.length ≤ 1000000) (hs : ∀ x ∈ l, x.length ≤ 9223372036854775807 ∧ (∀ y ∈ x, 0 ≤ y ∧ y ≤ 60)) : Ev (fun k => impl_Game_votes.f k (n : Int) l) ((n : Int), winsG n l) := by
  simp only [impl_Game_votes.f]
  rw [ev_bind (impl_votesBy.ev n hn l hl hs), ev_now]
end Go.Proofs.Ytmmmblfghhcndaa.Q

namespace Go.Proofs.Ytmmmblfghhcndaa.Q
open Go.RowKit Go.Proofs.YtmmmblfghhcndaaW.PrintWords Go.Proofs.YtmmmblfghhcndaaW.PrintLast Go.Proofs.YtmmmblfghhcndaaW.PrintMore Go.Proofs.YtmmmblfghhcndaaM
set_option linter.unusedVariables false
set_option linter.unusedSimpArgs false
def gosB (n : Int) (l : List (List Int)) : Bool := (decide (1 ≤ n) && decide (n ≤ 9)) && ((decide (1 ≤ (l.length : Int)) && decide ((l.length : Int) ≤ 50)) && setsB n l)
def gosV (n : Int) (l : List (List Int)) : Int × List (List Int) × Bool := if gosB n l = true then (n, gmL n.toNat (winsG n.toNat l), true) else (0, [], false)
theorem gosB_sets {n : Int} {l : List (List Int)} (h : gosB n l = true) : 1 ≤ n ∧ n ≤ 9 ∧ l.length ≤ 50 ∧ ∀ x ∈ l, x.length ≤ 9223372036854775807 ∧ (∀ y ∈ x, 0 ≤ y ∧ y ≤ 60) := by
  simp only [gosB, Bool.and_eq_true, decide_eq_true_eq] at h
  obtain ⟨⟨h1, h9⟩, ⟨h2, h3⟩, h4⟩ := h
  refine ⟨h1, h9, by omega, fun x hx => ?_⟩
  have h5 := List.all_eq_true.1 h4 x hx
  simp only [Bool.and_eq_true] at h5
  have h6 := setB_in h5.2
  have h7 := setB_len h5.2 (by omega)
  exact ⟨by omega, fun y hy => by have := h6 y hy; omega⟩
theorem impl_GameOfSets.ev (n : Int) (l : List (List Int)) (okn : OkI n) (hl : l.length ≤ 9223372036854775807) (hx : ∀ x ∈ l, x.length ≤ 9223372036854775807) : Ev (fun k => impl_GameOfSets.f k n l) (gosV n l) := by
  have h0 : Ev (fun k => impl_GameOfSets.j0 k n l true) (0, [], false) := by
    refine ev_step ?_
    simp only [impl_GameOfSets.j0]
    rw [ev_pos trivial, ev_now]
  simp only [impl_GameOfSets.f]
  rw [ev_bind (ev_of (impl_within.v _ _ _))]
  unfold gosV gosB
  cases h1 : (decide (1 ≤ n) && decide (n ≤ 9)) with
  | false =>
    rw [ev_neg (by decide), if_neg (by simp)]
    exact h0
  | true =>
    rw [ev_pos rfl, Bool.true_and]
    simp only [Bool.and_eq_true, decide_eq_true_eq] at h1
    by_cases h2 : (l.length : Int) < 1
    · rw [ev_pos h2, if_neg (by simp; omega)]
      exact h0
    · rw [ev_neg h2]
      by_cases h3 : (l.length : Int) > 50
      · rw [ev_pos h3, if_neg (by simp; omega)]
        exact h0
      · rw [ev_neg h3, ev_bind (impl_areSets.ev l n (by omega) (by omega) hx)]
        refine ev_step ?_
        simp only [impl_GameOfSets.j0]
        cases h4 : setsB n l with
        | false =>
          rw [ev_pos (by decide), ev_now, if_neg (by simp)]
        | true =>
          obtain ⟨_, _, h5, h6⟩ := gosB_sets (n := n) (l := l) (by
            unfold gosB
            rw [h4]
            simp
            omega)
          have hv := impl_votesBy.ev n.toNat (by omega) l (by omega) h6
          have hg := impl_votes_game.ev (winsG n.toNat l) n.toNat (winsG_length _ _) (by omega)
          rw [show ((n.toNat : Nat) : Int) = n by omega] at hv hg
          rw [ev_neg (by decide), if_pos (by simp; omega), ev_bind hv, ev_bind hg, ev_now]
theorem spec_GameOfSets.ev (n : Int) (l : List (List Int)) (okn : OkI n) (hl : l.length ≤ 9223372036854775807) (hx : ∀ x ∈ l, x.length ≤ 9223372036854775807) : Ev (fun k => spec_GameOfSets.f k n l) (gosV n l) := by
  simp only [spec_GameOfSets.f]
  rw [ev_bind (show Ev (fun k => spec_gmSets.f k n l 50) (gosB n l) from spec_gmSets.ev n l 50 hl hx)]
  unfold gosV
  cases h1 : gosB n l with
  | false => rw [ev_neg (by decide), ev_now, if_neg (by decide)]
  | true =>
    obtain ⟨h2, h3, h5, h6⟩ := gosB_sets h1
    have hv := spec_gmWins.ev n.toNat (by omega) l (by omega) h6
    have hg := spec_gmOf.ev (winsG n.toNat l) n.toNat (winsG_length _ _) (by omega)
    rw [show ((n.toNat : Nat) : Int) = n by omega] at hv hg
    rw [ev_pos rfl, if_pos rfl, ev_bind hv, ev_bind hg, ev_now]
theorem gosV_few (n : Int) (l : List (List Int)) : (gosV n l).2.1.length ≤ 512 ∧ ∀ s ∈ (gosV n l).2.1, s.length ≤ 9 := by
  unfold gosV
  split
  · next h =>
    obtain ⟨h2, h3, _, _⟩ := gosB_sets h
    exact gmL_few (winsG_length _ _) (by omega)
  · simp
end Go.Proofs.Ytmmmblfghhcndaa.Q

namespace Go.Proofs.Ytmmmblfghhcndaa.Q
open Go.RowKit Go.Proofs.YtmmmblfghhcndaaW.PrintWords Go.Proofs.YtmmmblfghhcndaaW.PrintLast Go.Proofs.YtmmmblfghhcndaaW.PrintMore Go.Proofs.YtmmmblfghhcndaaM
set_option linter.unusedVariables false
set_option linter.unusedSimpArgs false
theorem laws_toIntS.ev_l (l : List Int) (hl : l.length ≤ 35184372088832) : ∀ (d i : Nat) (acc : List Int), i + d = l.length → acc.length = l.length → acc.take i = l.take i → Ev (fun k => laws_toIntS.l0 k l acc (i : Int)) l := by
  intro d
  induction d with
  | zero =>
    intro i acc h hlen ht
    refine ev_step ?_
    simp only [laws_toIntS.l0]
    rw [ev_neg (by omega), ev_now]
    rwa [List.take_of_length_le (by omega), List.take_of_length_le (by omega)] at ht
  | succ d ih =>
    intro i acc h hlen ht
    refine ev_step ?_
    simp only [laws_toIntS.l0]
    have hi : i < l.length := by omega
    rw [ev_pos (by omega), ev_pos (by omega), ev_pos (by omega), w64i (n := l.length) (by omega) (by omega) (by omega), rd_lt l i hi, Int.toNat_natCast]
    refine ih (i + 1) _ (by omega) (by simpa using hlen) ?_
    rw [List.take_succ_eq_append_getElem (by simp; omega), List.take_succ_eq_append_getElem hi, List.take_set_of_le (by omega), ht]
    simp
theorem laws_toIntS.ev (l : List Int) (hl : l.length ≤ 35184372088832) : Ev (fun k => laws_toIntS.f k l) l := by
  simp only [laws_toIntS.f]
  rw [ev_pos (by omega), ev_pos (by omega)]
  exact laws_toIntS.ev_l l hl l.length 0 _ (by omega) (by simp) (by simp)
theorem laws_eqIntS.ev_l (a b : List Int) (hl : a.length ≤ 9223372036854775807) (hab : a.length = b.length) : ∀ (d i : Nat), i + d = a.length → Ev (fun k => laws_eqIntS.l0 k a b (i : Int)) (decide (a.drop i = b.drop i)) := by
  intro d
  induction d with
  | zero =>
    intro i h
    refine ev_step ?_
    simp only [laws_eqIntS.l0]
    rw [ev_neg (by omega), ev_now, List.drop_of_length_le (by omega), List.drop_of_length_le (by omega)]
    rfl
  | succ d ih =>
    intro i h
    refine ev_step ?_
    simp only [laws_eqIntS.l0]
    have hi : i < a.length := by omega
    have hj : i < b.length := by omega
    rw [ev_pos (by omega), ev_pos (by omega), ev_pos (by omega), rd_lt a i hi, rd_lt b i hj, w64i (n := a.length) (by omega) (by omega) (by omega)]
    have ed : decide (a.drop i = b.drop i) = (decide (a[i] = b[i]) && decide (a.drop (i + 1) = b.drop (i + 1))) := by
      rw [List.drop_eq_getElem_cons hi, List.drop_eq_getElem_cons hj, ← Bool.decide_and]
      simp only [List.cons.injEq]
    rw [ed]
    by_cases e : a[i] = b[i]
    · rw [ev_pos e, decide_eq_true e, Bool.true_and]
      exact ih (i + 1) (by omega)
    · rw [ev_neg e, ev_now, decide_eq_false e, Bool.false_and]
theorem laws_eqIntS.ev (a b : List Int) (hl : a.length ≤ 9223372036854775807) : Ev (fun k => laws_eqIntS.f k a b) (decide (a = b)) := by
  simp only [laws_eqIntS.f]
  by_cases h : a.length = b.length
  · rw [ev_pos (by omega)]
    exact laws_eqIntS.ev_l a b hl h a.length 0 (by omega)
  · rw [ev_neg (by omega), ev_now]
    have : a ≠ b := fun e => h (by rw [e])
    simp [this]
/-- The numbers from k on, as many as are asked. -/
def marks (k : Int) (n : Nat) : List Int := (List.range n).map fun (i : Nat) => k + (i : Int)
theorem marks_length (k : Int) (n : Nat) : (marks k n).length = n := by simp [marks]
theorem marks_get (k : Int) (n i : Nat) (h : i < (marks k n).length) : (marks k n)[i] = k + (i : Int) := by simp [marks]
theorem laws_markIntS.ev_l (n : Nat) (c : Int) (hn : n ≤ 9223372036854775807) (hc0 : 0 ≤ c) (hc : c + (n : Int) ≤ 9223372036854775807) : ∀ (d i : Nat) (acc : List Int), i + d = n → acc.length = n → acc.take i = (marks c n).take i → Ev (fun k => laws_markIntS.l0 k acc (c + (i : Int)) (i : Int)) (c + (n : Int), marks c n) := by
  intro d
  induction d with
  | zero =>
    intro i acc h hlen ht
    refine ev_step ?_
    simp only [laws_markIntS.l0]
    rw [ev_neg (by omega), ev_now]
    rw [List.take_of_length_le (by omega), List.take_of_length_le (by rw [marks_length]; omega)] at ht
    rw [ht, show i = n by omega]
  | succ d ih =>
    intro i acc h hlen ht
    refine ev_step ?_
    simp only [laws_markIntS.l0]
    have hi : i < n := by omega
    rw [ev_pos (by omega), ev_pos (by omega), w64i (i := (i : Int)) (n := n) (by omega) (by omega) hn, w64 (x := c + (i : Int) + 1) (by omega) (by omega), Int.toNat_natCast]
    rw [show c + (i : Int) + 1 = c + ((i + 1 : Nat) : Int) by omega]
    refine ih (i + 1) _ (by omega) (by simpa using hlen) ?_
    rw [List.take_succ_eq_append_getElem (by simp; omega), List.take_succ_eq_append_getElem (by rw [marks_length]; omega), List.take_set_of_le (by omega), ht, marks_get]
    simp
theorem laws_markIntS.ev (l : List Int) (c : Int) (hc0 : 0 ≤ c) (hc : c + (l.length : Int) ≤ 9223372036854775807) : Ev (fun k => laws_markIntS.f k l c) (c + (l.length : Int), marks c l.length) := by
  have := laws_markIntS.ev_l l.length c (by omega) hc0 hc l.length 0 l (by omega) rfl (by simp)
  simpa [laws_markIntS.f] using this
theorem laws_heldIntS.ev_l (n : Nat) (c : Int) (hn : n ≤ 9223372036854775807) (hc0 : 0 ≤ c) (hc : c + (n : Int) ≤ 9223372036854775807) : ∀ (d i : Nat), i + d = n → Ev (fun k => laws_heldIntS.l0 k (marks c n) (c + (i : Int)) (i : Int)) (c + (n : Int)) := by
  intro d
  induction d with
  | zero =>
    intro i h
    refine ev_step ?_
    simp only [laws_heldIntS.l0]
    rw [marks_length, ev_neg (by omega), ev_now]
    omega
  | succ d ih =>
    intro i h
    refine ev_step ?_
    simp only [laws_heldIntS.l0]
    have hi : i < (marks c n).length := by rw [marks_length]; omega
    rw [rd_lt _ i hi, marks_get, marks_length, ev_pos (by omega), ev_pos (by omega), ev_pos rfl, w64i (i := (i : Int)) (n := n) (by omega) (by omega) hn, w64 (x := c + (i : Int) + 1) (by omega) (by omega)]
    rw [show c + (i : Int) + 1 = c + ((i + 1 : Nat) : Int) by omega]
    exact ih (i + 1) (by omega)
theorem laws_heldIntS.ev (n : Nat) (c : Int) (hc0 : 0 ≤ c) (hc : c + (n : Int) ≤ 9223372036854775807) : Ev (fun k => laws_heldIntS.f k (marks c n) c) (c + (n : Int)) := by
  have := laws_heldIntS.ev_l n c (by omega) hc0 hc n 0 (by omega)
  simpa [laws_heldIntS.f] using this
theorem laws_szIntS.v (l : List Int) (c : Int) (hc : c ≤ 9223372036854775807) (hl : (l.length : Int) ≤ 9223372036854775807 + c) : laws_szIntS.f l c = some (if c - (l.length : Int) < 0 then -1 else c - (l.length : Int)) := by
  unfold laws_szIntS.f
  rw [w64 (by omega) (by omega)]
  split <;> rfl
end Go.Proofs.Ytmmmblfghhcndaa.Q

namespace Go.Proofs.Ytmmmblfghhcndaa.Q
open Go.RowKit Go.Proofs.YtmmmblfghhcndaaX Go.Proofs.YtmmmblfghhcndaaW.PrintWords Go.Proofs.YtmmmblfghhcndaaW.PrintLast Go.Proofs.YtmmmblfghhcndaaW.PrintMore
attribute [local go_sem] max2_int min2_int max_two min_two max_three min_three max_four min_four   -- for this text's walks alone
set_option linter.unusedVariables false
set_option linter.unusedSimpArgs false

/-! ### laws_szGame: function 31 -/
def laws_szGame.f (k : Nat) (a0_0 : Int) (l0_1 : List (List Int)) (a1 : Int) : Option (Int) := (laws_szIntSS.f k l0_1 a1).bind fun t102 => (if t102 < 0 then (some (-1)) else (some t102))
theorem laws_szGame.mono : ∀ a0 a1 a2 k, LeO (laws_szGame.f k a0 a1 a2) (laws_szGame.f (k + 1) a0 a1 a2) := by
 intro a0 a1 a2 k
 unfold laws_szGame.f
 repeat' first
   | (with_reducible exact laws_szIntSS.mono _ _ _)
   | (with_reducible exact LeO.refl _)
   | (with_reducible exact LeO.none _)
   | (with_reducible refine LeO.ite ?_ ?_)
   | (with_reducible refine LeO.bind ?_ (fun _ => ?_))
   | exact laws_szIntSS.mono _ _ _
   | exact LeO.none _
   | refine LeO.ite ?_ ?_
   | refine LeO.bind ?_ (fun _ => ?_)
set_option maxHeartbeats 8000000 in
set_option maxRecDepth 100000 in
theorem laws_szGame.calls (k : Nat) (a0_0 : Int) (A0_1 : Option Addr) (c0_1 : Nat) (l0_1 : List (List Int)) (a1 : Int) (r : Int) (w : World) (hr0_1 : Kd.C (Kd.slice 3 (Kd.int .i64)) w A0_1 l0_1.length l0_1) (hc0_1 : l0_1.length ≤ c0_1) (h : laws_szGame.f k a0_0 l0_1 a1 = some r) :
  Calls Try.prog 31 #[.agg #[.int .i64 a0_0, .slice A0_1 l0_1.length c0_1], .int .i64 a1] w fun e w' => e = .returned (.int .i64 r) ∧ Below w.heap.size w w' := by
 have hu46 := Try.underlying46
 have HR0_1 := Aside0.mk hr0_1
 have HC0_1 := Aside0.mk hc0_1
 clear hr0_1 hc0_1
 have HB := Aside0.mk (Below.refl w.heap.size w)
 have H : ((laws_szIntSS.f k l0_1 a1).bind fun t102 => (if t102 < 0 then (some (-1)) else (some t102))) = some r := h
 clear h
 replace H := oB H
 obtain ⟨t102, A30, H⟩ := H
 replace H : (if t102 < 0 then (some (-1)) else (some t102)) = some r := H
 have A3 := Aside0.mk A30
 clear A30
 by_cases c4 : t102 < 0
 ·rw [if_pos c4] at H
  have c4b0 : decide (t102 < 0) = true := decide_eq_true c4
  clear c4
  obtain rfl := Option.some.inj H
  go_enter Try.func31, Try.ntmps31
  go_wp2_with (first | ((with_reducible refine gate_dst (N := 2) rfl ?_); refine box_event ?hg (N := 2) ?hd (cs := #[.int .i64 a0_0, .slice A0_1 l0_1.length c0_1]) (t := 46) ?hr ?_; (case hd => rfl); (case hg => rfl); (case hr => first | (go_simp; done) | (go_simp; rfl)); intro gb101 hg w5 hbox hb; have n0_ := Aside0.mk (below_step (by repeat (first | (with_reducible first | exact HB.out | apply ba | apply bd | apply be) | exact HB.out)) hb); have n1_ := Aside0.mk (hbox); have n2_ := Aside0.mk ((by rw [hg]; exact (below_size (by repeat (first | (with_reducible first | exact HB.out | apply ba | apply bd | apply be) | exact HB.out))) : w.heap.size ≤ gb101)); have n3_ := Aside0.mk ((by rw [hg]; exact (below_size (by repeat (first | (with_reducible first | exact HB.out | apply ba | apply bd | apply be) | exact HB.out))) : w.heap.size ≤ gb101)); clear HB; have HB := n0_; have BK101 := n1_; have GW101 := n2_; have GE101 := n3_; clear n0_ n1_ n2_ n3_; clear hb hbox hg; have hcz6_0 : w5.cell? ⟨gb101, 0, none⟩ = some (.int .i64 a0_0) := (blk_cell BK101.out 0).trans rfl; have hcz6_1 : w5.cell? ⟨gb101, 1, none⟩ = some (.slice A0_1 l0_1.length c0_1) := (blk_cell BK101.out 1).trans rfl; have hfz6_0 := blk_frozen BK101.out 0; have hfz6_1 := blk_frozen BK101.out 1) | ((with_reducible refine gate_callee (f := 16) rfl ?_); refine goesL_ (some 8) rfl rfl Try.func16 (by kernel_rfl) rfl #[.slice A0_1 l0_1.length c0_1, .int .i64 a1] rfl (by (try simp only [mA, mC, mN]); first | done | rfl | (simp only [List.length_drop, List.length_take]; rfl)) ?_; (with_reducible refine (laws_szIntSS.calls k _ _ l0_1 a1 t102 _ ?side1 ?side2 A3.out).mono ?_); (case side1 => repeat (first | exact (Kd.C_below HR0_1.out HB.out) | (with_reducible refine Kd.C_alloc ?_ _) | (with_reducible refine Kd.C_drewN ?_ _) | (with_reducible refine Kd.C_drew ?_))); (case side2 => exact HC0_1.out); rintro e w' ⟨rfl, ⟨nd, rfl⟩⟩; refine ⟨_, rfl, ?_⟩))
  go_ret
  exact ⟨by first | rfl | (simp <;> rfl) | (simp [*] <;> rfl), by repeat (first | (with_reducible first | exact HB.out | apply ba | apply bd | apply be | refine bs ?_ GE101.out) | exact HB.out)⟩
 ·rw [if_neg c4] at H
  have c4b0 : decide (t102 < 0) = false := decide_eq_false c4
  clear c4
  obtain rfl := Option.some.inj H
  go_enter Try.func31, Try.ntmps31
  go_wp2_with (first | ((with_reducible refine gate_dst (N := 2) rfl ?_); refine box_event ?hg (N := 2) ?hd (cs := #[.int .i64 a0_0, .slice A0_1 l0_1.length c0_1]) (t := 46) ?hr ?_; (case hd => rfl); (case hg => rfl); (case hr => first | (go_simp; done) | (go_simp; rfl)); intro gb101 hg w7 hbox hb; have n0_ := Aside0.mk (below_step (by repeat (first | (with_reducible first | exact HB.out | apply ba | apply bd | apply be) | exact HB.out)) hb); have n1_ := Aside0.mk (hbox); have n2_ := Aside0.mk ((by rw [hg]; exact (below_size (by repeat (first | (with_reducible first | exact HB.out | apply ba | apply bd | apply be) | exact HB.out))) : w.heap.size ≤ gb101)); have n3_ := Aside0.mk ((by rw [hg]; exact (below_size (by repeat (first | (with_reducible first | exact HB.out | apply ba | apply bd | apply be) | exact HB.out))) : w.heap.size ≤ gb101)); clear HB; have HB := n0_; have BK101 := n1_; have GW101 := n2_; have GE101 := n3_; clear n0_ n1_ n2_ n3_; clear hb hbox hg; have hcz8_0 : w7.cell? ⟨gb101, 0, none⟩ = some (.int .i64 a0_0) := (blk_cell BK101.out 0).trans rfl; have hcz8_1 : w7.cell? ⟨gb101, 1, none⟩ = some (.slice A0_1 l0_1.length c0_1) := (blk_cell BK101.out 1).trans rfl; have hfz8_0 := blk_frozen BK101.out 0; have hfz8_1 := blk_frozen BK101.out 1) | ((with_reducible refine gate_callee (f := 16) rfl ?_); refine goesL_ (some 8) rfl rfl Try.func16 (by kernel_rfl) rfl #[.slice A0_1 l0_1.length c0_1, .int .i64 a1] rfl (by (try simp only [mA, mC, mN]); first | done | rfl | (simp only [List.length_drop, List.length_take]; rfl)) ?_; (with_reducible refine (laws_szIntSS.calls k _ _ l0_1 a1 t102 _ ?side1 ?side2 A3.out).mono ?_); (case side1 => repeat (first | exact (Kd.C_below HR0_1.out HB.out) | (with_reducible refine Kd.C_alloc ?_ _) | (with_reducible refine Kd.C_drewN ?_ _) | (with_reducible refine Kd.C_drew ?_))); (case side2 => exact HC0_1.out); rintro e w' ⟨rfl, ⟨nd, rfl⟩⟩; refine ⟨_, rfl, ?_⟩))
  go_ret
  exact ⟨by first | rfl | (simp <;> rfl) | (simp [*] <;> rfl), by repeat (first | (with_reducible first | exact HB.out | apply ba | apply bd | apply be | refine bs ?_ GE101.out) | exact HB.out)⟩

end Go.Proofs.Ytmmmblfghhcndaa.Q

namespace Go.Proofs.Ytmmmblfghhcndaa.Q
open Go.RowKit Go.Proofs.YtmmmblfghhcndaaX Go.Proofs.YtmmmblfghhcndaaW.PrintWords Go.Proofs.YtmmmblfghhcndaaW.PrintLast Go.Proofs.YtmmmblfghhcndaaW.PrintMore
attribute [local go_sem] max2_int min2_int max_two min_two max_three min_three max_four min_four   -- for this text's walks alone
set_option linter.unusedVariables false
set_option linter.unusedSimpArgs false

/-! ### laws_toGame: function 33 -/
def laws_toGame.f (k : Nat) (a0_0 : Int) (l0_1 : List (List Int)) : Option (Int × (List (List Int))) := (laws_toIntSS.f k l0_1).bind fun t104 => (some (a0_0, t104))
theorem laws_toGame.mono : ∀ a0 a1 k, LeO (laws_toGame.f k a0 a1) (laws_toGame.f (k + 1) a0 a1) := by
 intro a0 a1 k
 unfold laws_toGame.f
 repeat' first
   | (with_reducible exact laws_toIntSS.mono _ _)
   | (with_reducible exact LeO.refl _)
   | (with_reducible exact LeO.none _)
   | (with_reducible refine LeO.ite ?_ ?_)
   | (with_reducible refine LeO.bind ?_ (fun _ => ?_))
   | exact laws_toIntSS.mono _ _
   | exact LeO.none _
   | refine LeO.ite ?_ ?_
   | refine LeO.bind ?_ (fun _ => ?_)
set_option maxHeartbeats 8000000 in
set_option maxRecDepth 100000 in
theorem laws_toGame.calls (k : Nat) (a0_0 : Int) (A0_1 : Option Addr) (c0_1 : Nat) (l0_1 : List (List Int)) (r1 : Int) (r2 : List (List Int)) (w : World) (hr0_1 : Kd.C (Kd.slice 3 (Kd.int .i64)) w A0_1 l0_1.length l0_1) (hc0_1 : l0_1.length ≤ c0_1) (h : laws_toGame.f k a0_0 l0_1 = some (r1, r2)) :
  Calls Try.prog 33 #[.agg #[.int .i64 a0_0, .slice A0_1 l0_1.length c0_1]] w fun e w' => ∃ v1_ : Value, e = .returned (.agg #[.int .i64 r1, v1_]) ∧ Kd.S (Kd.slice 3 (Kd.int .i64)) 36 w' w.heap.size (fun _ => True) v1_ r2 ∧ Below w.heap.size w w' := by
 have hu46 := Try.underlying46
 have hu28 := Try.underlying28
 have HR0_1 := Aside0.mk hr0_1
 have HC0_1 := Aside0.mk hc0_1
 clear hr0_1 hc0_1
 have HB := Aside0.mk (Below.refl w.heap.size w)
 have H : ((laws_toIntSS.f k l0_1).bind fun t104 => (some (a0_0, t104))) = some (r1, r2) := h
 clear h
 replace H := oB H
 obtain ⟨t104, A20, H⟩ := H
 replace H : (some (a0_0, t104)) = some (r1, r2) := H
 have A2 := Aside0.mk A20
 clear A20
 simp only [Option.some.injEq, Prod.mk.injEq] at H
 obtain ⟨rfl, rfl⟩ := H
 go_enter Try.func33, Try.ntmps33
 go_wp2_with (first | ((with_reducible refine gate_dst (N := 1) rfl ?_); refine box_event ?hg (N := 1) ?hd (cs := #[.int .i64 a0_0, .slice A0_1 l0_1.length c0_1]) (t := 46) ?hr ?_; (case hd => rfl); (case hg => rfl); (case hr => first | (go_simp; done) | (go_simp; rfl)); intro gb101 hg w3 hbox hb; have n0_ := Aside0.mk (below_step (by repeat (first | (with_reducible first | exact HB.out | apply ba | apply bd | apply be) | exact HB.out)) hb); have n1_ := Aside0.mk (hbox); have n2_ := Aside0.mk ((by rw [hg]; exact (below_size (by repeat (first | (with_reducible first | exact HB.out | apply ba | apply bd | apply be) | exact HB.out))) : w.heap.size ≤ gb101)); have n3_ := Aside0.mk ((by rw [hg]; exact (below_size (by repeat (first | (with_reducible first | exact HB.out | apply ba | apply bd | apply be) | exact HB.out))) : w.heap.size ≤ gb101)); clear HB; have HB := n0_; have BK101 := n1_; have GW101 := n2_; have GE101 := n3_; clear n0_ n1_ n2_ n3_; clear hb hbox hg) | ((with_reducible refine gate_dst (N := 2) rfl ?_); refine box_event ?hg (N := 2) ?hd (cs := #[.int .i64 0, .slice none 0 0]) (t := 28) ?hr ?_; (case hd => rfl); (case hg => rfl); (case hr => first | (go_simp; done) | (go_simp; rfl)); intro gb102 hg w4 hbox hb; have n0_ := Aside0.mk (blk_below (g := gb101) (o := .cells #[.int .i64 a0_0, .slice A0_1 l0_1.length c0_1] 46 (0, 0)) (by (with_reducible repeat (first | refine kN ?_ _ | refine kD ?_ | refine kA ?_ _)); exact BK101.out) hb); have n1_ := Aside0.mk (below_step (by repeat (first | (with_reducible first | exact HB.out | apply ba | apply bd | apply be | refine bs ?_ GE101.out) | exact HB.out)) hb); have n2_ := Aside0.mk (hbox); have n3_ := Aside0.mk ((by rw [hg]; exact (below_size (by repeat (first | (with_reducible first | exact HB.out | apply ba | apply bd | apply be | refine bs ?_ GE101.out) | exact HB.out))) : w.heap.size ≤ gb102)); have n4_ := Aside0.mk ((by rw [hg]; exact (below_size (by repeat (first | (with_reducible first | exact HB.out | apply ba | apply bd | apply be | refine bs ?_ GE101.out) | exact HB.out))) : w.heap.size ≤ gb102)); have n5_ := Aside0.mk ((by rw [hg]; exact Nat.ne_of_lt (blk_lt (g := gb101) (o := .cells #[.int .i64 a0_0, .slice A0_1 l0_1.length c0_1] 46 (0, 0)) (by (with_reducible repeat (first | refine kN ?_ _ | refine kD ?_ | refine kA ?_ _)); exact BK101.out)) : gb101 ≠ gb102)); have n6_ := Aside0.mk ((by rw [hg]; exact Nat.ne_of_gt (blk_lt (g := gb101) (o := .cells #[.int .i64 a0_0, .slice A0_1 l0_1.length c0_1] 46 (0, 0)) (by (with_reducible repeat (first | refine kN ?_ _ | refine kD ?_ | refine kA ?_ _)); exact BK101.out)) : gb102 ≠ gb101)); clear BK101; clear HB; have BK101 := n0_; have HB := n1_; have BK102 := n2_; have GW102 := n3_; have GE102 := n4_; have NB101_102 := n5_; have NB102_101 := n6_; clear n0_ n1_ n2_ n3_ n4_ n5_ n6_; clear hb hbox hg) | ((with_reducible refine gate_dst (N := 3) rfl ?_); refine box_event ?hg (N := 3) ?hd (cs := #[.int .i64 0, .slice none 0 0]) (t := 28) ?hr ?_; (case hd => rfl); (case hg => rfl); (case hr => first | (go_simp; done) | (go_simp; rfl)); intro gb103 hg w5 hbox hb; have n0_ := Aside0.mk (blk_below (g := gb101) (o := .cells #[.int .i64 a0_0, .slice A0_1 l0_1.length c0_1] 46 (0, 0)) (by (with_reducible repeat (first | refine kN ?_ _ | refine kD ?_ | refine kA ?_ _)); exact BK101.out) hb); have n1_ := Aside0.mk (blk_below (g := gb102) (o := .cells #[.int .i64 0, .slice none 0 0] 28 (0, 0)) (by (with_reducible repeat (first | refine kN ?_ _ | refine kD ?_ | refine kA ?_ _)); exact BK102.out) hb); have n2_ := Aside0.mk (below_step (by repeat (first | (with_reducible first | exact HB.out | apply ba | apply bd | apply be | refine bs ?_ GE101.out | refine bs ?_ GE102.out) | exact HB.out)) hb); have n3_ := Aside0.mk (hbox); have n4_ := Aside0.mk ((by rw [hg]; exact (below_size (by repeat (first | (with_reducible first | exact HB.out | apply ba | apply bd | apply be | refine bs ?_ GE101.out | refine bs ?_ GE102.out) | exact HB.out))) : w.heap.size ≤ gb103)); have n5_ := Aside0.mk ((by rw [hg]; exact (below_size (by repeat (first | (with_reducible first | exact HB.out | apply ba | apply bd | apply be | refine bs ?_ GE101.out | refine bs ?_ GE102.out) | exact HB.out))) : w.heap.size ≤ gb103)); have n6_ := Aside0.mk ((by rw [hg]; exact Nat.ne_of_lt (blk_lt (g := gb101) (o := .cells #[.int .i64 a0_0, .slice A0_1 l0_1.length c0_1] 46 (0, 0)) (by (with_reducible repeat (first | refine kN ?_ _ | refine kD ?_ | refine kA ?_ _)); exact BK101.out)) : gb101 ≠ gb103)); have n7_ := Aside0.mk ((by rw [hg]; exact Nat.ne_of_gt (blk_lt (g := gb101) (o := .cells #[.int .i64 a0_0, .slice A0_1 l0_1.length c0_1] 46 (0, 0)) (by (with_reducible repeat (first | refine kN ?_ _ | refine kD ?_ | refine kA ?_ _)); exact BK101.out)) : gb103 ≠ gb101)); have n8_ := Aside0.mk ((by rw [hg]; exact Nat.ne_of_lt (blk_lt (g := gb102) (o := .cells #[.int .i64 0, .slice none 0 0] 28 (0, 0)) (by (with_reducible repeat (first | refine kN ?_ _ | refine kD ?_ | refine kA ?_ _)); exact BK102.out)) : gb102 ≠ gb103)); have n9_ := Aside0.mk ((by rw [hg]; exact Nat.ne_of_gt (blk_lt (g := gb102) (o := .cells #[.int .i64 0, .slice none 0 0] 28 (0, 0)) (by (with_reducible repeat (first | refine kN ?_ _ | refine kD ?_ | refine kA ?_ _)); exact BK102.out)) : gb103 ≠ gb102)); clear BK101; clear BK102; clear HB; have BK101 := n0_; have BK102 := n1_; have HB := n2_; have BK103 := n3_; have GW103 := n4_; have GE103 := n5_; have NB101_103 := n6_; have NB103_101 := n7_; have NB102_103 := n8_; have NB103_102 := n9_; clear n0_ n1_ n2_ n3_ n4_ n5_ n6_ n7_ n8_ n9_; clear hb hbox hg; have hnb6 := NB101_102.out; have hnc6 := NB102_101.out; have hnb7 := NB101_103.out; have hnc7 := NB103_101.out; have hcz8_0 : w5.cell? ⟨gb101, 0, none⟩ = some (.int .i64 a0_0) := (blk_cell BK101.out 0).trans rfl; have hcz8_1 : w5.cell? ⟨gb101, 1, none⟩ = some (.slice A0_1 l0_1.length c0_1) := (blk_cell BK101.out 1).trans rfl; have hfz8_0 := blk_frozen BK101.out 0; have hfz8_1 := blk_frozen BK101.out 1; have hnb9 := NB103_102.out; have hnc9 := NB102_103.out; have hcz10_0 : w5.cell? ⟨gb103, 0, none⟩ = some (.int .i64 0) := (blk_cell BK103.out 0).trans rfl; have hcz10_1 : w5.cell? ⟨gb103, 1, none⟩ = some (.slice none 0 0) := (blk_cell BK103.out 1).trans rfl; have hfz10_0 := blk_frozen BK103.out 0; have hfz10_1 := blk_frozen BK103.out 1) | ((with_reducible refine gate_callee (f := 18) rfl ?_); refine goesL_ (some 9) rfl rfl Try.func18 (by kernel_rfl) rfl #[.slice A0_1 l0_1.length c0_1] rfl (by (try simp only [mA, mC, mN]); first | done | rfl | (simp only [List.length_drop, List.length_take]; rfl)) ?_; (with_reducible refine (laws_toIntSS.calls k _ _ l0_1 t104 _ ?side1 ?side2 A2.out).mono ?_); (case side1 => exact Kd.C_below HR0_1.out (by repeat (first | (with_reducible first | exact HB.out | apply ba | apply bd | apply be | refine bs ?_ GE101.out | refine bs ?_ GE102.out | refine bs ?_ GE103.out) | exact HB.out))); (case side2 => exact HC0_1.out); rintro e w11 ⟨v105, rfl, ho0, hb⟩; refine ⟨_, rfl, ?_⟩; have n0_ := Aside0.mk (Kd.S_lower ho0 (below_size (by repeat (first | (with_reducible first | exact HB.out | apply ba | apply bd | apply be | refine bs ?_ GE101.out | refine bs ?_ GE102.out | refine bs ?_ GE103.out) | exact HB.out)))); have n1_ := Aside0.mk (blk_below (g := gb101) (o := .cells #[.int .i64 a0_0, .slice A0_1 l0_1.length c0_1] 46 (0, 0)) (by (with_reducible repeat (first | refine kN ?_ _ | refine kD ?_ | refine kA ?_ _)); refine blk_far ?_ NB101_103.out _; (with_reducible repeat (first | refine kN ?_ _ | refine kD ?_ | refine kA ?_ _)); exact BK101.out) hb); have n2_ := Aside0.mk (blk_below (g := gb102) (o := .cells #[.int .i64 0, .slice none 0 0] 28 (0, 0)) (by (with_reducible repeat (first | refine kN ?_ _ | refine kD ?_ | refine kA ?_ _)); refine blk_far ?_ NB102_103.out _; (with_reducible repeat (first | refine kN ?_ _ | refine kD ?_ | refine kA ?_ _)); exact BK102.out) hb); have n3_ := Aside0.mk (blk_below (g := gb103) (o := .cells #[.int .i64 a0_0, .slice none 0 0] 28 (0, 0)) (by (with_reducible repeat (first | refine kN ?_ _ | refine kD ?_ | refine kA ?_ _)); refine blk_put (cs := #[.int .i64 0, .slice none 0 0]) ?_ 0 _ rfl; (with_reducible repeat (first | refine kN ?_ _ | refine kD ?_ | refine kA ?_ _)); exact BK103.out) hb); have n4_ := Aside0.mk (below_step (by repeat (first | (with_reducible first | exact HB.out | apply ba | apply bd | apply be | refine bs ?_ GE101.out | refine bs ?_ GE102.out | refine bs ?_ GE103.out) | exact HB.out)) hb); clear BK101; clear BK102; clear BK103; clear HB; have HO106 := n0_; have BK101 := n1_; have BK102 := n2_; have BK103 := n3_; have HB := n4_; clear n0_ n1_ n2_ n3_ n4_; (try clear hb); (try clear hb2); (try clear hk); (try clear hi); (try clear ho0); obtain ⟨Ao12, co12, eo12⟩ := Kd.S_slice HO106.out; subst eo12; have hcz13_0 : w11.cell? ⟨gb103, 0, none⟩ = some (.int .i64 a0_0) := (blk_cell BK103.out 0).trans rfl; have hcz13_1 : w11.cell? ⟨gb103, 1, none⟩ = some (.slice none 0 0) := (blk_cell BK103.out 1).trans rfl; have hfz13_0 := blk_frozen BK103.out 0; have hfz13_1 := blk_frozen BK103.out 1; have hcz14_0 : w11.cell? ⟨gb102, 0, none⟩ = some (.int .i64 0) := (blk_cell BK102.out 0).trans rfl; have hcz14_1 : w11.cell? ⟨gb102, 1, none⟩ = some (.slice none 0 0) := (blk_cell BK102.out 1).trans rfl; have hfz14_0 := blk_frozen BK102.out 0; have hfz14_1 := blk_frozen BK102.out 1))
 refine bodyPost_ret (results_cell_row rfl _ _ gb102 28 #[.int .i64 a0_0, .slice Ao12 t104.length co12] (0, 0) _ rfl (by (with_reducible repeat (first | refine kN ?_ _ | refine kD ?_ | refine kA ?_ _)); refine blk_put (cs := #[.int .i64 a0_0, .slice none 0 0]) ?_ 1 _ rfl; (with_reducible repeat (first | refine kN ?_ _ | refine kD ?_ | refine kA ?_ _)); refine blk_put (cs := #[.int .i64 0, .slice none 0 0]) ?_ 0 _ rfl; (with_reducible repeat (first | refine kN ?_ _ | refine kD ?_ | refine kA ?_ _)); refine blk_far ?_ NB102_103.out _; (with_reducible repeat (first | refine kN ?_ _ | refine kD ?_ | refine kA ?_ _)); exact BK102.out) Try.underlying28 rfl (by kernel_rfl)) rfl ?_
 exact ⟨_, by first | rfl | (simp <;> rfl) | (simp [*] <;> rfl), by (with_reducible repeat (first | apply Kd.S_alloc | apply Kd.S_drewN | apply Kd.S_drew)); exact Kd.S_mono (Kd.S_far (p := ⟨gb102, 1, none⟩) (Kd.S_far (p := ⟨gb102, 0, none⟩) (Kd.S_far (p := ⟨gb103, 1, none⟩) (Kd.S_types (Kd.S_types HO106.out BK103.out (by decide)) BK102.out (by decide)) (fun _ hk => hk.1.2) (.slice Ao12 t104.length co12)) (fun _ hk => hk.2) (.int .i64 a0_0)) (fun _ hk => hk.2) (.slice Ao12 t104.length co12)) (fun _ hk => trivial), by repeat (first | (with_reducible first | exact HB.out | apply ba | apply bd | apply be | refine bs ?_ GE101.out | refine bs ?_ GE102.out | refine bs ?_ GE103.out) | exact HB.out)⟩

end Go.Proofs.Ytmmmblfghhcndaa.Q

namespace Go.Proofs.Ytmmmblfghhcndaa.Q
open Go.RowKit Go.Proofs.YtmmmblfghhcndaaW.PrintWords Go.Proofs.YtmmmblfghhcndaaW.PrintLast Go.Proofs.YtmmmblfghhcndaaW.PrintMore Go.Proofs.YtmmmblfghhcndaaM
set_option linter.unusedVariables false
set_option linter.unusedSimpArgs false
theorem laws_toIntSS.ev_l (l : List (List Int)) (hl : l.length ≤ 11728124029610) (hx : ∀ x ∈ l, x.length ≤ 35184372088832) : ∀ (d i : Nat) (acc : List (List Int)), i + d = l.length → acc.length = l.length → acc.take i = l.take i → Ev (fun k => laws_toIntSS.l0 k l acc (i : Int)) l := by
  intro d
  induction d with
  | zero =>
    intro i acc h ha ht
    refine ev_step ?_
    simp only [laws_toIntSS.l0]
    rw [List.take_of_length_le (by omega), List.take_of_length_le (by omega)] at ht
    rw [ev_neg (by omega), ev_now, ht]
  | succ d ih =>
    intro i acc h ha ht
    refine ev_step ?_
    simp only [laws_toIntSS.l0]
    have hi : i < l.length := by omega
    rw [ev_pos (by omega), ev_pos (by omega), rd_L2_lt l i hi, ev_bind (laws_toIntS.ev l[i] (hx _ (List.getElem_mem hi))), ev_pos (by omega), w64i (n := l.length) (by omega) (by omega) (by omega), Int.toNat_natCast]
    refine ih (i + 1) _ (by omega) (by simpa using ha) ?_
    rw [List.take_succ_eq_append_getElem (by rw [List.length_set]; omega), List.take_succ_eq_append_getElem hi, List.take_set_of_le (by omega), ht, List.getElem_set_self]
theorem laws_toIntSS.ev (l : List (List Int)) (hl : l.length ≤ 11728124029610) (hx : ∀ x ∈ l, x.length ≤ 35184372088832) : Ev (fun k => laws_toIntSS.f k l) l := by
  simp only [laws_toIntSS.f]
  rw [ev_pos (by omega), ev_pos (by omega), Int.toNat_natCast]
  exact laws_toIntSS.ev_l l hl hx l.length 0 _ (by omega) (by simp) (by simp)
theorem laws_eqIntSS.ev_l (a b : List (List Int)) (hl : a.length ≤ 9223372036854775807) (hab : a.length = b.length) (hx : ∀ x ∈ a, x.length ≤ 9223372036854775807) : ∀ (d i : Nat), i + d = a.length → Ev (fun k => laws_eqIntSS.l0 k a b (i : Int)) (decide (a.drop i = b.drop i)) := by
  intro d
  induction d with
  | zero =>
    intro i h
    refine ev_step ?_
    simp only [laws_eqIntSS.l0]
    rw [ev_neg (by omega), ev_now, List.drop_of_length_le (by omega), List.drop_of_length_le (by omega)]
    rfl
  | succ d ih =>
    intro i h
    refine ev_step ?_
    simp only [laws_eqIntSS.l0]
    have hi : i < a.length := by omega
    have hib : i < b.length := by omega
    have e : decide (a.drop i = b.drop i) = (decide (a[i] = b[i]) && decide (a.drop (i + 1) = b.drop (i + 1))) := by
      rw [List.drop_eq_getElem_cons hi, List.drop_eq_getElem_cons hib, Bool.eq_iff_iff]
      simp only [Bool.and_eq_true, decide_eq_true_eq, List.cons.injEq]
    rw [ev_pos (by omega), ev_pos (by omega), ev_pos (by omega), rd_L2_lt a i hi, rd_L2_lt b i hib, ev_bind (laws_eqIntS.ev a[i] b[i] (hx _ (List.getElem_mem hi))), w64i (n := a.length) (by omega) (by omega) hl, e]
    by_cases c : a[i] = b[i]
    · rw [ev_pos (decide_eq_true c), decide_eq_true c, Bool.true_and]
      exact ih (i + 1) (by omega)
    · rw [ev_neg (by simp [c]), ev_now, decide_eq_false c]
      rfl
theorem laws_eqIntSS.ev (a b : List (List Int)) (hl : a.length ≤ 9223372036854775807) (hx : ∀ x ∈ a, x.length ≤ 9223372036854775807) : Ev (fun k => laws_eqIntSS.f k a b) (decide (a = b)) := by
  simp only [laws_eqIntSS.f]
  by_cases c : (a.length : Int) = (b.length : Int)
  · rw [ev_pos c]
    exact laws_eqIntSS.ev_l a b hl (by omega) hx a.length 0 (by omega)
  · rw [ev_neg c, ev_now, decide_eq_false (fun h => c (by rw [h]))]
theorem laws_szIntSS.ev_l (l : List (List Int)) (hl : l.length ≤ 9223372036854775807) (hx : ∀ x ∈ l, x.length ≤ 9223372036854775807) : ∀ (d i : Nat) (c : Int), i + d = l.length → 0 ≤ c → c ≤ 1048576 → ∃ r : Int, r ≤ 1048576 ∧ Ev (fun k => laws_szIntSS.l0 k l c (i : Int)) r ∧ (0 ≤ r → ∀ j (h : j < l.length), i ≤ j → l[j].length ≤ 1048576) := by
  intro d
  induction d with
  | zero =>
    intro i c h h0 h1
    refine ⟨c, h1, ev_step ?_, fun _ j hj hij => by omega⟩
    simp only [laws_szIntSS.l0]
    rw [ev_neg (by omega), ev_now]
  | succ d ih =>
    intro i c h h0 h1
    have hi : i < l.length := by omega
    have hxi := hx _ (List.getElem_mem hi)
    by_cases hc : c - (l[i].length : Int) < 0
    · refine ⟨-1, by omega, ev_step ?_, fun h => by omega⟩
      simp only [laws_szIntSS.l0]
      rw [ev_pos (by omega), ev_pos (by omega), rd_L2_lt l i hi, ev_bind (ev_of (laws_szIntS.v l[i] c (by omega) (by omega))), if_pos hc, ev_pos (by omega), ev_now]
    · obtain ⟨r, hr1, hr2, hr3⟩ := ih (i + 1) (c - (l[i].length : Int)) (by omega) (by omega) (by omega)
      refine ⟨r, hr1, ev_step ?_, fun h0 j hj hij => ?_⟩
      · simp only [laws_szIntSS.l0]
        rw [ev_pos (by omega), ev_pos (by omega), rd_L2_lt l i hi, ev_bind (ev_of (laws_szIntS.v l[i] c (by omega) (by omega))), if_neg hc, ev_neg hc, w64i (n := l.length) (by omega) (by omega) hl]
        exact hr2
      · by_cases e : j = i
        · subst e
          omega
        · exact hr3 h0 j hj (by omega)
/-- What szIntSS answers of rows that came in: too much, or all rows are short. -/
theorem laws_szIntSS.ev (l : List (List Int)) (c : Int) (hl : l.length ≤ 9223372036854775807) (hx : ∀ x ∈ l, x.length ≤ 9223372036854775807) (h0 : 0 ≤ c) (h1 : c ≤ 1048576) : ∃ r : Int, r ≤ 1048576 ∧ Ev (fun k => laws_szIntSS.f k l c) r ∧ (0 ≤ r → l.length ≤ 1048576 ∧ ∀ x ∈ l, x.length ≤ 1048576) := by
  simp only [laws_szIntSS.f]
  rw [w64 (by omega) (by omega)]
  by_cases hc : c - (l.length : Int) < 0
  · exact ⟨-1, by omega, by rw [ev_pos hc, ev_now], fun h => by omega⟩
  · obtain ⟨r, hr1, hr2, hr3⟩ := laws_szIntSS.ev_l l hl hx l.length 0 (c - (l.length : Int)) (by omega) (by omega) (by omega)
    refine ⟨r, hr1, by rw [ev_neg hc]; exact hr2, fun h => ⟨by omega, fun x hx' => ?_⟩⟩
    obtain ⟨j, hj, rfl⟩ := List.getElem_of_mem hx'
    exact hr3 h j hj (by omega)
theorem laws_szGame.ev (n : Int) (l : List (List Int)) (c : Int) (hl : l.length ≤ 9223372036854775807) (hx : ∀ x ∈ l, x.length ≤ 9223372036854775807) (h0 : 0 ≤ c) (h1 : c ≤ 1048576) : ∃ r : Int, r ≤ 1048576 ∧ Ev (fun k => laws_szGame.f k n l c) r ∧ (0 ≤ r → l.length ≤ 1048576 ∧ ∀ x ∈ l, x.length ≤ 1048576) := by
  obtain ⟨r, hr1, hr2, hr3⟩ := laws_szIntSS.ev l c hl hx h0 h1
  simp only [laws_szGame.f]
  by_cases hc : r < 0
  · exact ⟨-1, by omega, by rw [ev_bind hr2, ev_pos hc, ev_now], fun h => by omega⟩
  · exact ⟨r, hr1, by rw [ev_bind hr2, ev_neg hc, ev_now], hr3⟩
theorem laws_toGame.ev (n : Int) (l : List (List Int)) (hl : l.length ≤ 11728124029610) (hx : ∀ x ∈ l, x.length ≤ 35184372088832) : Ev (fun k => laws_toGame.f k n l) (n, l) := by
  simp only [laws_toGame.f]
  rw [ev_bind (laws_toIntSS.ev l hl hx), ev_now]
theorem laws_eqGame.ev_same (n : Int) (l : List (List Int)) (hl : l.length ≤ 9223372036854775807) (hx : ∀ x ∈ l, x.length ≤ 9223372036854775807) : Ev (fun k => laws_eqGame.f k n l n l) true := by
  simp only [laws_eqGame.f]
  rw [ev_pos trivial, ev_bind (laws_eqIntSS.ev l l hl hx), ev_pos (by simp), ev_now]
end Go.Proofs.Ytmmmblfghhcndaa.Q

namespace Go.Proofs.Ytmmmblfghhcndaa.Q
open Go.RowKit Go.Proofs.YtmmmblfghhcndaaW.PrintWords Go.Proofs.YtmmmblfghhcndaaW.PrintLast Go.Proofs.YtmmmblfghhcndaaW.PrintMore Go.Proofs.YtmmmblfghhcndaaM
set_option linter.unusedVariables false
set_option linter.unusedSimpArgs false
def marksSS : Int → List (List Int) → List (List Int)
  | _, [] => []
  | c, s :: L => marks c s.length :: marksSS (c + (s.length : Int)) L
def totSS : List (List Int) → Int
  | [] => 0
  | s :: L => (s.length : Int) + totSS L
theorem marksSS_len : ∀ (L : List (List Int)) (c : Int), (marksSS c L).length = L.length
  | [], _ => rfl
  | s :: L, c => by
    show (marksSS _ L).length + 1 = L.length + 1
    rw [marksSS_len L]
theorem totSS_nonneg : ∀ L : List (List Int), 0 ≤ totSS L
  | [] => Int.le_refl _
  | s :: L => by
    have := totSS_nonneg L
    show 0 ≤ (s.length : Int) + totSS L
    omega
theorem totSS_le : ∀ (L : List (List Int)) (n : Nat), (∀ s ∈ L, s.length ≤ n) → totSS L ≤ (n : Int) * (L.length : Int)
  | [], n, _ => by simp [totSS]
  | s :: L, n, h => by
    have h1 := h s List.mem_cons_self
    have h2 := totSS_le L n (fun t ht => h t (List.mem_cons_of_mem _ ht))
    show (s.length : Int) + totSS L ≤ (n : Int) * ((L.length + 1 : Nat) : Int)
    rw [Int.natCast_add, Int.mul_add]
    simp only [Int.natCast_one, Int.mul_one]
    omega
theorem laws_markIntSS.ev_l : ∀ (L done : List (List Int)) (c : Int), (done ++ L).length ≤ 9223372036854775807 → 0 ≤ c → c + totSS L ≤ 9223372036854775807 → Ev (fun k => laws_markIntSS.l0 k (done ++ L) c (done.length : Int)) (c + totSS L, done ++ marksSS c L)
  | [], done, c, hl, h0, hc => by
    refine ev_step ?_
    simp only [laws_markIntSS.l0]
    rw [ev_neg (by simp), ev_now]
    simp [totSS, marksSS]
  | s :: L, done, c, hl, h0, hc => by
    refine ev_step ?_
    simp only [laws_markIntSS.l0]
    have ht := totSS_nonneg L
    have hc' : c + ((s.length : Int) + totSS L) ≤ 9223372036854775807 := hc
    have hll : (done ++ s :: L).length = done.length + (L.length + 1) := by simp
    have hget : rdOf [] (done ++ s :: L) (done.length : Int) = s := by simp [rdOf]
    have hset : (done ++ s :: L).set ((done.length : Int)).toNat (marks c s.length) = (done ++ [marks c s.length]) ++ L := by simp
    rw [ev_pos (by rw [hll]; omega), ev_pos (by omega), hget, ev_bind (laws_markIntS.ev s c h0 (by omega)), hset, w64 (by omega) (by omega)]
    have := laws_markIntSS.ev_l L (done ++ [marks c s.length]) (c + (s.length : Int)) (by simp at hl ⊢; omega) (by omega) (by omega)
    rw [List.length_append, List.length_singleton] at this
    show Ev _ (c + ((s.length : Int) + totSS L), done ++ (marks c s.length :: marksSS (c + (s.length : Int)) L))
    rw [← Int.add_assoc, show done ++ (marks c s.length :: marksSS (c + (s.length : Int)) L) = (done ++ [marks c s.length]) ++ marksSS (c + (s.length : Int)) L by simp]
    exact this
theorem laws_markIntSS.ev (L : List (List Int)) (c : Int) (hl : L.length ≤ 9223372036854775807) (h0 : 0 ≤ c) (hc : c + totSS L ≤ 9223372036854775807) : Ev (fun k => laws_markIntSS.f k L c) (c + totSS L, marksSS c L) := laws_markIntSS.ev_l L [] c (by simpa using hl) h0 hc
theorem laws_heldIntSS.ev_l (M : List (List Int)) (hM : M.length ≤ 9223372036854775807) : ∀ (L : List (List Int)) (i : Nat) (c : Int), M.drop i = marksSS c L → 0 ≤ c → c + totSS L ≤ 9223372036854775807 → Ev (fun k => laws_heldIntSS.l0 k M c (i : Int)) (c + totSS L)
  | [], i, c, h, h0, hc => by
    refine ev_step ?_
    simp only [laws_heldIntSS.l0]
    have : M.length ≤ i := by
      have h1 : (M.drop i).length = 0 := by rw [h]; rfl
      rw [List.length_drop] at h1
      omega
    rw [ev_neg (by omega), ev_now]
    simp [totSS]
  | s :: L, i, c, h, h0, hc => by
    refine ev_step ?_
    simp only [laws_heldIntSS.l0]
    have ht := totSS_nonneg L
    have hc' : c + ((s.length : Int) + totSS L) ≤ 9223372036854775807 := hc
    have hi : i < M.length := by
      rcases Nat.lt_or_ge i M.length with h1 | h1
      · exact h1
      · rw [List.drop_of_length_le h1] at h
        cases h
    rw [List.drop_eq_getElem_cons hi] at h
    have h1 : M[i] = marks c s.length := (List.cons.inj h).1
    have h2 : M.drop (i + 1) = marksSS (c + (s.length : Int)) L := (List.cons.inj h).2
    rw [ev_pos (by omega), ev_pos (by omega), rd_L2_lt M i hi, h1, ev_bind (laws_heldIntS.ev s.length c h0 (by omega)), ev_neg (by omega), w64i (n := M.length) (by omega) (by omega) hM]
    have := laws_heldIntSS.ev_l M hM L (i + 1) (c + (s.length : Int)) h2 (by omega) (by omega)
    show Ev _ (c + ((s.length : Int) + totSS L))
    rw [← Int.add_assoc]
    exact this
theorem laws_heldIntSS.ev (L : List (List Int)) (c : Int) (hl : L.length ≤ 9223372036854775807) (h0 : 0 ≤ c) (hc : c + totSS L ≤ 9223372036854775807) : Ev (fun k => laws_heldIntSS.f k (marksSS c L) c) (c + totSS L) := laws_heldIntSS.ev_l (marksSS c L) (by rw [marksSS_len]; exact hl) L 0 c (by simp) h0 hc
end Go.Proofs.Ytmmmblfghhcndaa.Q

namespace Go.Proofs.Ytmmmblfghhcndaa.Q
open Go.RowKit Go.Proofs.YtmmmblfghhcndaaW.PrintWords Go.Proofs.YtmmmblfghhcndaaW.PrintLast Go.Proofs.YtmmmblfghhcndaaW.PrintMore Go.Proofs.YtmmmblfghhcndaaM
set_option linter.unusedVariables false
set_option linter.unusedSimpArgs false
theorem laws_eqGame.ev (n : Int) (l : List (List Int)) (m : Int) (u : List (List Int)) (hl : l.length ≤ 9223372036854775807) (hx : ∀ x ∈ l, x.length ≤ 9223372036854775807) : Ev (fun k => laws_eqGame.f k n l m u) (decide (n = m) && decide (l = u)) := by
  simp only [laws_eqGame.f]
  by_cases h : n = m
  · rw [ev_pos h, ev_bind (laws_eqIntSS.ev l u hl hx)]
    by_cases e : l = u
    · rw [ev_pos (by simpa using e), ev_now]; simp [h, e]
    · rw [ev_neg (by simpa using e), ev_now]; simp [e]
  · rw [ev_neg h, ev_now]; simp [h]
theorem laws_markGame.ev (n : Int) (L : List (List Int)) (c : Int) (hl : L.length ≤ 9223372036854775807) (h0 : 0 ≤ c) (hc : c + totSS L ≤ 9223372036854775807) : Ev (fun k => laws_markGame.f k n L c) (c + totSS L, marksSS c L) := laws_markIntSS.ev L c hl h0 hc
theorem laws_heldGame.ev (n : Int) (L : List (List Int)) (c : Int) (hl : L.length ≤ 9223372036854775807) (h0 : 0 ≤ c) (hc : c + totSS L ≤ 9223372036854775807) : Ev (fun k => laws_heldGame.f k n (marksSS c L) c) (c + totSS L) := by
  have ht := totSS_nonneg L
  simp only [laws_heldGame.f]
  rw [ev_bind (laws_heldIntSS.ev L c hl h0 hc), ev_neg (by omega), ev_now]
end Go.Proofs.Ytmmmblfghhcndaa.Q

namespace Go.Proofs.Ytmmmblfghhcndaa.Q
open Go.RowKit Go.Proofs.YtmmmblfghhcndaaW.PrintWords Go.Proofs.YtmmmblfghhcndaaW.PrintLast Go.Proofs.YtmmmblfghhcndaaW.PrintMore Go.Proofs.YtmmmblfghhcndaaM
set_option linter.unusedVariables false
set_option linter.unusedSimpArgs false
theorem laws_FnExactGameOfSets.law (a0 : Int) (l1 : List (List Int)) (ok0 : OkI a0) (ok1 : OkLL l1) : Ev (fun k => laws_FnExactGameOfSets.f k a0 l1) true := by
  have hl1 := ok1.len
  have hx1 : ∀ x ∈ l1, x.length ≤ 9223372036854775807 := fun x hx => (ok1.2 x hx).len
  simp only [laws_FnExactGameOfSets.f]
  obtain ⟨r1, hr11, hr12, hr13⟩ := laws_szIntSS.ev l1 1048576 hl1 hx1 (by omega) (by omega)
  rw [ev_bind hr12]
  by_cases hz1 : r1 < 0
  · rw [ev_pos hz1, ev_now]
  rw [ev_neg hz1]
  obtain ⟨hn1, hy1⟩ := hr13 (by omega)
  have ht1 := totSS_le l1 1048576 hy1
  have hp1 := totSS_nonneg l1
  have to1 := laws_toIntSS.ev l1 (by omega) (fun x hx => by have := hy1 x hx; omega)
  have eq1 := laws_eqIntSS.ev l1 l1 hl1 hx1
  rw [decide_eq_true rfl] at eq1
  have mk1 := laws_markIntSS.ev l1 (1) (by omega) (by omega) (by omega)
  have hs := spec_GameOfSets.ev a0 l1 ok0 hl1 hx1
  have hi := impl_GameOfSets.ev a0 l1 ok0 hl1 hx1
  have hn := gosV_few a0 l1
  generalize gosV a0 l1 = r at hs hi hn
  obtain ⟨n, L, b⟩ := r
  have hn1 : L.length ≤ 512 := hn.1
  have htt := totSS_le L 9 hn.2
  have ht := totSS_nonneg L
  have he := laws_eqGame.ev_same n L (by omega) (fun s h => by have := hn.2 s h; omega)
  have hm := laws_markGame.ev n L 1 (by omega) (by omega) (by omega)
  have hh := laws_heldGame.ev n L 1 (by omega) (by omega) (by omega)
  rw [ev_bind to1, ev_bind hs, ev_bind hi, ev_bind he, ev_bind eq1, ev_bind mk1, ev_bind hm, ev_bind hh, ev_pos ⟨rfl, rfl, rfl, by show ¬ (1 + totSS l1 < 0); omega, by omega, rfl⟩, ev_now]
end Go.Proofs.Ytmmmblfghhcndaa.Q

namespace Go.Proofs.YtmmmblfghhcndaaO
open Go.RowKit Go.ChangeShapes Go.WideShapes Go.ChangeAt Go.Proofs.YtmmmblfghhcndaaW.PrintWords Go.Proofs.YtmmmblfghhcndaaM
section
variable {H : Type} {enc : TypeId × Value → H} {P : Program} {w : World} {α : Type}
/-- One cell of type t reads as a value of kind d. -/
def Reads1 (enc : TypeId × Value → H) (P : Program) (w : World) (t : TypeId) (d : Kd α) (ok : α → Prop) : Prop :=
  ∀ fuel v x, DataW.trod enc P w 0 (fun _ => true) true fuel t [v] = some x → ∃ a, d.K w a [v] ∧ ok a
theorem reads_int {t : TypeId} {k : IntKind} (hu : P.underlying t = some (.int k)) : Reads1 enc P w t (Kd.int k) (fun n => (Lit.int k n).wf = true) := by
  intro fuel v x h
  obtain ⟨n, e, _, hw⟩ := DataW.trod_int hu h
  exact ⟨n, e, hw⟩
theorem reads_slice {t e : TypeId} {d : Kd α} {ok : α → Prop} (hu : P.underlying t = some (.slice e)) (hc : P.cellsOf e = 1) (hs : d.sz = 1) (he : Reads1 enc P w e d ok) :
    Reads1 enc P w t (Kd.slice e d) (fun l => l.length ≤ maxLen ∧ ∀ x ∈ l, ok x) := by
  intro fuel v x h
  rcases Go.Deep.open_slice1 hu hc h with ⟨hcs, _⟩ | ⟨a, len, cap, m, n, V, D, Pl, hcs, _, hl, hm, hmm, _, hx⟩
  · obtain rfl : v = .slice none 0 0 := by simpa using hcs
    refine ⟨[], ⟨none, 0, rfl, Nat.le_refl _, rfl, Nat.zero_le _, fun h => absurd h (Nat.lt_irrefl _)⟩, Nat.zero_le _, fun _ h => by cases h⟩
  · obtain rfl : v = .slice (some a) len cap := by simpa using hcs
    have hlm : len ≤ m := by rw [hmm]; simpa using hl
    have hall : ∀ i, i < len → ∃ b, d.K w b [V i] ∧ ok b := fun i hi => he n (V i) _ (hx i (by omega)).2
    have key : ∀ j, j ≤ len → ∃ l : List α, l.length = j ∧ (∀ i b, l[i]? = some b → d.K w b [V i] ∧ ok b) := by
      intro j
      induction j with
      | zero => exact fun _ => ⟨[], rfl, fun i b h => by simp at h⟩
      | succ j ih =>
        intro hj
        obtain ⟨l, hl1, hl2⟩ := ih (by omega)
        obtain ⟨b, hb⟩ := hall j (by omega)
        refine ⟨l ++ [b], by simp [hl1], fun i c h => ?_⟩
        rcases Nat.lt_or_ge i l.length with hi | hi
        · rw [List.getElem?_append_left hi] at h
          exact hl2 i c h
        · have e : i = l.length := by
            have := (List.getElem?_eq_some_iff.1 h).1
            rw [List.length_append, List.length_singleton] at this
            omega
          subst e
          obtain rfl : b = c := by simpa using h
          rw [hl1]
          exact hb
    obtain ⟨l, hl1, hl2⟩ := key len (Nat.le_refl _)
    subst hl1
    refine ⟨l, ⟨some a, cap, rfl, hl, rfl, by unfold maxLen at hm; omega, fun _ => ⟨a, rfl, fun j p hj => ⟨[V j], by rw [hs]; rfl, (hl2 j p hj).1, fun i u hi => ?_⟩⟩⟩, Nat.le_trans hl hm, fun x hxm => ?_⟩
    · match i, hi with
      | 0, hi =>
        obtain rfl : V j = u := by simpa using hi
        have hj' := (List.getElem?_eq_some_iff.1 hj).1
        rw [hs, Nat.mul_one, Nat.add_zero]
        exact (hx j (by omega)).1
      | i + 1, hi => simp at hi
    · obtain ⟨i, hi, rfl⟩ := List.mem_iff_getElem.1 hxm
      exact (hl2 i _ (List.getElem?_eq_getElem hi)).2
/-- A slice that is an argument. -/
theorem open_slice_arg {r : Reach} {b0 : Nat} {t e : TypeId} {d : Kd α} {ok' : List α → Prop} {v : Value} {dd : DataW H} {ps : List MemPlace} (hu : P.underlying t = some (.slice e)) (hr : Reads1 enc P w t (Kd.slice e d) ok') (hv : Value.okWide P w r b0 t v)
    (h : DataW.Trod enc P w 0 (fun _ => true) true t v dd ps) : ∃ (A : Option Addr) (c : Nat) (l : List α), v = .slice A l.length c ∧ l.length ≤ c ∧ d.C w A l.length l ∧ ok' l := by
  obtain ⟨a, len, cap, rfl⟩ := okWide_slice hu hv
  obtain ⟨fuel, hf⟩ := h
  obtain ⟨l, ⟨A, c, hcs, hlc, hC⟩, ho⟩ := hr fuel _ _ hf
  exact ⟨A, c, l, by simpa using hcs, hlc, hC, ho⟩
end
end Go.Proofs.YtmmmblfghhcndaaO
