/- Printed functions, their contracts and plain facts on them: QLawsFnExactLowerWeights; M; PLawInts; PLawCommittee; PSumOf; PIsCommittee; QImplIfCommittee; PIfCommittee; PVoSum; PVoGood. Conditions: as each theorem states. -/
import Derived.Laws.BitsLemmas
import Derived.Test.YtmhcejaljnibhaaWWords
import Derived.Test.YtmhcejaljnibhaaWMore
import Derived.Test.YtmhcejaljnibhaaGLowerWeightsx0
import Derived.Test.YtmhcejaljnibhaaGLowerWeightsx1
namespace Go.Proofs.Ytmhcejaljnibhaa.Q
open Go.RowKit Go.Proofs.YtmhcejaljnibhaaX Go.Proofs.YtmhcejaljnibhaaW.PrintWords Go.Proofs.YtmhcejaljnibhaaW.PrintLast Go.Proofs.YtmhcejaljnibhaaW.PrintMore
attribute [local go_sem] max2_int min2_int max_two min_two max_three min_three max_four min_four   -- for this text's walks alone
set_option linter.unusedVariables false
set_option linter.unusedSimpArgs false

/-! ### laws_FnExactLowerWeights: function 8 -/
mutual
def laws_FnExactLowerWeights.j0 : Nat → Bool → Bool → Bool → Int → List Int → Int → List Int → Int → List Int → Int → List Int → Option (Bool)
 | 0, _, _, _, _, _, _, _, _, _, _, _ => none
 | k + 1, x5, x8, x40, x102000, x102001, x113000, x113001, x118000, x118001, x124000, x124001 => if x40 = true then (some false) else ((laws_toCommittee.f k x102000 x102001).bind fun bt125 => ((laws_eqCommittee.f k x118000 x118001 bt125.1 bt125.2).bind fun t129 => (if t129 = true then ((laws_markCommittee.f k x118000 x118001 1).bind fun bt130 => (if bt130.1 < 0 then (laws_FnExactLowerWeights.j1 k x5 true x102000 x102001 x113000 x113001 x124000 x124001) else ((laws_eqCommittee.f k x124000 x124001 x113000 x113001).bind fun t132 => (if t132 = true then (laws_FnExactLowerWeights.j1 k x5 (x8 != x5) x102000 x102001 x113000 x113001 x124000 x124001) else (laws_FnExactLowerWeights.j1 k x5 true x102000 x102001 x113000 x113001 x124000 x124001))))) else (some false))))
def laws_FnExactLowerWeights.j1 : Nat → Bool → Bool → Int → List Int → Int → List Int → Int → List Int → Option (Bool)
 | 0, _, _, _, _, _, _, _, _ => none
 | k + 1, x5, x61, x102000, x102001, x113000, x113001, x124000, x124001 => if x61 = true then (some false) else ((laws_markCommittee.f k x124000 x124001 1).bind fun bt133 => ((laws_heldCommittee.f k x124000 bt133.2 1).bind fun t135 => (if t135 < 0 then (some false) else (if t135 = bt133.1 then ((laws_toCommittee.f k x102000 x102001).bind fun bt136 => ((impl_LowerWeights.f k bt136.1 bt136.2).bind fun bt140 => ((laws_eqCommittee.f k bt140.1 bt140.2.1 x113000 x113001).bind fun t146 => (if t146 = true then (laws_FnExactLowerWeights.j2 k bt133.1 (bt140.2.2 != x5) x124000 bt133.2) else (laws_FnExactLowerWeights.j2 k bt133.1 true x124000 bt133.2))))) else (some false)))))
def laws_FnExactLowerWeights.j2 : Nat → Int → Bool → Int → List Int → Option (Bool)
 | 0, _, _, _, _ => none
 | k + 1, x10, x87, x124000, x124001 => if x87 = true then (some false) else ((laws_heldCommittee.f k x124000 x124001 1).bind fun t147 => (if t147 < 0 then (some false) else (if t147 = x10 then (some true) else (some false))))
end
def laws_FnExactLowerWeights.f (k : Nat) (a0_0 : Int) (l0_1 : List Int) : Option (Bool) := (laws_szCommittee.f a0_0 l0_1 1048576).bind fun t102 => (if t102 < 0 then (some true) else ((laws_toCommittee.f k a0_0 l0_1).bind fun bt103 => ((spec_LowerWeights.f k bt103.1 bt103.2).bind fun bt107 => ((laws_toCommittee.f k a0_0 l0_1).bind fun bt113 => ((impl_LowerWeights.f k bt113.1 bt113.2).bind fun bt118 => ((laws_eqCommittee.f k bt118.1 bt118.2.1 bt107.1 bt107.2.1).bind fun t124 => (if t124 = true then (laws_FnExactLowerWeights.j0 k bt107.2.2 bt118.2.2 (bt118.2.2 != bt107.2.2) a0_0 l0_1 bt107.1 bt107.2.1 bt113.1 bt113.2 bt118.1 bt118.2.1) else (laws_FnExactLowerWeights.j0 k bt107.2.2 bt118.2.2 true a0_0 l0_1 bt107.1 bt107.2.1 bt113.1 bt113.2 bt118.1 bt118.2.1))))))))
theorem laws_FnExactLowerWeights.mono_l : ∀ k, (∀ y0 y1 y2 y3 y4 y5 y6 y7 y8 y9 y10, LeO (laws_FnExactLowerWeights.j0 k y0 y1 y2 y3 y4 y5 y6 y7 y8 y9 y10) (laws_FnExactLowerWeights.j0 (k + 1) y0 y1 y2 y3 y4 y5 y6 y7 y8 y9 y10)) ∧ (∀ y0 y1 y2 y3 y4 y5 y6 y7, LeO (laws_FnExactLowerWeights.j1 k y0 y1 y2 y3 y4 y5 y6 y7) (laws_FnExactLowerWeights.j1 (k + 1) y0 y1 y2 y3 y4 y5 y6 y7)) ∧ (∀ y0 y1 y2 y3, LeO (laws_FnExactLowerWeights.j2 k y0 y1 y2 y3) (laws_FnExactLowerWeights.j2 (k + 1) y0 y1 y2 y3))
 | 0 => ⟨fun _ _ _ _ _ _ _ _ _ _ _ r h => by simp [laws_FnExactLowerWeights.j0] at h, fun _ _ _ _ _ _ _ _ r h => by simp [laws_FnExactLowerWeights.j1] at h, fun _ _ _ _ r h => by simp [laws_FnExactLowerWeights.j2] at h⟩
 | k + 1 => by
  obtain ⟨ih0, ih1, ih2⟩ := laws_FnExactLowerWeights.mono_l k
  refine ⟨?_, ?_, ?_⟩
  ·intro y0 y1 y2 y3 y4 y5 y6 y7 y8 y9 y10
   unfold laws_FnExactLowerWeights.j0
   repeat' first
   | (with_reducible exact ih0 _ _ _ _ _ _ _ _ _ _ _)
   | (with_reducible exact ih1 _ _ _ _ _ _ _ _)
   | (with_reducible exact ih2 _ _ _ _)
   | (with_reducible exact impl_LowerWeights.mono _ _ _)
   | (with_reducible exact laws_eqCommittee.mono _ _ _ _ _)
   | (with_reducible exact laws_heldCommittee.mono _ _ _ _)
   | (with_reducible exact laws_markCommittee.mono _ _ _ _)
   | (with_reducible exact laws_toCommittee.mono _ _ _)
   | (with_reducible exact spec_LowerWeights.mono _ _ _)
   | (with_reducible exact LeO.refl _)
   | (with_reducible exact LeO.none _)
   | (with_reducible refine LeO.ite ?_ ?_)
   | (with_reducible refine LeO.bind ?_ (fun _ => ?_))
   | exact ih0 _ _ _ _ _ _ _ _ _ _ _
   | exact ih1 _ _ _ _ _ _ _ _
   | exact ih2 _ _ _ _
   | exact impl_LowerWeights.mono _ _ _
   | exact laws_eqCommittee.mono _ _ _ _ _
   | exact laws_heldCommittee.mono _ _ _ _
   | exact laws_markCommittee.mono _ _ _ _
   | exact laws_toCommittee.mono _ _ _
   | exact spec_LowerWeights.mono _ _ _
   | exact LeO.none _
   | refine LeO.ite ?_ ?_
   | refine LeO.bind ?_ (fun _ => ?_)
  ·intro y0 y1 y2 y3 y4 y5 y6 y7
   unfold laws_FnExactLowerWeights.j1
   repeat' first
   | (with_reducible exact ih0 _ _ _ _ _ _ _ _ _ _ _)
   | (with_reducible exact ih1 _ _ _ _ _ _ _ _)
   | (with_reducible exact ih2 _ _ _ _)
   | (with_reducible exact impl_LowerWeights.mono _ _ _)
   | (with_reducible exact laws_eqCommittee.mono _ _ _ _ _)
   | (with_reducible exact laws_heldCommittee.mono _ _ _ _)
   | (with_reducible exact laws_markCommittee.mono _ _ _ _)
   | (with_reducible exact laws_toCommittee.mono _ _ _)
   | (with_reducible exact spec_LowerWeights.mono _ _ _)
   | (with_reducible exact LeO.refl _)
   | (with_reducible exact LeO.none _)
   | (with_reducible refine LeO.ite ?_ ?_)
   | (with_reducible refine LeO.bind ?_ (fun _ => ?_))
   | exact ih0 _ _ _ _ _ _ _ _ _ _ _
   | exact ih1 _ _ _ _ _ _ _ _
   | exact ih2 _ _ _ _
   | exact impl_LowerWeights.mono _ _ _
   | exact laws_eqCommittee.mono _ _ _ _ _
   | exact laws_heldCommittee.mono _ _ _ _
   | exact laws_markCommittee.mono _ _ _ _
   | exact laws_toCommittee.mono _ _ _
   | exact spec_LowerWeights.mono _ _ _
   | exact LeO.none _
   | refine LeO.ite ?_ ?_
   | refine LeO.bind ?_ (fun _ => ?_)
  ·intro y0 y1 y2 y3
   unfold laws_FnExactLowerWeights.j2
   repeat' first
   | (with_reducible exact ih0 _ _ _ _ _ _ _ _ _ _ _)
   | (with_reducible exact ih1 _ _ _ _ _ _ _ _)
   | (with_reducible exact ih2 _ _ _ _)
   | (with_reducible exact impl_LowerWeights.mono _ _ _)
   | (with_reducible exact laws_eqCommittee.mono _ _ _ _ _)
   | (with_reducible exact laws_heldCommittee.mono _ _ _ _)
   | (with_reducible exact laws_markCommittee.mono _ _ _ _)
   | (with_reducible exact laws_toCommittee.mono _ _ _)
   | (with_reducible exact spec_LowerWeights.mono _ _ _)
   | (with_reducible exact LeO.refl _)
   | (with_reducible exact LeO.none _)
   | (with_reducible refine LeO.ite ?_ ?_)
   | (with_reducible refine LeO.bind ?_ (fun _ => ?_))
   | exact ih0 _ _ _ _ _ _ _ _ _ _ _
   | exact ih1 _ _ _ _ _ _ _ _
   | exact ih2 _ _ _ _
   | exact impl_LowerWeights.mono _ _ _
   | exact laws_eqCommittee.mono _ _ _ _ _
   | exact laws_heldCommittee.mono _ _ _ _
   | exact laws_markCommittee.mono _ _ _ _
   | exact laws_toCommittee.mono _ _ _
   | exact spec_LowerWeights.mono _ _ _
   | exact LeO.none _
   | refine LeO.ite ?_ ?_
   | refine LeO.bind ?_ (fun _ => ?_)
theorem laws_FnExactLowerWeights.mono : ∀ a0 a1 k, LeO (laws_FnExactLowerWeights.f k a0 a1) (laws_FnExactLowerWeights.f (k + 1) a0 a1) := by
 intro a0 a1 k
 obtain ⟨ih0, ih1, ih2⟩ := laws_FnExactLowerWeights.mono_l k
 unfold laws_FnExactLowerWeights.f
 repeat' first
   | (with_reducible exact ih0 _ _ _ _ _ _ _ _ _ _ _)
   | (with_reducible exact ih1 _ _ _ _ _ _ _ _)
   | (with_reducible exact ih2 _ _ _ _)
   | (with_reducible exact impl_LowerWeights.mono _ _ _)
   | (with_reducible exact laws_eqCommittee.mono _ _ _ _ _)
   | (with_reducible exact laws_heldCommittee.mono _ _ _ _)
   | (with_reducible exact laws_markCommittee.mono _ _ _ _)
   | (with_reducible exact laws_toCommittee.mono _ _ _)
   | (with_reducible exact spec_LowerWeights.mono _ _ _)
   | (with_reducible exact LeO.refl _)
   | (with_reducible exact LeO.none _)
   | (with_reducible refine LeO.ite ?_ ?_)
   | (with_reducible refine LeO.bind ?_ (fun _ => ?_))
   | exact ih0 _ _ _ _ _ _ _ _ _ _ _
   | exact ih1 _ _ _ _ _ _ _ _
   | exact ih2 _ _ _ _
   | exact impl_LowerWeights.mono _ _ _
   | exact laws_eqCommittee.mono _ _ _ _ _
   | exact laws_heldCommittee.mono _ _ _ _
   | exact laws_markCommittee.mono _ _ _ _
   | exact laws_toCommittee.mono _ _ _
   | exact spec_LowerWeights.mono _ _ _
   | exact LeO.none _
   | refine LeO.ite ?_ ?_
   | refine LeO.bind ?_ (fun _ => ?_)
set_option maxHeartbeats 8000000 in
set_option maxRecDepth 100000 in
theorem laws_FnExactLowerWeights.calls (k : Nat) (a0_0 : Int) (A0_1 : Option Addr) (c0_1 : Nat) (l0_1 : List Int) (r : Bool) (w : World) (hr0_1 : Kd.C (Kd.int .i64) w A0_1 l0_1.length l0_1) (hc0_1 : l0_1.length ≤ c0_1) (h : laws_FnExactLowerWeights.f k a0_0 l0_1 = some r) :
  Calls Try.prog 8 #[.agg #[.int .i64 a0_0, .slice A0_1 l0_1.length c0_1]] w fun e w' => e = .returned (.bool r) ∧ Below w.heap.size w w' := by
 have hu30 := Try.underlying30
 have hu24 := Try.underlying24
 have HR0_1 := Aside0.mk hr0_1
 have HC0_1 := Aside0.mk hc0_1
 clear hr0_1 hc0_1
 have HB := Aside0.mk (Below.refl w.heap.size w)
 have H : ((laws_szCommittee.f a0_0 l0_1 1048576).bind fun t102 => (if t102 < 0 then (some true) else ((laws_toCommittee.f k a0_0 l0_1).bind fun bt103 => ((spec_LowerWeights.f k bt103.1 bt103.2).bind fun bt107 => ((laws_toCommittee.f k a0_0 l0_1).bind fun bt113 => ((impl_LowerWeights.f k bt113.1 bt113.2).bind fun bt118 => ((laws_eqCommittee.f k bt118.1 bt118.2.1 bt107.1 bt107.2.1).bind fun t124 => (if t124 = true then (laws_FnExactLowerWeights.j0 k bt107.2.2 bt118.2.2 (bt118.2.2 != bt107.2.2) a0_0 l0_1 bt107.1 bt107.2.1 bt113.1 bt113.2 bt118.1 bt118.2.1) else (laws_FnExactLowerWeights.j0 k bt107.2.2 bt118.2.2 true a0_0 l0_1 bt107.1 bt107.2.1 bt113.1 bt113.2 bt118.1 bt118.2.1))))))))) = some r := h
 clear h
 replace H := oB H
 obtain ⟨t102, A20, H⟩ := H
 replace H : (if t102 < 0 then (some true) else ((laws_toCommittee.f k a0_0 l0_1).bind fun bt103 => ((spec_LowerWeights.f k bt103.1 bt103.2).bind fun bt107 => ((laws_toCommittee.f k a0_0 l0_1).bind fun bt113 => ((impl_LowerWeights.f k bt113.1 bt113.2).bind fun bt118 => ((laws_eqCommittee.f k bt118.1 bt118.2.1 bt107.1 bt107.2.1).bind fun t124 => (if t124 = true then (laws_FnExactLowerWeights.j0 k bt107.2.2 bt118.2.2 (bt118.2.2 != bt107.2.2) a0_0 l0_1 bt107.1 bt107.2.1 bt113.1 bt113.2 bt118.1 bt118.2.1) else (laws_FnExactLowerWeights.j0 k bt107.2.2 bt118.2.2 true a0_0 l0_1 bt107.1 bt107.2.1 bt113.1 bt113.2 bt118.1 bt118.2.1)))))))) = some r := H
 have A2 := Aside0.mk A20
 clear A20
 by_cases c3 : t102 < 0
 ·rw [if_pos c3] at H
  have c3b0 : decide (t102 < 0) = true := decide_eq_true c3
  clear c3
  obtain rfl := Option.some.inj H
  go_enter Try.func8, Try.ntmps8
  go_wp2_with (first | ((with_reducible refine gate_dst (N := 1) rfl ?_); refine box_event ?hg (N := 1) ?hd (cs := #[.int .i64 a0_0, .slice A0_1 l0_1.length c0_1]) (t := 30) ?hr ?_; (case hd => rfl); (case hg => rfl); (case hr => first | (go_simp; done) | (go_simp; rfl)); intro gb101 hg w4 hbox hb; have n0_ := Aside0.mk (below_step (by repeat (first | (with_reducible first | exact HB.out | apply ba | apply bd | apply be) | exact HB.out)) hb); have n1_ := Aside0.mk (hbox); have n2_ := Aside0.mk ((by rw [hg]; exact (below_size (by repeat (first | (with_reducible first | exact HB.out | apply ba | apply bd | apply be) | exact HB.out))) : w.heap.size ≤ gb101)); have n3_ := Aside0.mk ((by rw [hg]; exact (below_size (by repeat (first | (with_reducible first | exact HB.out | apply ba | apply bd | apply be) | exact HB.out))) : w.heap.size ≤ gb101)); clear HB; have HB := n0_; have BK101 := n1_; have GW101 := n2_; have GE101 := n3_; clear n0_ n1_ n2_ n3_; clear hb hbox hg; have hcz5_0 : w4.cell? ⟨gb101, 0, none⟩ = some (.int .i64 a0_0) := (blk_cell BK101.out 0).trans rfl; have hcz5_1 : w4.cell? ⟨gb101, 1, none⟩ = some (.slice A0_1 l0_1.length c0_1) := (blk_cell BK101.out 1).trans rfl; have hfz5_0 := blk_frozen BK101.out 0; have hfz5_1 := blk_frozen BK101.out 1) | ((with_reducible refine gate_callee (f := 14) rfl ?_); refine goesL_ (some 16) rfl rfl Try.func14 (by kernel_rfl) rfl #[.agg #[.int .i64 a0_0, .slice A0_1 l0_1.length c0_1], .int .i64 1048576] rfl (by (try simp only [mA, mC, mN]); first | done | rfl | (simp only [List.length_drop, List.length_take]; rfl)) ?_; (with_reducible refine (laws_szCommittee.calls a0_0 _ _ l0_1 1048576 t102 _ ?side1 ?side2 A2.out).mono ?_); (case side1 => repeat (first | exact (Kd.C_below HR0_1.out HB.out) | (with_reducible refine Kd.C_alloc ?_ _) | (with_reducible refine Kd.C_drewN ?_ _) | (with_reducible refine Kd.C_drew ?_))); (case side2 => exact HC0_1.out); rintro e w6 ⟨rfl, hb⟩; refine ⟨_, rfl, ?_⟩; have n0_ := Aside0.mk (blk_below (g := gb101) (o := .cells #[.int .i64 a0_0, .slice A0_1 l0_1.length c0_1] 30 (0, 0)) (by (with_reducible repeat (first | refine kN ?_ _ | refine kD ?_ | refine kA ?_ _)); exact BK101.out) hb); have n1_ := Aside0.mk (below_step (by repeat (first | (with_reducible first | exact HB.out | apply ba | apply bd | apply be | refine bs ?_ GE101.out) | exact HB.out)) hb); clear BK101; clear HB; have BK101 := n0_; have HB := n1_; clear n0_ n1_; (try clear hb); (try clear hb2); (try clear hk); (try clear hi)))
  go_ret
  exact ⟨by first | rfl | (simp <;> rfl) | (simp [*] <;> rfl), by repeat (first | (with_reducible first | exact HB.out | apply ba | apply bd | apply be | refine bs ?_ GE101.out) | exact HB.out)⟩
 ·rw [if_neg c3] at H
  have c3b0 : decide (t102 < 0) = false := decide_eq_false c3
  clear c3
  replace H := oB H
  obtain ⟨⟨t103, t104⟩, A70, H⟩ := H
  replace H : ((spec_LowerWeights.f k t103 t104).bind fun bt107 => ((laws_toCommittee.f k a0_0 l0_1).bind fun bt113 => ((impl_LowerWeights.f k bt113.1 bt113.2).bind fun bt118 => ((laws_eqCommittee.f k bt118.1 bt118.2.1 bt107.1 bt107.2.1).bind fun t124 => (if t124 = true then (laws_FnExactLowerWeights.j0 k bt107.2.2 bt118.2.2 (bt118.2.2 != bt107.2.2) a0_0 l0_1 bt107.1 bt107.2.1 bt113.1 bt113.2 bt118.1 bt118.2.1) else (laws_FnExactLowerWeights.j0 k bt107.2.2 bt118.2.2 true a0_0 l0_1 bt107.1 bt107.2.1 bt113.1 bt113.2 bt118.1 bt118.2.1)))))) = some r := H
  have A7 := Aside0.mk A70
  clear A70
  replace H := oB H
  obtain ⟨⟨t107, t108, t111⟩, A80, H⟩ := H
  replace H : ((laws_toCommittee.f k a0_0 l0_1).bind fun bt113 => ((impl_LowerWeights.f k bt113.1 bt113.2).bind fun bt118 => ((laws_eqCommittee.f k bt118.1 bt118.2.1 t107 t108).bind fun t124 => (if t124 = true then (laws_FnExactLowerWeights.j0 k t111 bt118.2.2 (bt118.2.2 != t111) a0_0 l0_1 t107 t108 bt113.1 bt113.2 bt118.1 bt118.2.1) else (laws_FnExactLowerWeights.j0 k t111 bt118.2.2 true a0_0 l0_1 t107 t108 bt113.1 bt113.2 bt118.1 bt118.2.1))))) = some r := H
  have A8 := Aside0.mk A80
  clear A80
  replace H := oB H
  obtain ⟨⟨t113, t114⟩, A90, H⟩ := H
  replace H : ((impl_LowerWeights.f k t113 t114).bind fun bt118 => ((laws_eqCommittee.f k bt118.1 bt118.2.1 t107 t108).bind fun t124 => (if t124 = true then (laws_FnExactLowerWeights.j0 k t111 bt118.2.2 (bt118.2.2 != t111) a0_0 l0_1 t107 t108 t113 t114 bt118.1 bt118.2.1) else (laws_FnExactLowerWeights.j0 k t111 bt118.2.2 true a0_0 l0_1 t107 t108 t113 t114 bt118.1 bt118.2.1)))) = some r := H
  have A9 := Aside0.mk A90
  clear A90
  replace H := oB H
  obtain ⟨⟨t118, t119, t122⟩, A100, H⟩ := H
  replace H : ((laws_eqCommittee.f k t118 t119 t107 t108).bind fun t124 => (if t124 = true then (laws_FnExactLowerWeights.j0 k t111 t122 (t122 != t111) a0_0 l0_1 t107 t108 t113 t114 t118 t119) else (laws_FnExactLowerWeights.j0 k t111 t122 true a0_0 l0_1 t107 t108 t113 t114 t118 t119))) = some r := H
  have A10 := Aside0.mk A100
  clear A100
  have HC11 := Aside0.mk H
  clear H
  go_enter Try.func8, Try.ntmps8
  go_upto_region 8 with (first | ((with_reducible refine gate_dst (N := 1) rfl ?_); refine box_event ?hg (N := 1) ?hd (cs := #[.int .i64 a0_0, .slice A0_1 l0_1.length c0_1]) (t := 30) ?hr ?_; (case hd => rfl); (case hg => rfl); (case hr => first | (go_simp; done) | (go_simp; rfl)); intro gb101 hg w12 hbox hb; have n0_ := Aside0.mk (below_step (by repeat (first | (with_reducible first | exact HB.out | apply ba | apply bd | apply be) | exact HB.out)) hb); have n1_ := Aside0.mk (hbox); have n2_ := Aside0.mk ((by rw [hg]; exact (below_size (by repeat (first | (with_reducible first | exact HB.out | apply ba | apply bd | apply be) | exact HB.out))) : w.heap.size ≤ gb101)); have n3_ := Aside0.mk ((by rw [hg]; exact (below_size (by repeat (first | (with_reducible first | exact HB.out | apply ba | apply bd | apply be) | exact HB.out))) : w.heap.size ≤ gb101)); clear HB; have HB := n0_; have BK101 := n1_; have GW101 := n2_; have GE101 := n3_; clear n0_ n1_ n2_ n3_; clear hb hbox hg; have hcz13_0 : w12.cell? ⟨gb101, 0, none⟩ = some (.int .i64 a0_0) := (blk_cell BK101.out 0).trans rfl; have hcz13_1 : w12.cell? ⟨gb101, 1, none⟩ = some (.slice A0_1 l0_1.length c0_1) := (blk_cell BK101.out 1).trans rfl; have hfz13_0 := blk_frozen BK101.out 0; have hfz13_1 := blk_frozen BK101.out 1) | ((with_reducible refine gate_callee (f := 14) rfl ?_); refine goesL_ (some 16) rfl rfl Try.func14 (by kernel_rfl) rfl #[.agg #[.int .i64 a0_0, .slice A0_1 l0_1.length c0_1], .int .i64 1048576] rfl (by (try simp only [mA, mC, mN]); first | done | rfl | (simp only [List.length_drop, List.length_take]; rfl)) ?_; (with_reducible refine (laws_szCommittee.calls a0_0 _ _ l0_1 1048576 t102 _ ?side1 ?side2 A2.out).mono ?_); (case side1 => repeat (first | exact (Kd.C_below HR0_1.out HB.out) | (with_reducible refine Kd.C_alloc ?_ _) | (with_reducible refine Kd.C_drewN ?_ _) | (with_reducible refine Kd.C_drew ?_))); (case side2 => exact HC0_1.out); rintro e w14 ⟨rfl, hb⟩; refine ⟨_, rfl, ?_⟩; have n0_ := Aside0.mk (blk_below (g := gb101) (o := .cells #[.int .i64 a0_0, .slice A0_1 l0_1.length c0_1] 30 (0, 0)) (by (with_reducible repeat (first | refine kN ?_ _ | refine kD ?_ | refine kA ?_ _)); exact BK101.out) hb); have n1_ := Aside0.mk (below_step (by repeat (first | (with_reducible first | exact HB.out | apply ba | apply bd | apply be | refine bs ?_ GE101.out) | exact HB.out)) hb); clear BK101; clear HB; have BK101 := n0_; have HB := n1_; clear n0_ n1_; (try clear hb); (try clear hb2); (try clear hk); (try clear hi); have hcz15_0 : w14.cell? ⟨gb101, 0, none⟩ = some (.int .i64 a0_0) := (blk_cell BK101.out 0).trans rfl; have hcz15_1 : w14.cell? ⟨gb101, 1, none⟩ = some (.slice A0_1 l0_1.length c0_1) := (blk_cell BK101.out 1).trans rfl; have hfz15_0 := blk_frozen BK101.out 0; have hfz15_1 := blk_frozen BK101.out 1) | ((with_reducible refine gate_callee (f := 16) rfl ?_); refine goesL_ (some 21) rfl rfl Try.func16 (by kernel_rfl) rfl #[.agg #[.int .i64 a0_0, .slice A0_1 l0_1.length c0_1]] rfl (by (try simp only [mA, mC, mN]); first | done | rfl | (simp only [List.length_drop, List.length_take]; rfl)) ?_; (with_reducible refine (laws_toCommittee.calls k a0_0 _ _ l0_1 t103 t104 _ ?side1 ?side2 A7.out).mono ?_); (case side1 => repeat (first | exact (Kd.C_below HR0_1.out HB.out) | (with_reducible refine Kd.C_alloc ?_ _) | (with_reducible refine Kd.C_drewN ?_ _) | (with_reducible refine Kd.C_drew ?_))); (case side2 => exact HC0_1.out); rintro e w16 ⟨v105, rfl, ho0, hb⟩; refine ⟨_, rfl, ?_⟩; have n0_ := Aside0.mk (Kd.R_lower ho0 (below_size (by repeat (first | (with_reducible first | exact HB.out | apply ba | apply bd | apply be | refine bs ?_ GE101.out) | exact HB.out)))); have n1_ := Aside0.mk (blk_below (g := gb101) (o := .cells #[.int .i64 a0_0, .slice A0_1 l0_1.length c0_1] 30 (0, 0)) (by (with_reducible repeat (first | refine kN ?_ _ | refine kD ?_ | refine kA ?_ _)); exact BK101.out) hb); have n2_ := Aside0.mk (below_step (by repeat (first | (with_reducible first | exact HB.out | apply ba | apply bd | apply be | refine bs ?_ GE101.out) | exact HB.out)) hb); clear BK101; clear HB; have HO106 := n0_; have BK101 := n1_; have HB := n2_; clear n0_ n1_ n2_; (try clear hb); (try clear hb2); (try clear hk); (try clear hi); (try clear ho0); obtain ⟨Ao17, co17, eo17⟩ := Kd.R_slice HO106.out; subst eo17) | ((with_reducible refine gate_callee (f := 24) rfl ?_); refine goesL_ (some 22) rfl rfl Try.func24 (by kernel_rfl) rfl #[.agg #[.int .i64 t103, .slice Ao17 t104.length co17]] rfl (by (try simp only [mA, mC, mN]); first | done | rfl | (simp only [List.length_drop, List.length_take]; rfl)) ?_; (with_reducible refine (spec_LowerWeights.calls k t103 _ _ t104 t107 t108 t111 _ ?side1 ?side2 A8.out).mono ?_); (case side1 => repeat (first | exact (Kd.R_reads' HO106.out).2.2 | (with_reducible refine Kd.C_alloc ?_ _) | (with_reducible refine Kd.C_drewN ?_ _) | (with_reducible refine Kd.C_drew ?_))); (case side2 => exact (Kd.R_reads' HO106.out).2.1); rintro e w18 ⟨v109, rfl, ho0, hb⟩; refine ⟨_, rfl, ?_⟩; have n0_ := Aside0.mk (Kd.R_elder' (by (with_reducible repeat (first | apply qA | apply qN | apply qD)); exact HO106.out) (Kd.R_base ho0) hb); have n1_ := Aside0.mk (Kd.R_lower (Kd.R_new' ho0 (Kd.R_lt (by (with_reducible repeat (first | apply qA | apply qN | apply qD)); exact HO106.out))) (below_size (by repeat (first | (with_reducible first | exact HB.out | apply ba | apply bd | apply be | refine bs ?_ GE101.out) | exact HB.out)))); have n2_ := Aside0.mk (blk_below (g := gb101) (o := .cells #[.int .i64 a0_0, .slice A0_1 l0_1.length c0_1] 30 (0, 0)) (by (with_reducible repeat (first | refine kN ?_ _ | refine kD ?_ | refine kA ?_ _)); exact BK101.out) hb); have n3_ := Aside0.mk (below_step (by repeat (first | (with_reducible first | exact HB.out | apply ba | apply bd | apply be | refine bs ?_ GE101.out) | exact HB.out)) hb); clear HO106; clear BK101; clear HB; have HO106 := n0_; have HO110 := n1_; have BK101 := n2_; have HB := n3_; clear n0_ n1_ n2_ n3_; (try clear hb); (try clear hb2); (try clear hk); (try clear hi); (try clear ho0)) | ((with_reducible refine gate_dst (N := 4) rfl ?_); refine box_event ?hg (N := 4) ?hd (cs := #[.int .i64 0, .slice none 0 0]) (t := 24) ?hr ?_; (case hd => rfl); (case hg => rfl); (case hr => first | (go_simp; done) | (go_simp; rfl)); intro gb112 hg w19 hbox hb; have n0_ := Aside0.mk (Kd.R_below (by (with_reducible repeat (first | apply qA | apply qN | apply qD)); exact HO106.out) hb); have n1_ := Aside0.mk (Kd.R_below (by (with_reducible repeat (first | apply qA | apply qN | apply qD)); exact HO110.out) hb); have n2_ := Aside0.mk (blk_below (g := gb101) (o := .cells #[.int .i64 a0_0, .slice A0_1 l0_1.length c0_1] 30 (0, 0)) (by (with_reducible repeat (first | refine kN ?_ _ | refine kD ?_ | refine kA ?_ _)); exact BK101.out) hb); have n3_ := Aside0.mk (below_step (by repeat (first | (with_reducible first | exact HB.out | apply ba | apply bd | apply be | refine bs ?_ GE101.out) | exact HB.out)) hb); have n4_ := Aside0.mk (hbox); have n5_ := Aside0.mk ((by rw [hg]; exact (below_size (by repeat (first | (with_reducible first | exact HB.out | apply ba | apply bd | apply be | refine bs ?_ GE101.out) | exact HB.out))) : w.heap.size ≤ gb112)); have n6_ := Aside0.mk ((by rw [hg]; exact (below_size (by repeat (first | (with_reducible first | exact HB.out | apply ba | apply bd | apply be | refine bs ?_ GE101.out) | exact HB.out))) : w.heap.size ≤ gb112)); have n7_ := Aside0.mk ((by rw [hg]; exact Nat.ne_of_lt (blk_lt (g := gb101) (o := .cells #[.int .i64 a0_0, .slice A0_1 l0_1.length c0_1] 30 (0, 0)) (by (with_reducible repeat (first | refine kN ?_ _ | refine kD ?_ | refine kA ?_ _)); exact BK101.out)) : gb101 ≠ gb112)); have n8_ := Aside0.mk ((by rw [hg]; exact Nat.ne_of_gt (blk_lt (g := gb101) (o := .cells #[.int .i64 a0_0, .slice A0_1 l0_1.length c0_1] 30 (0, 0)) (by (with_reducible repeat (first | refine kN ?_ _ | refine kD ?_ | refine kA ?_ _)); exact BK101.out)) : gb112 ≠ gb101)); clear HO106; clear HO110; clear BK101; clear HB; have HO106 := n0_; have HO110 := n1_; have BK101 := n2_; have HB := n3_; have BK112 := n4_; have GW112 := n5_; have GE112 := n6_; have NB101_112 := n7_; have NB112_101 := n8_; clear n0_ n1_ n2_ n3_ n4_ n5_ n6_ n7_ n8_; clear hb hbox hg; have hnb20 := NB112_101.out; have hnc20 := NB101_112.out; have hcz21_0 : w19.cell? ⟨gb112, 0, none⟩ = some (.int .i64 0) := (blk_cell BK112.out 0).trans rfl; have hcz21_1 : w19.cell? ⟨gb112, 1, none⟩ = some (.slice none 0 0) := (blk_cell BK112.out 1).trans rfl; have hfz21_0 := blk_frozen BK112.out 0; have hfz21_1 := blk_frozen BK112.out 1; obtain ⟨Ao22, co22, eo22⟩ := Kd.R_slice HO110.out; subst eo22; have hcz23_0 : w19.cell? ⟨gb101, 0, none⟩ = some (.int .i64 a0_0) := (blk_cell BK101.out 0).trans rfl; have hcz23_1 : w19.cell? ⟨gb101, 1, none⟩ = some (.slice A0_1 l0_1.length c0_1) := (blk_cell BK101.out 1).trans rfl; have hfz23_0 := blk_frozen BK101.out 0; have hfz23_1 := blk_frozen BK101.out 1) | ((with_reducible refine gate_callee (f := 16) rfl ?_); refine goesL_ (some 26) rfl rfl Try.func16 (by kernel_rfl) rfl #[.agg #[.int .i64 a0_0, .slice A0_1 l0_1.length c0_1]] rfl (by (try simp only [mA, mC, mN]); first | done | rfl | (simp only [List.length_drop, List.length_take]; rfl)) ?_; (with_reducible refine (laws_toCommittee.calls k a0_0 _ _ l0_1 t113 t114 _ ?side1 ?side2 A9.out).mono ?_); (case side1 => exact Kd.C_below HR0_1.out (by repeat (first | (with_reducible first | exact HB.out | apply ba | apply bd | apply be | refine bs ?_ GE101.out | refine bs ?_ GE112.out) | exact HB.out))); (case side2 => exact HC0_1.out); rintro e w24 ⟨v115, rfl, ho0, hb⟩; refine ⟨_, rfl, ?_⟩; have n0_ := Aside0.mk (Kd.R_elder' (by (with_reducible repeat (first | apply qA | apply qN | apply qD)); exact (Kd.R_mono (Kd.R_far (p := ⟨gb112, 1, none⟩) (Kd.R_far (p := ⟨gb112, 0, none⟩) (Kd.R_types HO106.out BK112.out (by decide)) (fun _ hk => hk.2) (.int .i64 t107)) (fun _ hk => hk.2) (.slice Ao22 t108.length co22)) (fun _ h_ => h_.1))) (Kd.R_base ho0) hb); have n1_ := Aside0.mk (Kd.R_elder' (by (with_reducible repeat (first | apply qA | apply qN | apply qD)); exact (Kd.R_mono (Kd.R_far (p := ⟨gb112, 1, none⟩) (Kd.R_far (p := ⟨gb112, 0, none⟩) (Kd.R_types HO110.out BK112.out (by decide)) (fun _ hk => hk.2) (.int .i64 t107)) (fun _ hk => hk.2) (.slice Ao22 t108.length co22)) (fun _ h_ => h_.1))) (Kd.R_base ho0) hb); have n2_ := Aside0.mk (Kd.R_lower (Kd.R_new' (Kd.R_new' ho0 (Kd.R_lt (by (with_reducible repeat (first | apply qA | apply qN | apply qD)); exact (Kd.R_mono (Kd.R_far (p := ⟨gb112, 1, none⟩) (Kd.R_far (p := ⟨gb112, 0, none⟩) (Kd.R_types HO106.out BK112.out (by decide)) (fun _ hk => hk.2) (.int .i64 t107)) (fun _ hk => hk.2) (.slice Ao22 t108.length co22)) (fun _ h_ => h_.1))))) (Kd.R_lt (by (with_reducible repeat (first | apply qA | apply qN | apply qD)); exact (Kd.R_mono (Kd.R_far (p := ⟨gb112, 1, none⟩) (Kd.R_far (p := ⟨gb112, 0, none⟩) (Kd.R_types HO110.out BK112.out (by decide)) (fun _ hk => hk.2) (.int .i64 t107)) (fun _ hk => hk.2) (.slice Ao22 t108.length co22)) (fun _ h_ => h_.1))))) (below_size (by repeat (first | (with_reducible first | exact HB.out | apply ba | apply bd | apply be | refine bs ?_ GE101.out | refine bs ?_ GE112.out) | exact HB.out)))); have n3_ := Aside0.mk (blk_below (g := gb101) (o := .cells #[.int .i64 a0_0, .slice A0_1 l0_1.length c0_1] 30 (0, 0)) (by (with_reducible repeat (first | refine kN ?_ _ | refine kD ?_ | refine kA ?_ _)); refine blk_far ?_ NB101_112.out _; (with_reducible repeat (first | refine kN ?_ _ | refine kD ?_ | refine kA ?_ _)); refine blk_far ?_ NB101_112.out _; (with_reducible repeat (first | refine kN ?_ _ | refine kD ?_ | refine kA ?_ _)); exact BK101.out) hb); have n4_ := Aside0.mk (blk_below (g := gb112) (o := .cells #[.int .i64 t107, .slice Ao22 t108.length co22] 24 (0, 0)) (by (with_reducible repeat (first | refine kN ?_ _ | refine kD ?_ | refine kA ?_ _)); refine blk_put (cs := #[.int .i64 t107, .slice none 0 0]) ?_ 1 _ rfl; (with_reducible repeat (first | refine kN ?_ _ | refine kD ?_ | refine kA ?_ _)); refine blk_put (cs := #[.int .i64 0, .slice none 0 0]) ?_ 0 _ rfl; (with_reducible repeat (first | refine kN ?_ _ | refine kD ?_ | refine kA ?_ _)); exact BK112.out) hb); have n5_ := Aside0.mk (below_step (by repeat (first | (with_reducible first | exact HB.out | apply ba | apply bd | apply be | refine bs ?_ GE101.out | refine bs ?_ GE112.out) | exact HB.out)) hb); clear HO106; clear HO110; clear BK101; clear BK112; clear HB; have HO106 := n0_; have HO110 := n1_; have HO116 := n2_; have BK101 := n3_; have BK112 := n4_; have HB := n5_; clear n0_ n1_ n2_ n3_ n4_ n5_; (try clear hb); (try clear hb2); (try clear hk); (try clear hi); (try clear ho0)) | ((with_reducible refine gate_dst (N := 6) rfl ?_); refine box_event ?hg (N := 6) ?hd (cs := #[.int .i64 0, .slice none 0 0]) (t := 24) ?hr ?_; (case hd => rfl); (case hg => rfl); (case hr => first | (go_simp; done) | (go_simp; rfl)); intro gb117 hg w25 hbox hb; have n0_ := Aside0.mk (Kd.R_below (by (with_reducible repeat (first | apply qA | apply qN | apply qD)); exact HO106.out) hb); have n1_ := Aside0.mk (Kd.R_below (by (with_reducible repeat (first | apply qA | apply qN | apply qD)); exact HO110.out) hb); have n2_ := Aside0.mk (Kd.R_below (by (with_reducible repeat (first | apply qA | apply qN | apply qD)); exact HO116.out) hb); have n3_ := Aside0.mk (blk_below (g := gb101) (o := .cells #[.int .i64 a0_0, .slice A0_1 l0_1.length c0_1] 30 (0, 0)) (by (with_reducible repeat (first | refine kN ?_ _ | refine kD ?_ | refine kA ?_ _)); exact BK101.out) hb); have n4_ := Aside0.mk (blk_below (g := gb112) (o := .cells #[.int .i64 t107, .slice Ao22 t108.length co22] 24 (0, 0)) (by (with_reducible repeat (first | refine kN ?_ _ | refine kD ?_ | refine kA ?_ _)); exact BK112.out) hb); have n5_ := Aside0.mk (below_step (by repeat (first | (with_reducible first | exact HB.out | apply ba | apply bd | apply be | refine bs ?_ GE101.out | refine bs ?_ GE112.out) | exact HB.out)) hb); have n6_ := Aside0.mk (hbox); have n7_ := Aside0.mk ((by rw [hg]; exact (below_size (by repeat (first | (with_reducible first | exact HB.out | apply ba | apply bd | apply be | refine bs ?_ GE101.out | refine bs ?_ GE112.out) | exact HB.out))) : w.heap.size ≤ gb117)); have n8_ := Aside0.mk ((by rw [hg]; exact (below_size (by repeat (first | (with_reducible first | exact HB.out | apply ba | apply bd | apply be | refine bs ?_ GE101.out | refine bs ?_ GE112.out) | exact HB.out))) : w.heap.size ≤ gb117)); have n9_ := Aside0.mk ((by rw [hg]; exact Nat.ne_of_lt (blk_lt (g := gb101) (o := .cells #[.int .i64 a0_0, .slice A0_1 l0_1.length c0_1] 30 (0, 0)) (by (with_reducible repeat (first | refine kN ?_ _ | refine kD ?_ | refine kA ?_ _)); exact BK101.out)) : gb101 ≠ gb117)); have n10_ := Aside0.mk ((by rw [hg]; exact Nat.ne_of_gt (blk_lt (g := gb101) (o := .cells #[.int .i64 a0_0, .slice A0_1 l0_1.length c0_1] 30 (0, 0)) (by (with_reducible repeat (first | refine kN ?_ _ | refine kD ?_ | refine kA ?_ _)); exact BK101.out)) : gb117 ≠ gb101)); have n11_ := Aside0.mk ((by rw [hg]; exact Nat.ne_of_lt (blk_lt (g := gb112) (o := .cells #[.int .i64 t107, .slice Ao22 t108.length co22] 24 (0, 0)) (by (with_reducible repeat (first | refine kN ?_ _ | refine kD ?_ | refine kA ?_ _)); exact BK112.out)) : gb112 ≠ gb117)); have n12_ := Aside0.mk ((by rw [hg]; exact Nat.ne_of_gt (blk_lt (g := gb112) (o := .cells #[.int .i64 t107, .slice Ao22 t108.length co22] 24 (0, 0)) (by (with_reducible repeat (first | refine kN ?_ _ | refine kD ?_ | refine kA ?_ _)); exact BK112.out)) : gb117 ≠ gb112)); clear HO106; clear HO110; clear HO116; clear BK101; clear BK112; clear HB; have HO106 := n0_; have HO110 := n1_; have HO116 := n2_; have BK101 := n3_; have BK112 := n4_; have HB := n5_; have BK117 := n6_; have GW117 := n7_; have GE117 := n8_; have NB101_117 := n9_; have NB117_101 := n10_; have NB112_117 := n11_; have NB117_112 := n12_; clear n0_ n1_ n2_ n3_ n4_ n5_ n6_ n7_ n8_ n9_ n10_ n11_ n12_; clear hb hbox hg; have hnb26 := NB117_101.out; have hnc26 := NB101_117.out; have hnb27 := NB117_112.out; have hnc27 := NB112_117.out; have hcz28_0 : w25.cell? ⟨gb117, 0, none⟩ = some (.int .i64 0) := (blk_cell BK117.out 0).trans rfl; have hcz28_1 : w25.cell? ⟨gb117, 1, none⟩ = some (.slice none 0 0) := (blk_cell BK117.out 1).trans rfl; have hfz28_0 := blk_frozen BK117.out 0; have hfz28_1 := blk_frozen BK117.out 1; obtain ⟨Ao29, co29, eo29⟩ := Kd.R_slice HO116.out; subst eo29) | ((with_reducible refine gate_callee (f := 25) rfl ?_); refine goesL_ (some 29) rfl rfl Try.func25 (by kernel_rfl) rfl #[.agg #[.int .i64 t113, .slice Ao29 t114.length co29]] rfl (by (try simp only [mA, mC, mN]); first | done | rfl | (simp only [List.length_drop, List.length_take]; rfl)) ?_; (with_reducible refine (impl_LowerWeights.calls k t113 _ _ t114 t118 t119 t122 _ ?side1 ?side2 A10.out).mono ?_); (case side1 => refine (Kd.R_reads' (e := 3) (base := w.heap.size) (ok := fun k_ => ((True ∧ some k_ ≠ (.slice Ao17 t104.length co17 : Value).ownBlock) ∧ some k_ ≠ (.slice Ao22 t108.length co22 : Value).ownBlock)) (n := t114.length) (c := co29) ?_).2.2; exact (by (with_reducible repeat (first | apply qA | apply qN | apply qD)); exact (Kd.R_mono (Kd.R_far (p := ⟨gb117, 1, none⟩) (Kd.R_far (p := ⟨gb117, 0, none⟩) (Kd.R_types HO116.out BK117.out (by decide)) (fun _ hk => hk.2) (.int .i64 t113)) (fun _ hk => hk.2) (.slice Ao29 t114.length co29)) (fun _ h_ => h_.1)))); (case side2 => exact (Kd.R_reads' HO116.out).2.1); rintro e w30 ⟨v120, rfl, ho0, hb⟩; refine ⟨_, rfl, ?_⟩; have n0_ := Aside0.mk (Kd.R_elder' (by (with_reducible repeat (first | apply qA | apply qN | apply qD)); exact (Kd.R_mono (Kd.R_far (p := ⟨gb117, 1, none⟩) (Kd.R_far (p := ⟨gb117, 0, none⟩) (Kd.R_types HO106.out BK117.out (by decide)) (fun _ hk => hk.2) (.int .i64 t113)) (fun _ hk => hk.2) (.slice Ao29 t114.length co29)) (fun _ h_ => h_.1))) (Kd.R_base ho0) hb); have n1_ := Aside0.mk (Kd.R_elder' (by (with_reducible repeat (first | apply qA | apply qN | apply qD)); exact (Kd.R_mono (Kd.R_far (p := ⟨gb117, 1, none⟩) (Kd.R_far (p := ⟨gb117, 0, none⟩) (Kd.R_types HO110.out BK117.out (by decide)) (fun _ hk => hk.2) (.int .i64 t113)) (fun _ hk => hk.2) (.slice Ao29 t114.length co29)) (fun _ h_ => h_.1))) (Kd.R_base ho0) hb); have n2_ := Aside0.mk (Kd.R_elder' (by (with_reducible repeat (first | apply qA | apply qN | apply qD)); exact (Kd.R_mono (Kd.R_far (p := ⟨gb117, 1, none⟩) (Kd.R_far (p := ⟨gb117, 0, none⟩) (Kd.R_types HO116.out BK117.out (by decide)) (fun _ hk => hk.2) (.int .i64 t113)) (fun _ hk => hk.2) (.slice Ao29 t114.length co29)) (fun _ h_ => h_.1))) (Kd.R_base ho0) hb); have n3_ := Aside0.mk (Kd.R_lower (Kd.R_new' (Kd.R_new' (Kd.R_new' ho0 (Kd.R_lt (by (with_reducible repeat (first | apply qA | apply qN | apply qD)); exact (Kd.R_mono (Kd.R_far (p := ⟨gb117, 1, none⟩) (Kd.R_far (p := ⟨gb117, 0, none⟩) (Kd.R_types HO106.out BK117.out (by decide)) (fun _ hk => hk.2) (.int .i64 t113)) (fun _ hk => hk.2) (.slice Ao29 t114.length co29)) (fun _ h_ => h_.1))))) (Kd.R_lt (by (with_reducible repeat (first | apply qA | apply qN | apply qD)); exact (Kd.R_mono (Kd.R_far (p := ⟨gb117, 1, none⟩) (Kd.R_far (p := ⟨gb117, 0, none⟩) (Kd.R_types HO110.out BK117.out (by decide)) (fun _ hk => hk.2) (.int .i64 t113)) (fun _ hk => hk.2) (.slice Ao29 t114.length co29)) (fun _ h_ => h_.1))))) (Kd.R_lt (by (with_reducible repeat (first | apply qA | apply qN | apply qD)); exact (Kd.R_mono (Kd.R_far (p := ⟨gb117, 1, none⟩) (Kd.R_far (p := ⟨gb117, 0, none⟩) (Kd.R_types HO116.out BK117.out (by decide)) (fun _ hk => hk.2) (.int .i64 t113)) (fun _ hk => hk.2) (.slice Ao29 t114.length co29)) (fun _ h_ => h_.1))))) (below_size (by repeat (first | (with_reducible first | exact HB.out | apply ba | apply bd | apply be | refine bs ?_ GE101.out | refine bs ?_ GE112.out | refine bs ?_ GE117.out) | exact HB.out)))); have n4_ := Aside0.mk (blk_below (g := gb101) (o := .cells #[.int .i64 a0_0, .slice A0_1 l0_1.length c0_1] 30 (0, 0)) (by (with_reducible repeat (first | refine kN ?_ _ | refine kD ?_ | refine kA ?_ _)); refine blk_far ?_ NB101_117.out _; (with_reducible repeat (first | refine kN ?_ _ | refine kD ?_ | refine kA ?_ _)); refine blk_far ?_ NB101_117.out _; (with_reducible repeat (first | refine kN ?_ _ | refine kD ?_ | refine kA ?_ _)); exact BK101.out) hb); have n5_ := Aside0.mk (blk_below (g := gb112) (o := .cells #[.int .i64 t107, .slice Ao22 t108.length co22] 24 (0, 0)) (by (with_reducible repeat (first | refine kN ?_ _ | refine kD ?_ | refine kA ?_ _)); refine blk_far ?_ NB112_117.out _; (with_reducible repeat (first | refine kN ?_ _ | refine kD ?_ | refine kA ?_ _)); refine blk_far ?_ NB112_117.out _; (with_reducible repeat (first | refine kN ?_ _ | refine kD ?_ | refine kA ?_ _)); exact BK112.out) hb); have n6_ := Aside0.mk (blk_below (g := gb117) (o := .cells #[.int .i64 t113, .slice Ao29 t114.length co29] 24 (0, 0)) (by (with_reducible repeat (first | refine kN ?_ _ | refine kD ?_ | refine kA ?_ _)); refine blk_put (cs := #[.int .i64 t113, .slice none 0 0]) ?_ 1 _ rfl; (with_reducible repeat (first | refine kN ?_ _ | refine kD ?_ | refine kA ?_ _)); refine blk_put (cs := #[.int .i64 0, .slice none 0 0]) ?_ 0 _ rfl; (with_reducible repeat (first | refine kN ?_ _ | refine kD ?_ | refine kA ?_ _)); exact BK117.out) hb); have n7_ := Aside0.mk (below_step (by repeat (first | (with_reducible first | exact HB.out | apply ba | apply bd | apply be | refine bs ?_ GE101.out | refine bs ?_ GE112.out | refine bs ?_ GE117.out) | exact HB.out)) hb); clear HO106; clear HO110; clear HO116; clear BK101; clear BK112; clear BK117; clear HB; have HO106 := n0_; have HO110 := n1_; have HO116 := n2_; have HO121 := n3_; have BK101 := n4_; have BK112 := n5_; have BK117 := n6_; have HB := n7_; clear n0_ n1_ n2_ n3_ n4_ n5_ n6_ n7_; (try clear hb); (try clear hb2); (try clear hk); (try clear hi); (try clear ho0)) | ((with_reducible refine gate_dst (N := 7) rfl ?_); refine box_event ?hg (N := 7) ?hd (cs := #[.int .i64 0, .slice none 0 0]) (t := 24) ?hr ?_; (case hd => rfl); (case hg => rfl); (case hr => first | (go_simp; done) | (go_simp; rfl)); intro gb123 hg w31 hbox hb; have n0_ := Aside0.mk (Kd.R_below (by (with_reducible repeat (first | apply qA | apply qN | apply qD)); exact HO106.out) hb); have n1_ := Aside0.mk (Kd.R_below (by (with_reducible repeat (first | apply qA | apply qN | apply qD)); exact HO110.out) hb); have n2_ := Aside0.mk (Kd.R_below (by (with_reducible repeat (first | apply qA | apply qN | apply qD)); exact HO116.out) hb); have n3_ := Aside0.mk (Kd.R_below (by (with_reducible repeat (first | apply qA | apply qN | apply qD)); exact HO121.out) hb); have n4_ := Aside0.mk (blk_below (g := gb101) (o := .cells #[.int .i64 a0_0, .slice A0_1 l0_1.length c0_1] 30 (0, 0)) (by (with_reducible repeat (first | refine kN ?_ _ | refine kD ?_ | refine kA ?_ _)); exact BK101.out) hb); have n5_ := Aside0.mk (blk_below (g := gb112) (o := .cells #[.int .i64 t107, .slice Ao22 t108.length co22] 24 (0, 0)) (by (with_reducible repeat (first | refine kN ?_ _ | refine kD ?_ | refine kA ?_ _)); exact BK112.out) hb); have n6_ := Aside0.mk (blk_below (g := gb117) (o := .cells #[.int .i64 t113, .slice Ao29 t114.length co29] 24 (0, 0)) (by (with_reducible repeat (first | refine kN ?_ _ | refine kD ?_ | refine kA ?_ _)); exact BK117.out) hb); have n7_ := Aside0.mk (below_step (by repeat (first | (with_reducible first | exact HB.out | apply ba | apply bd | apply be | refine bs ?_ GE101.out | refine bs ?_ GE112.out | refine bs ?_ GE117.out) | exact HB.out)) hb); have n8_ := Aside0.mk (hbox); have n9_ := Aside0.mk ((by rw [hg]; exact (below_size (by repeat (first | (with_reducible first | exact HB.out | apply ba | apply bd | apply be | refine bs ?_ GE101.out | refine bs ?_ GE112.out | refine bs ?_ GE117.out) | exact HB.out))) : w.heap.size ≤ gb123)); have n10_ := Aside0.mk ((by rw [hg]; exact (below_size (by repeat (first | (with_reducible first | exact HB.out | apply ba | apply bd | apply be | refine bs ?_ GE101.out | refine bs ?_ GE112.out | refine bs ?_ GE117.out) | exact HB.out))) : w.heap.size ≤ gb123)); have n11_ := Aside0.mk ((by rw [hg]; exact Nat.ne_of_lt (blk_lt (g := gb101) (o := .cells #[.int .i64 a0_0, .slice A0_1 l0_1.length c0_1] 30 (0, 0)) (by (with_reducible repeat (first | refine kN ?_ _ | refine kD ?_ | refine kA ?_ _)); exact BK101.out)) : gb101 ≠ gb123)); have n12_ := Aside0.mk ((by rw [hg]; exact Nat.ne_of_gt (blk_lt (g := gb101) (o := .cells #[.int .i64 a0_0, .slice A0_1 l0_1.length c0_1] 30 (0, 0)) (by (with_reducible repeat (first | refine kN ?_ _ | refine kD ?_ | refine kA ?_ _)); exact BK101.out)) : gb123 ≠ gb101)); have n13_ := Aside0.mk ((by rw [hg]; exact Nat.ne_of_lt (blk_lt (g := gb112) (o := .cells #[.int .i64 t107, .slice Ao22 t108.length co22] 24 (0, 0)) (by (with_reducible repeat (first | refine kN ?_ _ | refine kD ?_ | refine kA ?_ _)); exact BK112.out)) : gb112 ≠ gb123)); have n14_ := Aside0.mk ((by rw [hg]; exact Nat.ne_of_gt (blk_lt (g := gb112) (o := .cells #[.int .i64 t107, .slice Ao22 t108.length co22] 24 (0, 0)) (by (with_reducible repeat (first | refine kN ?_ _ | refine kD ?_ | refine kA ?_ _)); exact BK112.out)) : gb123 ≠ gb112)); have n15_ := Aside0.mk ((by rw [hg]; exact Nat.ne_of_lt (blk_lt (g := gb117) (o := .cells #[.int .i64 t113, .slice Ao29 t114.length co29] 24 (0, 0)) (by (with_reducible repeat (first | refine kN ?_ _ | refine kD ?_ | refine kA ?_ _)); exact BK117.out)) : gb117 ≠ gb123)); have n16_ := Aside0.mk ((by rw [hg]; exact Nat.ne_of_gt (blk_lt (g := gb117) (o := .cells #[.int .i64 t113, .slice Ao29 t114.length co29] 24 (0, 0)) (by (with_reducible repeat (first | refine kN ?_ _ | refine kD ?_ | refine kA ?_ _)); exact BK117.out)) : gb123 ≠ gb117)); clear HO106; clear HO110; clear HO116; clear HO121; clear BK101; clear BK112; clear BK117; clear HB; have HO106 := n0_; have HO110 := n1_; have HO116 := n2_; have HO121 := n3_; have BK101 := n4_; have BK112 := n5_; have BK117 := n6_; have HB := n7_; have BK123 := n8_; have GW123 := n9_; have GE123 := n10_; have NB101_123 := n11_; have NB123_101 := n12_; have NB112_123 := n13_; have NB123_112 := n14_; have NB117_123 := n15_; have NB123_117 := n16_; clear n0_ n1_ n2_ n3_ n4_ n5_ n6_ n7_ n8_ n9_ n10_ n11_ n12_ n13_ n14_ n15_ n16_; clear hb hbox hg; have hnb32 := NB123_101.out; have hnc32 := NB101_123.out; have hnb33 := NB123_112.out; have hnc33 := NB112_123.out; have hnb34 := NB123_117.out; have hnc34 := NB117_123.out; have hcz35_0 : w31.cell? ⟨gb123, 0, none⟩ = some (.int .i64 0) := (blk_cell BK123.out 0).trans rfl; have hcz35_1 : w31.cell? ⟨gb123, 1, none⟩ = some (.slice none 0 0) := (blk_cell BK123.out 1).trans rfl; have hfz35_0 := blk_frozen BK123.out 0; have hfz35_1 := blk_frozen BK123.out 1; obtain ⟨Ao36, co36, eo36⟩ := Kd.R_slice HO121.out; subst eo36))
  (try simp only [Act.put, sA, sZ, sS])
  go_cut [40] (fun v40 wc => ∃ (kq : Nat) (x40_10 : Bool), v40 = .bool x40_10 ∧ Aside0 (laws_FnExactLowerWeights.j0 kq t111 t122 x40_10 a0_0 l0_1 t107 t108 t113 t114 t118 t119 = some r) ∧ Aside0 (kq ≤ k) ∧ Aside0 (Kd.R (Kd.int .i64) 3 wc w.heap.size (fun k_ => some k_ ≠ ((.slice Ao29 t114.length co29) : Value).ownBlock ∧ some k_ ≠ ((.slice Ao36 t119.length co36) : Value).ownBlock) (.slice Ao22 t108.length co22) t108) ∧ Aside0 (Kd.R (Kd.int .i64) 3 wc w.heap.size (fun k_ => some k_ ≠ ((.slice Ao22 t108.length co22) : Value).ownBlock ∧ some k_ ≠ ((.slice Ao36 t119.length co36) : Value).ownBlock) (.slice Ao29 t114.length co29) t114) ∧ Aside0 (Kd.R (Kd.int .i64) 3 wc w.heap.size (fun k_ => some k_ ≠ ((.slice Ao22 t108.length co22) : Value).ownBlock ∧ some k_ ≠ ((.slice Ao29 t114.length co29) : Value).ownBlock) (.slice Ao36 t119.length co36) t119) ∧ Aside0 (wc.heap[gb101]? = some (.cells #[.int .i64 a0_0, (.slice A0_1 l0_1.length c0_1)] 30 (0, 0))) ∧ Aside0 (wc.heap[gb112]? = some (.cells #[.int .i64 t107, (.slice Ao22 t108.length co22)] 24 (0, 0))) ∧ Aside0 (wc.heap[gb117]? = some (.cells #[.int .i64 t113, (.slice Ao29 t114.length co29)] 24 (0, 0))) ∧ Aside0 (wc.heap[gb123]? = some (.cells #[.int .i64 t118, (.slice Ao36 t119.length co36)] 24 (0, 0))) ∧ Aside0 (Below w.heap.size w wc))
  case first =>
   have H := HC11.out
   clear HC11
   replace H := oB H
   obtain ⟨t124, A370, H⟩ := H
   replace H : (if t124 = true then (laws_FnExactLowerWeights.j0 k t111 t122 (t122 != t111) a0_0 l0_1 t107 t108 t113 t114 t118 t119) else (laws_FnExactLowerWeights.j0 k t111 t122 true a0_0 l0_1 t107 t108 t113 t114 t118 t119)) = some r := H
   have A37 := Aside0.mk A370
   clear A370
   by_cases c38 : t124 = true
   ·subst c38
    have H1 : (laws_FnExactLowerWeights.j0 k t111 t122 (t122 != t111) a0_0 l0_1 t107 t108 t113 t114 t118 t119) = some r := by rw [if_pos rfl] at H; exact H
    clear H
    have H := H1
    clear H1
    have H' := Aside0.mk H
    clear H
    have hnb39 := NB123_101.out
    have hnc39 := NB101_123.out
    have hnb40 := NB123_112.out
    have hnc40 := NB112_123.out
    have hnb41 := NB123_117.out
    have hnc41 := NB117_123.out
    have hcz42_0 : w31.cell? ⟨gb123, 0, none⟩ = some (.int .i64 0) := (blk_cell BK123.out 0).trans rfl
    have hcz42_1 : w31.cell? ⟨gb123, 1, none⟩ = some (.slice none 0 0) := (blk_cell BK123.out 1).trans rfl
    have hfz42_0 := blk_frozen BK123.out 0
    have hfz42_1 := blk_frozen BK123.out 1
    have hnb43 := NB112_101.out
    have hnc43 := NB101_112.out
    have hnb44 := NB112_117.out
    have hnc44 := NB117_112.out
    have hcz45_0 : w31.cell? ⟨gb112, 0, none⟩ = some (.int .i64 t107) := (blk_cell BK112.out 0).trans rfl
    have hcz45_1 : w31.cell? ⟨gb112, 1, none⟩ = some (.slice Ao22 t108.length co22) := (blk_cell BK112.out 1).trans rfl
    have hfz45_0 := blk_frozen BK112.out 0
    have hfz45_1 := blk_frozen BK112.out 1
    go_wp2_with (first | ((with_reducible refine gate_callee (f := 11) rfl ?_); refine goesL_ (some 34) rfl rfl Try.func11 (by kernel_rfl) rfl #[.agg #[.int .i64 t118, .slice Ao36 t119.length co36], .agg #[.int .i64 t107, .slice Ao22 t108.length co22]] rfl (by (try simp only [mA, mC, mN]); first | done | rfl | (simp only [List.length_drop, List.length_take]; rfl)) ?_; (with_reducible refine (laws_eqCommittee.calls k t118 _ _ t119 t107 _ _ t108 true _ ?side1 ?side2 ?side3 ?side4 A37.out).mono ?_); (case side1 => refine (Kd.R_reads' (e := 3) (base := w.heap.size) (ok := fun k_ => (((True ∧ some k_ ≠ (.slice Ao17 t104.length co17 : Value).ownBlock) ∧ some k_ ≠ (.slice Ao22 t108.length co22 : Value).ownBlock) ∧ some k_ ≠ (.slice Ao29 t114.length co29 : Value).ownBlock)) (n := t119.length) (c := co36) ?_).2.2; exact (by (with_reducible repeat (first | apply qA | apply qN | apply qD)); exact (Kd.R_mono (Kd.R_far (p := ⟨gb123, 1, none⟩) (Kd.R_far (p := ⟨gb123, 0, none⟩) (Kd.R_types HO121.out BK123.out (by decide)) (fun _ hk => hk.2) (.int .i64 t118)) (fun _ hk => hk.2) (.slice Ao36 t119.length co36)) (fun _ h_ => h_.1)))); (case side2 => exact (Kd.R_reads' HO121.out).2.1); (case side3 => refine (Kd.R_reads' (e := 3) (base := w.heap.size) (ok := fun k_ => (((True ∧ some k_ ≠ (.slice Ao17 t104.length co17 : Value).ownBlock) ∧ some k_ ≠ (.slice Ao29 t114.length co29 : Value).ownBlock) ∧ some k_ ≠ (.slice Ao36 t119.length co36 : Value).ownBlock)) (n := t108.length) (c := co22) ?_).2.2; exact (by (with_reducible repeat (first | apply qA | apply qN | apply qD)); exact (Kd.R_mono (Kd.R_far (p := ⟨gb123, 1, none⟩) (Kd.R_far (p := ⟨gb123, 0, none⟩) (Kd.R_types HO110.out BK123.out (by decide)) (fun _ hk => hk.2) (.int .i64 t118)) (fun _ hk => hk.2) (.slice Ao36 t119.length co36)) (fun _ h_ => h_.1)))); (case side4 => exact (Kd.R_reads' HO110.out).2.1); rintro e w46 ⟨rfl, hb⟩; refine ⟨_, rfl, ?_⟩; have n0_ := Aside0.mk (Kd.R_below (by (with_reducible repeat (first | apply qA | apply qN | apply qD)); exact (Kd.R_mono (Kd.R_far (p := ⟨gb123, 1, none⟩) (Kd.R_far (p := ⟨gb123, 0, none⟩) (Kd.R_types HO106.out BK123.out (by decide)) (fun _ hk => hk.2) (.int .i64 t118)) (fun _ hk => hk.2) (.slice Ao36 t119.length co36)) (fun _ h_ => h_.1))) hb); have n1_ := Aside0.mk (Kd.R_below (by (with_reducible repeat (first | apply qA | apply qN | apply qD)); exact (Kd.R_mono (Kd.R_far (p := ⟨gb123, 1, none⟩) (Kd.R_far (p := ⟨gb123, 0, none⟩) (Kd.R_types HO110.out BK123.out (by decide)) (fun _ hk => hk.2) (.int .i64 t118)) (fun _ hk => hk.2) (.slice Ao36 t119.length co36)) (fun _ h_ => h_.1))) hb); have n2_ := Aside0.mk (Kd.R_below (by (with_reducible repeat (first | apply qA | apply qN | apply qD)); exact (Kd.R_mono (Kd.R_far (p := ⟨gb123, 1, none⟩) (Kd.R_far (p := ⟨gb123, 0, none⟩) (Kd.R_types HO116.out BK123.out (by decide)) (fun _ hk => hk.2) (.int .i64 t118)) (fun _ hk => hk.2) (.slice Ao36 t119.length co36)) (fun _ h_ => h_.1))) hb); have n3_ := Aside0.mk (Kd.R_below (by (with_reducible repeat (first | apply qA | apply qN | apply qD)); exact (Kd.R_mono (Kd.R_far (p := ⟨gb123, 1, none⟩) (Kd.R_far (p := ⟨gb123, 0, none⟩) (Kd.R_types HO121.out BK123.out (by decide)) (fun _ hk => hk.2) (.int .i64 t118)) (fun _ hk => hk.2) (.slice Ao36 t119.length co36)) (fun _ h_ => h_.1))) hb); have n4_ := Aside0.mk (blk_below (g := gb101) (o := .cells #[.int .i64 a0_0, .slice A0_1 l0_1.length c0_1] 30 (0, 0)) (by (with_reducible repeat (first | refine kN ?_ _ | refine kD ?_ | refine kA ?_ _)); refine blk_far ?_ NB101_123.out _; (with_reducible repeat (first | refine kN ?_ _ | refine kD ?_ | refine kA ?_ _)); refine blk_far ?_ NB101_123.out _; (with_reducible repeat (first | refine kN ?_ _ | refine kD ?_ | refine kA ?_ _)); exact BK101.out) hb); have n5_ := Aside0.mk (blk_below (g := gb112) (o := .cells #[.int .i64 t107, .slice Ao22 t108.length co22] 24 (0, 0)) (by (with_reducible repeat (first | refine kN ?_ _ | refine kD ?_ | refine kA ?_ _)); refine blk_far ?_ NB112_123.out _; (with_reducible repeat (first | refine kN ?_ _ | refine kD ?_ | refine kA ?_ _)); refine blk_far ?_ NB112_123.out _; (with_reducible repeat (first | refine kN ?_ _ | refine kD ?_ | refine kA ?_ _)); exact BK112.out) hb); have n6_ := Aside0.mk (blk_below (g := gb117) (o := .cells #[.int .i64 t113, .slice Ao29 t114.length co29] 24 (0, 0)) (by (with_reducible repeat (first | refine kN ?_ _ | refine kD ?_ | refine kA ?_ _)); refine blk_far ?_ NB117_123.out _; (with_reducible repeat (first | refine kN ?_ _ | refine kD ?_ | refine kA ?_ _)); refine blk_far ?_ NB117_123.out _; (with_reducible repeat (first | refine kN ?_ _ | refine kD ?_ | refine kA ?_ _)); exact BK117.out) hb); have n7_ := Aside0.mk (blk_below (g := gb123) (o := .cells #[.int .i64 t118, .slice Ao36 t119.length co36] 24 (0, 0)) (by (with_reducible repeat (first | refine kN ?_ _ | refine kD ?_ | refine kA ?_ _)); refine blk_put (cs := #[.int .i64 t118, .slice none 0 0]) ?_ 1 _ rfl; (with_reducible repeat (first | refine kN ?_ _ | refine kD ?_ | refine kA ?_ _)); refine blk_put (cs := #[.int .i64 0, .slice none 0 0]) ?_ 0 _ rfl; (with_reducible repeat (first | refine kN ?_ _ | refine kD ?_ | refine kA ?_ _)); exact BK123.out) hb); have n8_ := Aside0.mk (below_step (by repeat (first | (with_reducible first | exact HB.out | apply ba | apply bd | apply be | refine bs ?_ GE101.out | refine bs ?_ GE112.out | refine bs ?_ GE117.out | refine bs ?_ GE123.out) | exact HB.out)) hb); clear HO106; clear HO110; clear HO116; clear HO121; clear BK101; clear BK112; clear BK117; clear BK123; clear HB; have HO106 := n0_; have HO110 := n1_; have HO116 := n2_; have HO121 := n3_; have BK101 := n4_; have BK112 := n5_; have BK117 := n6_; have BK123 := n7_; have HB := n8_; clear n0_ n1_ n2_ n3_ n4_ n5_ n6_ n7_ n8_; (try clear hb); (try clear hb2); (try clear hk); (try clear hi)))
    go_meet
    case rel => exact ⟨_, ((t122 != t111)), (by first | rfl | (simp; done) | (simp [*]; done)), H', ⟨by first | omega | exact Nat.le_refl _⟩, ⟨by (with_reducible repeat (first | apply qA | apply qN | apply qD)); exact Kd.R_mono HO110.out (fun _ hk => ⟨hk.1.2, hk.2⟩)⟩, ⟨by (with_reducible repeat (first | apply qA | apply qN | apply qD)); exact Kd.R_mono HO116.out (fun _ hk => ⟨hk.1.2, hk.2⟩)⟩, ⟨by (with_reducible repeat (first | apply qA | apply qN | apply qD)); exact Kd.R_mono HO121.out (fun _ hk => ⟨hk.1.2, hk.2⟩)⟩, ⟨by (with_reducible repeat (first | refine kN ?_ _ | refine kD ?_ | refine kA ?_ _)); exact BK101.out⟩, ⟨by (with_reducible repeat (first | refine kN ?_ _ | refine kD ?_ | refine kA ?_ _)); exact BK112.out⟩, ⟨by (with_reducible repeat (first | refine kN ?_ _ | refine kD ?_ | refine kA ?_ _)); exact BK117.out⟩, ⟨by (with_reducible repeat (first | refine kN ?_ _ | refine kD ?_ | refine kA ?_ _)); exact BK123.out⟩, ⟨by repeat (first | (with_reducible first | exact HB.out | apply ba | apply bd | apply be | refine bs ?_ GE101.out | refine bs ?_ GE112.out | refine bs ?_ GE117.out | refine bs ?_ GE123.out) | exact HB.out)⟩⟩
   ·replace c38 := Bool.eq_false_iff.mpr c38
    subst c38
    have H1 : (laws_FnExactLowerWeights.j0 k t111 t122 true a0_0 l0_1 t107 t108 t113 t114 t118 t119) = some r := by rw [if_neg (show ¬ (false = true) by decide)] at H; exact H
    clear H
    have H := H1
    clear H1
    have H' := Aside0.mk H
    clear H
    have hnb47 := NB123_101.out
    have hnc47 := NB101_123.out
    have hnb48 := NB123_112.out
    have hnc48 := NB112_123.out
    have hnb49 := NB123_117.out
    have hnc49 := NB117_123.out
    have hcz50_0 : w31.cell? ⟨gb123, 0, none⟩ = some (.int .i64 0) := (blk_cell BK123.out 0).trans rfl
    have hcz50_1 : w31.cell? ⟨gb123, 1, none⟩ = some (.slice none 0 0) := (blk_cell BK123.out 1).trans rfl
    have hfz50_0 := blk_frozen BK123.out 0
    have hfz50_1 := blk_frozen BK123.out 1
    have hnb51 := NB112_101.out
    have hnc51 := NB101_112.out
    have hnb52 := NB112_117.out
    have hnc52 := NB117_112.out
    have hcz53_0 : w31.cell? ⟨gb112, 0, none⟩ = some (.int .i64 t107) := (blk_cell BK112.out 0).trans rfl
    have hcz53_1 : w31.cell? ⟨gb112, 1, none⟩ = some (.slice Ao22 t108.length co22) := (blk_cell BK112.out 1).trans rfl
    have hfz53_0 := blk_frozen BK112.out 0
    have hfz53_1 := blk_frozen BK112.out 1
    go_wp2_with (first | ((with_reducible refine gate_callee (f := 11) rfl ?_); refine goesL_ (some 34) rfl rfl Try.func11 (by kernel_rfl) rfl #[.agg #[.int .i64 t118, .slice Ao36 t119.length co36], .agg #[.int .i64 t107, .slice Ao22 t108.length co22]] rfl (by (try simp only [mA, mC, mN]); first | done | rfl | (simp only [List.length_drop, List.length_take]; rfl)) ?_; (with_reducible refine (laws_eqCommittee.calls k t118 _ _ t119 t107 _ _ t108 false _ ?side1 ?side2 ?side3 ?side4 A37.out).mono ?_); (case side1 => refine (Kd.R_reads' (e := 3) (base := w.heap.size) (ok := fun k_ => (((True ∧ some k_ ≠ (.slice Ao17 t104.length co17 : Value).ownBlock) ∧ some k_ ≠ (.slice Ao22 t108.length co22 : Value).ownBlock) ∧ some k_ ≠ (.slice Ao29 t114.length co29 : Value).ownBlock)) (n := t119.length) (c := co36) ?_).2.2; exact (by (with_reducible repeat (first | apply qA | apply qN | apply qD)); exact (Kd.R_mono (Kd.R_far (p := ⟨gb123, 1, none⟩) (Kd.R_far (p := ⟨gb123, 0, none⟩) (Kd.R_types HO121.out BK123.out (by decide)) (fun _ hk => hk.2) (.int .i64 t118)) (fun _ hk => hk.2) (.slice Ao36 t119.length co36)) (fun _ h_ => h_.1)))); (case side2 => exact (Kd.R_reads' HO121.out).2.1); (case side3 => refine (Kd.R_reads' (e := 3) (base := w.heap.size) (ok := fun k_ => (((True ∧ some k_ ≠ (.slice Ao17 t104.length co17 : Value).ownBlock) ∧ some k_ ≠ (.slice Ao29 t114.length co29 : Value).ownBlock) ∧ some k_ ≠ (.slice Ao36 t119.length co36 : Value).ownBlock)) (n := t108.length) (c := co22) ?_).2.2; exact (by (with_reducible repeat (first | apply qA | apply qN | apply qD)); exact (Kd.R_mono (Kd.R_far (p := ⟨gb123, 1, none⟩) (Kd.R_far (p := ⟨gb123, 0, none⟩) (Kd.R_types HO110.out BK123.out (by decide)) (fun _ hk => hk.2) (.int .i64 t118)) (fun _ hk => hk.2) (.slice Ao36 t119.length co36)) (fun _ h_ => h_.1)))); (case side4 => exact (Kd.R_reads' HO110.out).2.1); rintro e w54 ⟨rfl, hb⟩; refine ⟨_, rfl, ?_⟩; have n0_ := Aside0.mk (Kd.R_below (by (with_reducible repeat (first | apply qA | apply qN | apply qD)); exact (Kd.R_mono (Kd.R_far (p := ⟨gb123, 1, none⟩) (Kd.R_far (p := ⟨gb123, 0, none⟩) (Kd.R_types HO106.out BK123.out (by decide)) (fun _ hk => hk.2) (.int .i64 t118)) (fun _ hk => hk.2) (.slice Ao36 t119.length co36)) (fun _ h_ => h_.1))) hb); have n1_ := Aside0.mk (Kd.R_below (by (with_reducible repeat (first | apply qA | apply qN | apply qD)); exact (Kd.R_mono (Kd.R_far (p := ⟨gb123, 1, none⟩) (Kd.R_far (p := ⟨gb123, 0, none⟩) (Kd.R_types HO110.out BK123.out (by decide)) (fun _ hk => hk.2) (.int .i64 t118)) (fun _ hk => hk.2) (.slice Ao36 t119.length co36)) (fun _ h_ => h_.1))) hb); have n2_ := Aside0.mk (Kd.R_below (by (with_reducible repeat (first | apply qA | apply qN | apply qD)); exact (Kd.R_mono (Kd.R_far (p := ⟨gb123, 1, none⟩) (Kd.R_far (p := ⟨gb123, 0, none⟩) (Kd.R_types HO116.out BK123.out (by decide)) (fun _ hk => hk.2) (.int .i64 t118)) (fun _ hk => hk.2) (.slice Ao36 t119.length co36)) (fun _ h_ => h_.1))) hb); have n3_ := Aside0.mk (Kd.R_below (by (with_reducible repeat (first | apply qA | apply qN | apply qD)); exact (Kd.R_mono (Kd.R_far (p := ⟨gb123, 1, none⟩) (Kd.R_far (p := ⟨gb123, 0, none⟩) (Kd.R_types HO121.out BK123.out (by decide)) (fun _ hk => hk.2) (.int .i64 t118)) (fun _ hk => hk.2) (.slice Ao36 t119.length co36)) (fun _ h_ => h_.1))) hb); have n4_ := Aside0.mk (blk_below (g := gb101) (o := .cells #[.int .i64 a0_0, .slice A0_1 l0_1.length c0_1] 30 (0, 0)) (by (with_reducible repeat (first | refine kN ?_ _ | refine kD ?_ | refine kA ?_ _)); refine blk_far ?_ NB101_123.out _; (with_reducible repeat (first | refine kN ?_ _ | refine kD ?_ | refine kA ?_ _)); refine blk_far ?_ NB101_123.out _; (with_reducible repeat (first | refine kN ?_ _ | refine kD ?_ | refine kA ?_ _)); exact BK101.out) hb); have n5_ := Aside0.mk (blk_below (g := gb112) (o := .cells #[.int .i64 t107, .slice Ao22 t108.length co22] 24 (0, 0)) (by (with_reducible repeat (first | refine kN ?_ _ | refine kD ?_ | refine kA ?_ _)); refine blk_far ?_ NB112_123.out _; (with_reducible repeat (first | refine kN ?_ _ | refine kD ?_ | refine kA ?_ _)); refine blk_far ?_ NB112_123.out _; (with_reducible repeat (first | refine kN ?_ _ | refine kD ?_ | refine kA ?_ _)); exact BK112.out) hb); have n6_ := Aside0.mk (blk_below (g := gb117) (o := .cells #[.int .i64 t113, .slice Ao29 t114.length co29] 24 (0, 0)) (by (with_reducible repeat (first | refine kN ?_ _ | refine kD ?_ | refine kA ?_ _)); refine blk_far ?_ NB117_123.out _; (with_reducible repeat (first | refine kN ?_ _ | refine kD ?_ | refine kA ?_ _)); refine blk_far ?_ NB117_123.out _; (with_reducible repeat (first | refine kN ?_ _ | refine kD ?_ | refine kA ?_ _)); exact BK117.out) hb); have n7_ := Aside0.mk (blk_below (g := gb123) (o := .cells #[.int .i64 t118, .slice Ao36 t119.length co36] 24 (0, 0)) (by (with_reducible repeat (first | refine kN ?_ _ | refine kD ?_ | refine kA ?_ _)); refine blk_put (cs := #[.int .i64 t118, .slice none 0 0]) ?_ 1 _ rfl; (with_reducible repeat (first | refine kN ?_ _ | refine kD ?_ | refine kA ?_ _)); refine blk_put (cs := #[.int .i64 0, .slice none 0 0]) ?_ 0 _ rfl; (with_reducible repeat (first | refine kN ?_ _ | refine kD ?_ | refine kA ?_ _)); exact BK123.out) hb); have n8_ := Aside0.mk (below_step (by repeat (first | (with_reducible first | exact HB.out | apply ba | apply bd | apply be | refine bs ?_ GE101.out | refine bs ?_ GE112.out | refine bs ?_ GE117.out | refine bs ?_ GE123.out) | exact HB.out)) hb); clear HO106; clear HO110; clear HO116; clear HO121; clear BK101; clear BK112; clear BK117; clear BK123; clear HB; have HO106 := n0_; have HO110 := n1_; have HO116 := n2_; have HO121 := n3_; have BK101 := n4_; have BK112 := n5_; have BK117 := n6_; have BK123 := n7_; have HB := n8_; clear n0_ n1_ n2_ n3_ n4_ n5_ n6_ n7_ n8_; (try clear hb); (try clear hb2); (try clear hk); (try clear hi)))
    go_meet
    case rel => exact ⟨_, (true), (by first | rfl | (simp; done) | (simp [*]; done)), H', ⟨by first | omega | exact Nat.le_refl _⟩, ⟨by (with_reducible repeat (first | apply qA | apply qN | apply qD)); exact Kd.R_mono HO110.out (fun _ hk => ⟨hk.1.2, hk.2⟩)⟩, ⟨by (with_reducible repeat (first | apply qA | apply qN | apply qD)); exact Kd.R_mono HO116.out (fun _ hk => ⟨hk.1.2, hk.2⟩)⟩, ⟨by (with_reducible repeat (first | apply qA | apply qN | apply qD)); exact Kd.R_mono HO121.out (fun _ hk => ⟨hk.1.2, hk.2⟩)⟩, ⟨by (with_reducible repeat (first | refine kN ?_ _ | refine kD ?_ | refine kA ?_ _)); exact BK101.out⟩, ⟨by (with_reducible repeat (first | refine kN ?_ _ | refine kD ?_ | refine kA ?_ _)); exact BK112.out⟩, ⟨by (with_reducible repeat (first | refine kN ?_ _ | refine kD ?_ | refine kA ?_ _)); exact BK117.out⟩, ⟨by (with_reducible repeat (first | refine kN ?_ _ | refine kD ?_ | refine kA ?_ _)); exact BK123.out⟩, ⟨by repeat (first | (with_reducible first | exact HB.out | apply ba | apply bd | apply be | refine bs ?_ GE101.out | refine bs ?_ GE112.out | refine bs ?_ GE117.out | refine bs ?_ GE123.out) | exact HB.out)⟩⟩
  case rest =>
   clear HC11
   try clear c1
   try clear c2
   try clear p2
   try clear c3
   try clear c3b0
   try clear c4
   try clear c5
   try clear c8
   try clear c11
   try clear c14
   try clear c16
   try clear c20
   try clear c24
   try clear c25
   try clear c26
   try clear c27
   try clear c32
   try clear c33
   try clear c34
   try clear c38
   try clear c39
   try clear c40
   try clear c41
   try clear c43
   try clear c44
   try clear c47
   try clear c48
   try clear c49
   try clear c51
   try clear c52
   try clear hcz13_0
   try clear hcz13_1
   try clear hcz15_0
   try clear hcz15_1
   try clear hcz21_0
   try clear hcz21_1
   try clear hcz23_0
   try clear hcz23_1
   try clear hcz28_0
   try clear hcz28_1
   try clear hcz35_0
   try clear hcz35_1
   try clear hcz42_0
   try clear hcz42_1
   try clear hcz45_0
   try clear hcz45_1
   try clear hcz50_0
   try clear hcz50_1
   try clear hcz53_0
   try clear hcz53_1
   try clear hcz5_0
   try clear hcz5_1
   try clear hfz13_0
   try clear hfz13_1
   try clear hfz15_0
   try clear hfz15_1
   try clear hfz21_0
   try clear hfz21_1
   try clear hfz23_0
   try clear hfz23_1
   try clear hfz28_0
   try clear hfz28_1
   try clear hfz35_0
   try clear hfz35_1
   try clear hfz42_0
   try clear hfz42_1
   try clear hfz45_0
   try clear hfz45_1
   try clear hfz50_0
   try clear hfz50_1
   try clear hfz53_0
   try clear hfz53_1
   try clear hfz5_0
   try clear hfz5_1
   obtain ⟨kq, x40_10, rfl, HA, HJ10, HO_113001, HO_118001, HO_124001, BK101, BK112, BK117, BK123, HB⟩ := hcut
   cases kq with
   | zero => exact absurd HA.out (by simp [laws_FnExactLowerWeights.j0])
   | succ kj10 =>
    have H := HA.out
    clear HA
    simp only [laws_FnExactLowerWeights.j0] at H
    by_cases c55 : x40_10 = true
    ·subst c55
     have H1 : (some false) = some r := by rw [if_pos rfl] at H; exact H
     clear H
     have H := H1
     clear H1
     obtain rfl := Option.some.inj H
     go_wp2
     go_ret
     exact ⟨by first | rfl | (simp <;> rfl) | (simp [*] <;> rfl), by repeat (first | (with_reducible first | exact HB.out | apply ba | apply bd | apply be | refine bs ?_ GE101.out | refine bs ?_ GE112.out | refine bs ?_ GE117.out | refine bs ?_ GE123.out) | exact HB.out)⟩
    ·replace c55 := Bool.eq_false_iff.mpr c55
     subst c55
     have H1 : ((laws_toCommittee.f kj10 a0_0 l0_1).bind fun bt125 => ((laws_eqCommittee.f kj10 t113 t114 bt125.1 bt125.2).bind fun t129 => (if t129 = true then ((laws_markCommittee.f kj10 t113 t114 1).bind fun bt130 => (if bt130.1 < 0 then (laws_FnExactLowerWeights.j1 kj10 t111 true a0_0 l0_1 t107 t108 t118 t119) else ((laws_eqCommittee.f kj10 t118 t119 t107 t108).bind fun t132 => (if t132 = true then (laws_FnExactLowerWeights.j1 kj10 t111 (t122 != t111) a0_0 l0_1 t107 t108 t118 t119) else (laws_FnExactLowerWeights.j1 kj10 t111 true a0_0 l0_1 t107 t108 t118 t119))))) else (some false)))) = some r := by rw [if_neg (show ¬ (false = true) by decide)] at H; exact H
     clear H
     have H := H1
     clear H1
     replace H := oB H
     obtain ⟨⟨t125, t126⟩, A560, H⟩ := H
     replace H : ((laws_eqCommittee.f kj10 t113 t114 t125 t126).bind fun t129 => (if t129 = true then ((laws_markCommittee.f kj10 t113 t114 1).bind fun bt130 => (if bt130.1 < 0 then (laws_FnExactLowerWeights.j1 kj10 t111 true a0_0 l0_1 t107 t108 t118 t119) else ((laws_eqCommittee.f kj10 t118 t119 t107 t108).bind fun t132 => (if t132 = true then (laws_FnExactLowerWeights.j1 kj10 t111 (t122 != t111) a0_0 l0_1 t107 t108 t118 t119) else (laws_FnExactLowerWeights.j1 kj10 t111 true a0_0 l0_1 t107 t108 t118 t119))))) else (some false))) = some r := H
     have A56 := Aside0.mk A560
     clear A560
     replace H := oB H
     obtain ⟨t129, A570, H⟩ := H
     replace H : (if t129 = true then ((laws_markCommittee.f kj10 t113 t114 1).bind fun bt130 => (if bt130.1 < 0 then (laws_FnExactLowerWeights.j1 kj10 t111 true a0_0 l0_1 t107 t108 t118 t119) else ((laws_eqCommittee.f kj10 t118 t119 t107 t108).bind fun t132 => (if t132 = true then (laws_FnExactLowerWeights.j1 kj10 t111 (t122 != t111) a0_0 l0_1 t107 t108 t118 t119) else (laws_FnExactLowerWeights.j1 kj10 t111 true a0_0 l0_1 t107 t108 t118 t119))))) else (some false)) = some r := H
     have A57 := Aside0.mk A570
     clear A570
     by_cases c58 : t129 = true
     ·subst c58
      have H1 : ((laws_markCommittee.f kj10 t113 t114 1).bind fun bt130 => (if bt130.1 < 0 then (laws_FnExactLowerWeights.j1 kj10 t111 true a0_0 l0_1 t107 t108 t118 t119) else ((laws_eqCommittee.f kj10 t118 t119 t107 t108).bind fun t132 => (if t132 = true then (laws_FnExactLowerWeights.j1 kj10 t111 (t122 != t111) a0_0 l0_1 t107 t108 t118 t119) else (laws_FnExactLowerWeights.j1 kj10 t111 true a0_0 l0_1 t107 t108 t118 t119))))) = some r := by rw [if_pos rfl] at H; exact H
      clear H
      have H := H1
      clear H1
      replace H := oB H
      obtain ⟨⟨t130, t131⟩, A590, H⟩ := H
      replace H : (if t130 < 0 then (laws_FnExactLowerWeights.j1 kj10 t111 true a0_0 l0_1 t107 t108 t118 t119) else ((laws_eqCommittee.f kj10 t118 t119 t107 t108).bind fun t132 => (if t132 = true then (laws_FnExactLowerWeights.j1 kj10 t111 (t122 != t111) a0_0 l0_1 t107 t108 t118 t119) else (laws_FnExactLowerWeights.j1 kj10 t111 true a0_0 l0_1 t107 t108 t118 t119)))) = some r := H
      have A59 := Aside0.mk A590
      clear A590
      have HC60 := Aside0.mk H
      clear H
      try go_wp2
      have n0_ := Aside0.mk (Kd.R_drew HO_113001.out)
      have n1_ := Aside0.mk (Kd.R_drew HO_118001.out)
      have n2_ := Aside0.mk (Kd.R_drew HO_124001.out)
      have n3_ := Aside0.mk (blk_drew BK101.out)
      have n4_ := Aside0.mk (blk_drew BK112.out)
      have n5_ := Aside0.mk (blk_drew BK117.out)
      have n6_ := Aside0.mk (blk_drew BK123.out)
      have n7_ := Aside0.mk (below_drew1 HB.out)
      clear HO_113001
      clear HO_118001
      clear HO_124001
      clear BK101
      clear BK112
      clear BK117
      clear BK123
      clear HB
      have HO_113001 := n0_
      have HO_118001 := n1_
      have HO_124001 := n2_
      have BK101 := n3_
      have BK112 := n4_
      have BK117 := n5_
      have BK123 := n6_
      have HB := n7_
      clear n0_ n1_ n2_ n3_ n4_ n5_ n6_ n7_
      refine start_ (n := 5) (S := fun w' => w'.cell? ⟨gb117, 0, none⟩ = some (.int .i64 t113) ∧ w'.cell? ⟨gb117, 1, none⟩ = some (.slice Ao29 t114.length co29) ∧ w'.cell? ⟨gb101, 0, none⟩ = some (.int .i64 a0_0) ∧ w'.cell? ⟨gb101, 1, none⟩ = some (.slice A0_1 l0_1.length c0_1)) (ds := []) #[false, false, false, false, false] (by kernel_rfl) rfl rfl ⟨(blk_cell BK117.out 0).trans rfl, (blk_cell BK117.out 1).trans rfl, (blk_cell BK101.out 0).trans rfl, (blk_cell BK101.out 1).trans rfl⟩ (fun hHeld => ?_)
      generalize wc.drew = w61 at HO_113001 HO_118001 HO_124001 BK101 BK112 BK117 BK123 HB hHeld ⊢
      refine take_ (i := 0) (N := some 41) (v := ?_) (a' := ?_) #[true, false, false, false, false] rfl rfl (by kernel_rfl) (fun _ _ _ h => h) (Or.inl ⟨by rfl, ?_⟩) hHeld ?_ ?_
      rotate_left
      ·rintro w' ⟨s0, s1, s2, s3⟩
       go_simp
       with_reducible rfl
      rotate_left
      ·simp only [Act.put, sA, sZ, sS, i64_w, i32_w]
       rfl
      refine take_ (i := 1) (N := some 42) (v := ?_) (a' := ?_) #[true, true, false, false, false] rfl rfl (by kernel_rfl) (fun _ _ _ h => h) (Or.inl ⟨by rfl, ?_⟩) hHeld ?_ ?_
      rotate_left
      ·rintro w' ⟨s0, s1, s2, s3⟩
       go_simp
       with_reducible rfl
      rotate_left
      ·simp only [Act.put, sA, sZ, sS, i64_w, i32_w]
       rfl
      refine one_ (i := 2) (N := some 43) #[true, true, true, false, false] rfl rfl (by kernel_rfl) (by decide) (fun K hK => ?_)
      refine goes_ Try.func16 (by kernel_rfl) rfl #[.agg #[.int .i64 a0_0, .slice A0_1 l0_1.length c0_1]] (by rfl) rfl rfl (by (try simp only [mA, mC, mN]); first | done | rfl | (simp only [List.length_drop, List.length_take]; rfl)) ?_
      with_reducible refine (laws_toCommittee.calls kj10 a0_0 _ _ l0_1 t125 t126 _ ?side1 ?side2 A56.out).mono ?_
      (case side1 => repeat (first | exact (Kd.C_below HR0_1.out HB.out) | (with_reducible refine Kd.C_alloc ?_ _) | (with_reducible refine Kd.C_drewN ?_ _) | (with_reducible refine Kd.C_drew ?_)))
      (case side2 => exact HC0_1.out)
      rintro e w62 ⟨v127, rfl, ho0, hb⟩
      refine ⟨_, rfl, ?_⟩
      have n0_ := Aside0.mk (Kd.R_elder' (by (with_reducible repeat (first | apply qA | apply qN | apply qD)); exact HO_113001.out) (Kd.R_base ho0) hb)
      have n1_ := Aside0.mk (Kd.R_elder' (by (with_reducible repeat (first | apply qA | apply qN | apply qD)); exact HO_118001.out) (Kd.R_base ho0) hb)
      have n2_ := Aside0.mk (Kd.R_elder' (by (with_reducible repeat (first | apply qA | apply qN | apply qD)); exact HO_124001.out) (Kd.R_base ho0) hb)
      have n3_ := Aside0.mk (Kd.R_lower (Kd.R_new' (Kd.R_new' (Kd.R_new' ho0 (Kd.R_lt (by (with_reducible repeat (first | apply qA | apply qN | apply qD)); exact HO_113001.out))) (Kd.R_lt (by (with_reducible repeat (first | apply qA | apply qN | apply qD)); exact HO_118001.out))) (Kd.R_lt (by (with_reducible repeat (first | apply qA | apply qN | apply qD)); exact HO_124001.out))) (below_size (by repeat (first | (with_reducible first | exact HB.out | apply ba | apply bd | apply be | refine bs ?_ GE101.out | refine bs ?_ GE112.out | refine bs ?_ GE117.out | refine bs ?_ GE123.out) | exact HB.out))))
      have n4_ := Aside0.mk (blk_below (g := gb101) (o := .cells #[.int .i64 a0_0, .slice A0_1 l0_1.length c0_1] 30 (0, 0)) (by (with_reducible repeat (first | refine kN ?_ _ | refine kD ?_ | refine kA ?_ _)); exact BK101.out) hb)
      have n5_ := Aside0.mk (blk_below (g := gb112) (o := .cells #[.int .i64 t107, .slice Ao22 t108.length co22] 24 (0, 0)) (by (with_reducible repeat (first | refine kN ?_ _ | refine kD ?_ | refine kA ?_ _)); exact BK112.out) hb)
      have n6_ := Aside0.mk (blk_below (g := gb117) (o := .cells #[.int .i64 t113, .slice Ao29 t114.length co29] 24 (0, 0)) (by (with_reducible repeat (first | refine kN ?_ _ | refine kD ?_ | refine kA ?_ _)); exact BK117.out) hb)
      have n7_ := Aside0.mk (blk_below (g := gb123) (o := .cells #[.int .i64 t118, .slice Ao36 t119.length co36] 24 (0, 0)) (by (with_reducible repeat (first | refine kN ?_ _ | refine kD ?_ | refine kA ?_ _)); exact BK123.out) hb)
      have n8_ := Aside0.mk (below_step (by repeat (first | (with_reducible first | exact HB.out | apply ba | apply bd | apply be | refine bs ?_ GE101.out | refine bs ?_ GE112.out | refine bs ?_ GE117.out | refine bs ?_ GE123.out) | exact HB.out)) hb)
      clear HO_113001
      clear HO_118001
      clear HO_124001
      clear BK101
      clear BK112
      clear BK117
      clear BK123
      clear HB
      have HO_113001 := n0_
      have HO_118001 := n1_
      have HO_124001 := n2_
      have HO128 := n3_
      have BK101 := n4_
      have BK112 := n5_
      have BK117 := n6_
      have BK123 := n7_
      have HB := n8_
      clear n0_ n1_ n2_ n3_ n4_ n5_ n6_ n7_ n8_
      (try clear hb)
      (try clear hb2)
      (try clear hk)
      (try clear hi)
      (try clear ho0)
      obtain ⟨Ao63, co63, eo63⟩ := Kd.R_slice HO128.out
      (first | subst eo63 | (injection eo63 with f1_ f2_ f3_; have f4_ := f1_.symm; have f5_ := f3_.symm; clear f1_ f2_ f3_; subst f4_; subst f5_))
      refine hK.out _ _ ⟨(blk_cell BK117.out 0).trans rfl, (blk_cell BK117.out 1).trans rfl, (blk_cell BK101.out 0).trans rfl, (blk_cell BK101.out 1).trans rfl⟩ (fun hHeld => ?_)
      clear hK K
      refine norm_ (a' := ?_) ?_ ?_
      rotate_left
      ·show Act.put _ (some 43) _ = _
       simp only [Act.put, sA, sZ, sS, i64_w, i32_w]
       rfl
      refine one_ (i := 3) (N := some 44) #[true, true, true, true, false] rfl rfl (by kernel_rfl) (by decide) (fun K hK => ?_)
      refine goes_ Try.func11 (by kernel_rfl) rfl #[.agg #[.int .i64 t113, .slice Ao29 t114.length co29], .agg #[.int .i64 t125, .slice Ao63 t126.length co63]] (by rfl) rfl rfl (by (try simp only [mA, mC, mN]); first | done | rfl | (simp only [List.length_drop, List.length_take]; rfl)) ?_
      with_reducible refine (laws_eqCommittee.calls kj10 t113 _ _ t114 t125 _ _ t126 true _ ?side1 ?side2 ?side3 ?side4 A57.out).mono ?_
      (case side1 => repeat (first | exact (Kd.R_reads' HO_118001.out).2.2 | (with_reducible refine Kd.C_alloc ?_ _) | (with_reducible refine Kd.C_drewN ?_ _) | (with_reducible refine Kd.C_drew ?_)))
      (case side2 => exact (Kd.R_reads' HO_118001.out).2.1)
      (case side3 => repeat (first | exact (Kd.R_reads' HO128.out).2.2 | (with_reducible refine Kd.C_alloc ?_ _) | (with_reducible refine Kd.C_drewN ?_ _) | (with_reducible refine Kd.C_drew ?_)))
      (case side4 => exact (Kd.R_reads' HO128.out).2.1)
      rintro e w64 ⟨rfl, hb⟩
      refine ⟨_, rfl, ?_⟩
      have n0_ := Aside0.mk (Kd.R_below (by (with_reducible repeat (first | apply qA | apply qN | apply qD)); exact HO_113001.out) hb)
      have n1_ := Aside0.mk (Kd.R_below (by (with_reducible repeat (first | apply qA | apply qN | apply qD)); exact HO_118001.out) hb)
      have n2_ := Aside0.mk (Kd.R_below (by (with_reducible repeat (first | apply qA | apply qN | apply qD)); exact HO_124001.out) hb)
      have n3_ := Aside0.mk (Kd.R_below (by (with_reducible repeat (first | apply qA | apply qN | apply qD)); exact HO128.out) hb)
      have n4_ := Aside0.mk (blk_below (g := gb101) (o := .cells #[.int .i64 a0_0, .slice A0_1 l0_1.length c0_1] 30 (0, 0)) (by (with_reducible repeat (first | refine kN ?_ _ | refine kD ?_ | refine kA ?_ _)); exact BK101.out) hb)
      have n5_ := Aside0.mk (blk_below (g := gb112) (o := .cells #[.int .i64 t107, .slice Ao22 t108.length co22] 24 (0, 0)) (by (with_reducible repeat (first | refine kN ?_ _ | refine kD ?_ | refine kA ?_ _)); exact BK112.out) hb)
      have n6_ := Aside0.mk (blk_below (g := gb117) (o := .cells #[.int .i64 t113, .slice Ao29 t114.length co29] 24 (0, 0)) (by (with_reducible repeat (first | refine kN ?_ _ | refine kD ?_ | refine kA ?_ _)); exact BK117.out) hb)
      have n7_ := Aside0.mk (blk_below (g := gb123) (o := .cells #[.int .i64 t118, .slice Ao36 t119.length co36] 24 (0, 0)) (by (with_reducible repeat (first | refine kN ?_ _ | refine kD ?_ | refine kA ?_ _)); exact BK123.out) hb)
      have n8_ := Aside0.mk (below_step (by repeat (first | (with_reducible first | exact HB.out | apply ba | apply bd | apply be | refine bs ?_ GE101.out | refine bs ?_ GE112.out | refine bs ?_ GE117.out | refine bs ?_ GE123.out) | exact HB.out)) hb)
      clear HO_113001
      clear HO_118001
      clear HO_124001
      clear HO128
      clear BK101
      clear BK112
      clear BK117
      clear BK123
      clear HB
      have HO_113001 := n0_
      have HO_118001 := n1_
      have HO_124001 := n2_
      have HO128 := n3_
      have BK101 := n4_
      have BK112 := n5_
      have BK117 := n6_
      have BK123 := n7_
      have HB := n8_
      clear n0_ n1_ n2_ n3_ n4_ n5_ n6_ n7_ n8_
      (try clear hb)
      (try clear hb2)
      (try clear hk)
      (try clear hi)
      refine hK.out _ _ ⟨(blk_cell BK117.out 0).trans rfl, (blk_cell BK117.out 1).trans rfl, (blk_cell BK101.out 0).trans rfl, (blk_cell BK101.out 1).trans rfl⟩ (fun hHeld => ?_)
      clear hK K
      refine norm_ (a' := ?_) ?_ ?_
      rotate_left
      ·show Act.put _ (some 44) _ = _
       simp only [Act.put, sA, sZ, sS, i64_w, i32_w]
       rfl
      refine pure_ (i := 4) (N := some 45) (v := ?_) (a' := ?_) #[true, true, true, true, true] rfl rfl (by kernel_rfl) (fun _ _ _ h => h) (Or.inl ⟨by rfl, ?_⟩) ?_ ?_
      rotate_left
      ·intro w'
       go_simp
       with_reducible rfl
      rotate_left
      ·simp only [Act.put, sA, sZ, sS, i64_w, i32_w]
       rfl
      refine done_ (by kernel_rfl) ?_
      have hnb65 := NB117_101.out
      have hnc65 := NB101_117.out
      have hnb66 := NB117_112.out
      have hnc66 := NB112_117.out
      have hnb67 := NB117_123.out
      have hnc67 := NB123_117.out
      have hcz68_0 : w64.cell? ⟨gb117, 0, none⟩ = some (.int .i64 t113) := (blk_cell BK117.out 0).trans rfl
      have hcz68_1 : w64.cell? ⟨gb117, 1, none⟩ = some (.slice Ao29 t114.length co29) := (blk_cell BK117.out 1).trans rfl
      have hfz68_0 := blk_frozen BK117.out 0
      have hfz68_1 := blk_frozen BK117.out 1
      go_upto_region 14 with (first | ((with_reducible refine gate_callee (f := 12) rfl ?_); refine goesL_ (some 48) rfl rfl Try.func12 (by kernel_rfl) rfl #[.agg #[.int .i64 t113, .slice Ao29 t114.length co29], .int .i64 1] rfl (by (try simp only [mA, mC, mN]); first | done | rfl | (simp only [List.length_drop, List.length_take]; rfl)) ?_; (with_reducible refine (laws_markCommittee.calls kj10 t113 (fun k_ => some k_ = (.slice Ao29 t114.length co29 : Value).ownBlock) (.slice Ao29 t114.length co29) t114 1 t130 t131 w _ ?side1 ?side2 A59.out).mono ?_); (case side1 => repeat (first | (with_reducible first | exact HB.out | apply ba | apply bd | apply be | refine bs ?_ GE101.out | refine bs ?_ GE112.out | refine bs ?_ GE117.out | refine bs ?_ GE123.out) | exact HB.out)); (case side2 => exact Kd.R_tight rfl HO_118001.out); rintro e w69 ⟨rfl, hy0, hb, hkp⟩; refine ⟨_, rfl, ?_⟩; have n0_ := Aside0.mk (Kd.R_mono (ok' := fun k_ => some k_ ≠ (.slice Ao29 t114.length co29 : Value).ownBlock ∧ some k_ ≠ (.slice Ao36 t119.length co36 : Value).ownBlock ∧ some k_ ≠ (.slice Ao63 t126.length co63 : Value).ownBlock) (Kd.R_keptB (HO_113001.out) hkp (fun k_ hk_ hs_ => (hk_.1.1) hs_)) (fun k_ hk_ => ⟨hk_.1.1.1, hk_.1.1.2, hk_.1.2⟩)); have n1_ := Aside0.mk (Kd.R_reok rfl hy0 (fun k_ e_ => HO_118001.out.1 k_ e_)); have n2_ := Aside0.mk (Kd.R_mono (ok' := fun k_ => some k_ ≠ (.slice Ao22 t108.length co22 : Value).ownBlock ∧ some k_ ≠ (.slice Ao29 t114.length co29 : Value).ownBlock ∧ some k_ ≠ (.slice Ao63 t126.length co63 : Value).ownBlock) (Kd.R_keptB (HO_124001.out) hkp (fun k_ hk_ hs_ => (hk_.1.2) hs_)) (fun k_ hk_ => ⟨hk_.1.1.1, hk_.1.1.2, hk_.1.2⟩)); have n3_ := Aside0.mk (blk_kept (by (with_reducible repeat (first | refine kN ?_ _ | refine kD ?_ | refine kA ?_ _)); exact BK101.out) hkp (fun hs_ => (fun e_ => (Kd.R_ne HO_118001.out BK101.out (by decide)) e_) hs_)); have n4_ := Aside0.mk (blk_kept (by (with_reducible repeat (first | refine kN ?_ _ | refine kD ?_ | refine kA ?_ _)); exact BK112.out) hkp (fun hs_ => (fun e_ => (Kd.R_ne HO_118001.out BK112.out (by decide)) e_) hs_)); have n5_ := Aside0.mk (blk_kept (by (with_reducible repeat (first | refine kN ?_ _ | refine kD ?_ | refine kA ?_ _)); exact BK117.out) hkp (fun hs_ => (fun e_ => (Kd.R_ne HO_118001.out BK117.out (by decide)) e_) hs_)); have n6_ := Aside0.mk (blk_kept (by (with_reducible repeat (first | refine kN ?_ _ | refine kD ?_ | refine kA ?_ _)); exact BK123.out) hkp (fun hs_ => (fun e_ => (Kd.R_ne HO_118001.out BK123.out (by decide)) e_) hs_)); have n7_ := Aside0.mk (Kd.R_mono (ok' := fun k_ => some k_ ≠ (.slice Ao22 t108.length co22 : Value).ownBlock ∧ some k_ ≠ (.slice Ao29 t114.length co29 : Value).ownBlock ∧ some k_ ≠ (.slice Ao36 t119.length co36 : Value).ownBlock) (Kd.R_keptB (HO128.out) hkp (fun k_ hk_ hs_ => (hk_.1.2) hs_)) (fun k_ hk_ => ⟨hk_.1.1.1.2, hk_.1.1.2, hk_.1.2⟩)); have n8_ := Aside0.mk (hb); clear HO_113001; clear HO_118001; clear HO_124001; clear BK101; clear BK112; clear BK117; clear BK123; clear HO128; clear HB; have HO_113001 := n0_; have HO_118001 := n1_; have HO_124001 := n2_; have BK101 := n3_; have BK112 := n4_; have BK117 := n5_; have BK123 := n6_; have HO128 := n7_; have HB := n8_; clear n0_ n1_ n2_ n3_ n4_ n5_ n6_ n7_ n8_; (try clear hb); (try clear hkp); (try clear hy0)))
      (try simp only [Act.put, sA, sZ, sS])
      go_cut [61] (fun v61 wc => ∃ (kq : Nat) (x61_59 : Bool), v61 = .bool x61_59 ∧ Aside0 (laws_FnExactLowerWeights.j1 kq t111 x61_59 a0_0 l0_1 t107 t108 t118 t119 = some r) ∧ Aside0 (kq ≤ kj10) ∧ Aside0 (Kd.R (Kd.int .i64) 3 wc w.heap.size (fun k_ => some k_ ≠ ((.slice Ao29 t114.length co29) : Value).ownBlock ∧ some k_ ≠ ((.slice Ao36 t119.length co36) : Value).ownBlock) (.slice Ao22 t108.length co22) t108) ∧ Aside0 (Kd.R (Kd.int .i64) 3 wc w.heap.size (fun k_ => some k_ ≠ ((.slice Ao22 t108.length co22) : Value).ownBlock ∧ some k_ ≠ ((.slice Ao36 t119.length co36) : Value).ownBlock) (.slice Ao29 t114.length co29) t131) ∧ Aside0 (Kd.R (Kd.int .i64) 3 wc w.heap.size (fun k_ => some k_ ≠ ((.slice Ao22 t108.length co22) : Value).ownBlock ∧ some k_ ≠ ((.slice Ao29 t114.length co29) : Value).ownBlock) (.slice Ao36 t119.length co36) t119) ∧ Aside0 (wc.heap[gb101]? = some (.cells #[.int .i64 a0_0, (.slice A0_1 l0_1.length c0_1)] 30 (0, 0))) ∧ Aside0 (wc.heap[gb112]? = some (.cells #[.int .i64 t107, (.slice Ao22 t108.length co22)] 24 (0, 0))) ∧ Aside0 (wc.heap[gb117]? = some (.cells #[.int .i64 t113, (.slice Ao29 t114.length co29)] 24 (0, 0))) ∧ Aside0 (wc.heap[gb123]? = some (.cells #[.int .i64 t118, (.slice Ao36 t119.length co36)] 24 (0, 0))) ∧ Aside0 (Below w.heap.size w wc))
      case first =>
       have H := HC60.out
       clear HC60
       by_cases c70 : t130 < 0
       ·rw [if_pos c70] at H
        have c70b0 : decide (t130 < 0) = true := decide_eq_true c70
        clear c70
        (first | rw [c70b0] | (simp only [i64_w, i32_w]; rw [c70b0]) | skip)
        have H' := Aside0.mk H
        clear H
        go_wp2
        go_meet
        case rel => exact ⟨_, (true), (by first | rfl | (simp; done) | (simp [*]; done)), H', ⟨by have := HJ10.out; first | omega | exact Nat.le_refl _⟩, ⟨by (with_reducible repeat (first | apply qA | apply qN | apply qD)); exact Kd.R_mono HO_113001.out (fun _ hk => ⟨hk.1, hk.2.1⟩)⟩, ⟨by (with_reducible repeat (first | apply qA | apply qN | apply qD)); exact Kd.R_mono HO_118001.out (fun _ hk => ⟨hk.1.1, hk.1.2⟩)⟩, ⟨by (with_reducible repeat (first | apply qA | apply qN | apply qD)); exact Kd.R_mono HO_124001.out (fun _ hk => ⟨hk.1, hk.2.1⟩)⟩, ⟨by (with_reducible repeat (first | refine kN ?_ _ | refine kD ?_ | refine kA ?_ _)); exact BK101.out⟩, ⟨by (with_reducible repeat (first | refine kN ?_ _ | refine kD ?_ | refine kA ?_ _)); exact BK112.out⟩, ⟨by (with_reducible repeat (first | refine kN ?_ _ | refine kD ?_ | refine kA ?_ _)); exact BK117.out⟩, ⟨by (with_reducible repeat (first | refine kN ?_ _ | refine kD ?_ | refine kA ?_ _)); exact BK123.out⟩, ⟨by repeat (first | (with_reducible first | exact HB.out | apply ba | apply bd | apply be | refine bs ?_ GE101.out | refine bs ?_ GE112.out | refine bs ?_ GE117.out | refine bs ?_ GE123.out) | exact HB.out)⟩⟩
       ·rw [if_neg c70] at H
        have c70b0 : decide (t130 < 0) = false := decide_eq_false c70
        clear c70
        (first | rw [c70b0] | (simp only [i64_w, i32_w]; rw [c70b0]) | skip)
        replace H := oB H
        obtain ⟨t132, A710, H⟩ := H
        replace H : (if t132 = true then (laws_FnExactLowerWeights.j1 kj10 t111 (t122 != t111) a0_0 l0_1 t107 t108 t118 t119) else (laws_FnExactLowerWeights.j1 kj10 t111 true a0_0 l0_1 t107 t108 t118 t119)) = some r := H
        have A71 := Aside0.mk A710
        clear A710
        by_cases c72 : t132 = true
        ·subst c72
         have H1 : (laws_FnExactLowerWeights.j1 kj10 t111 (t122 != t111) a0_0 l0_1 t107 t108 t118 t119) = some r := by rw [if_pos rfl] at H; exact H
         clear H
         have H := H1
         clear H1
         have H' := Aside0.mk H
         clear H
         have hnb73 := NB123_101.out
         have hnc73 := NB101_123.out
         have hnb74 := NB123_112.out
         have hnc74 := NB112_123.out
         have hnb75 := NB123_117.out
         have hnc75 := NB117_123.out
         have hcz76_0 : w69.cell? ⟨gb123, 0, none⟩ = some (.int .i64 t118) := (blk_cell BK123.out 0).trans rfl
         have hcz76_1 : w69.cell? ⟨gb123, 1, none⟩ = some (.slice Ao36 t119.length co36) := (blk_cell BK123.out 1).trans rfl
         have hfz76_0 := blk_frozen BK123.out 0
         have hfz76_1 := blk_frozen BK123.out 1
         have hnb77 := NB112_101.out
         have hnc77 := NB101_112.out
         have hnb78 := NB112_117.out
         have hnc78 := NB117_112.out
         have hcz79_0 : w69.cell? ⟨gb112, 0, none⟩ = some (.int .i64 t107) := (blk_cell BK112.out 0).trans rfl
         have hcz79_1 : w69.cell? ⟨gb112, 1, none⟩ = some (.slice Ao22 t108.length co22) := (blk_cell BK112.out 1).trans rfl
         have hfz79_0 := blk_frozen BK112.out 0
         have hfz79_1 := blk_frozen BK112.out 1
         go_wp2_with (first | (go_at_call 11; (with_reducible refine (laws_eqCommittee.calls kj10 t118 _ _ t119 t107 _ _ t108 true _ ?side1 ?side2 ?side3 ?side4 A71.out).mono ?_); (case side1 => repeat (first | exact (Kd.R_reads' HO_124001.out).2.2 | (with_reducible refine Kd.C_alloc ?_ _) | (with_reducible refine Kd.C_drewN ?_ _) | (with_reducible refine Kd.C_drew ?_))); (case side2 => exact (Kd.R_reads' HO_124001.out).2.1); (case side3 => repeat (first | exact (Kd.R_reads' HO_113001.out).2.2 | (with_reducible refine Kd.C_alloc ?_ _) | (with_reducible refine Kd.C_drewN ?_ _) | (with_reducible refine Kd.C_drew ?_))); (case side4 => exact (Kd.R_reads' HO_113001.out).2.1); rintro e w80 ⟨rfl, hb⟩; have n0_ := Aside0.mk (Kd.R_below (by (with_reducible repeat (first | apply qA | apply qN | apply qD)); exact HO_113001.out) hb); have n1_ := Aside0.mk (Kd.R_below (by (with_reducible repeat (first | apply qA | apply qN | apply qD)); exact HO_118001.out) hb); have n2_ := Aside0.mk (Kd.R_below (by (with_reducible repeat (first | apply qA | apply qN | apply qD)); exact HO_124001.out) hb); have n3_ := Aside0.mk (Kd.R_below (by (with_reducible repeat (first | apply qA | apply qN | apply qD)); exact HO128.out) hb); have n4_ := Aside0.mk (blk_below (g := gb101) (o := .cells #[.int .i64 a0_0, .slice A0_1 l0_1.length c0_1] 30 (0, 0)) (by (with_reducible repeat (first | refine kN ?_ _ | refine kD ?_ | refine kA ?_ _)); exact BK101.out) hb); have n5_ := Aside0.mk (blk_below (g := gb112) (o := .cells #[.int .i64 t107, .slice Ao22 t108.length co22] 24 (0, 0)) (by (with_reducible repeat (first | refine kN ?_ _ | refine kD ?_ | refine kA ?_ _)); exact BK112.out) hb); have n6_ := Aside0.mk (blk_below (g := gb117) (o := .cells #[.int .i64 t113, .slice Ao29 t114.length co29] 24 (0, 0)) (by (with_reducible repeat (first | refine kN ?_ _ | refine kD ?_ | refine kA ?_ _)); exact BK117.out) hb); have n7_ := Aside0.mk (blk_below (g := gb123) (o := .cells #[.int .i64 t118, .slice Ao36 t119.length co36] 24 (0, 0)) (by (with_reducible repeat (first | refine kN ?_ _ | refine kD ?_ | refine kA ?_ _)); exact BK123.out) hb); have n8_ := Aside0.mk (below_step (by repeat (first | (with_reducible first | exact HB.out | apply ba | apply bd | apply be | refine bs ?_ GE101.out | refine bs ?_ GE112.out | refine bs ?_ GE117.out | refine bs ?_ GE123.out) | exact HB.out)) hb); clear HO_113001; clear HO_118001; clear HO_124001; clear HO128; clear BK101; clear BK112; clear BK117; clear BK123; clear HB; have HO_113001 := n0_; have HO_118001 := n1_; have HO_124001 := n2_; have HO128 := n3_; have BK101 := n4_; have BK112 := n5_; have BK117 := n6_; have BK123 := n7_; have HB := n8_; clear n0_ n1_ n2_ n3_ n4_ n5_ n6_ n7_ n8_; (try clear hb); (try clear hb2); (try clear hk); (try clear hi)))
         go_meet
         case rel => exact ⟨_, ((t122 != t111)), (by first | rfl | (simp; done) | (simp [*]; done)), H', ⟨by have := HJ10.out; first | omega | exact Nat.le_refl _⟩, ⟨by (with_reducible repeat (first | apply qA | apply qN | apply qD)); exact Kd.R_mono HO_113001.out (fun _ hk => ⟨hk.1, hk.2.1⟩)⟩, ⟨by (with_reducible repeat (first | apply qA | apply qN | apply qD)); exact Kd.R_mono HO_118001.out (fun _ hk => ⟨hk.1.1, hk.1.2⟩)⟩, ⟨by (with_reducible repeat (first | apply qA | apply qN | apply qD)); exact Kd.R_mono HO_124001.out (fun _ hk => ⟨hk.1, hk.2.1⟩)⟩, ⟨by (with_reducible repeat (first | refine kN ?_ _ | refine kD ?_ | refine kA ?_ _)); exact BK101.out⟩, ⟨by (with_reducible repeat (first | refine kN ?_ _ | refine kD ?_ | refine kA ?_ _)); exact BK112.out⟩, ⟨by (with_reducible repeat (first | refine kN ?_ _ | refine kD ?_ | refine kA ?_ _)); exact BK117.out⟩, ⟨by (with_reducible repeat (first | refine kN ?_ _ | refine kD ?_ | refine kA ?_ _)); exact BK123.out⟩, ⟨by repeat (first | (with_reducible first | exact HB.out | apply ba | apply bd | apply be | refine bs ?_ GE101.out | refine bs ?_ GE112.out | refine bs ?_ GE117.out | refine bs ?_ GE123.out) | exact HB.out)⟩⟩
        ·replace c72 := Bool.eq_false_iff.mpr c72
         subst c72
         have H1 : (laws_FnExactLowerWeights.j1 kj10 t111 true a0_0 l0_1 t107 t108 t118 t119) = some r := by rw [if_neg (show ¬ (false = true) by decide)] at H; exact H
         clear H
         have H := H1
         clear H1
         have H' := Aside0.mk H
         clear H
         have hnb81 := NB123_101.out
         have hnc81 := NB101_123.out
         have hnb82 := NB123_112.out
         have hnc82 := NB112_123.out
         have hnb83 := NB123_117.out
         have hnc83 := NB117_123.out
         have hcz84_0 : w69.cell? ⟨gb123, 0, none⟩ = some (.int .i64 t118) := (blk_cell BK123.out 0).trans rfl
         have hcz84_1 : w69.cell? ⟨gb123, 1, none⟩ = some (.slice Ao36 t119.length co36) := (blk_cell BK123.out 1).trans rfl
         have hfz84_0 := blk_frozen BK123.out 0
         have hfz84_1 := blk_frozen BK123.out 1
         have hnb85 := NB112_101.out
         have hnc85 := NB101_112.out
         have hnb86 := NB112_117.out
         have hnc86 := NB117_112.out
         have hcz87_0 : w69.cell? ⟨gb112, 0, none⟩ = some (.int .i64 t107) := (blk_cell BK112.out 0).trans rfl
         have hcz87_1 : w69.cell? ⟨gb112, 1, none⟩ = some (.slice Ao22 t108.length co22) := (blk_cell BK112.out 1).trans rfl
         have hfz87_0 := blk_frozen BK112.out 0
         have hfz87_1 := blk_frozen BK112.out 1
         go_wp2_with (first | (go_at_call 11; (with_reducible refine (laws_eqCommittee.calls kj10 t118 _ _ t119 t107 _ _ t108 false _ ?side1 ?side2 ?side3 ?side4 A71.out).mono ?_); (case side1 => repeat (first | exact (Kd.R_reads' HO_124001.out).2.2 | (with_reducible refine Kd.C_alloc ?_ _) | (with_reducible refine Kd.C_drewN ?_ _) | (with_reducible refine Kd.C_drew ?_))); (case side2 => exact (Kd.R_reads' HO_124001.out).2.1); (case side3 => repeat (first | exact (Kd.R_reads' HO_113001.out).2.2 | (with_reducible refine Kd.C_alloc ?_ _) | (with_reducible refine Kd.C_drewN ?_ _) | (with_reducible refine Kd.C_drew ?_))); (case side4 => exact (Kd.R_reads' HO_113001.out).2.1); rintro e w88 ⟨rfl, hb⟩; have n0_ := Aside0.mk (Kd.R_below (by (with_reducible repeat (first | apply qA | apply qN | apply qD)); exact HO_113001.out) hb); have n1_ := Aside0.mk (Kd.R_below (by (with_reducible repeat (first | apply qA | apply qN | apply qD)); exact HO_118001.out) hb); have n2_ := Aside0.mk (Kd.R_below (by (with_reducible repeat (first | apply qA | apply qN | apply qD)); exact HO_124001.out) hb); have n3_ := Aside0.mk (Kd.R_below (by (with_reducible repeat (first | apply qA | apply qN | apply qD)); exact HO128.out) hb); have n4_ := Aside0.mk (blk_below (g := gb101) (o := .cells #[.int .i64 a0_0, .slice A0_1 l0_1.length c0_1] 30 (0, 0)) (by (with_reducible repeat (first | refine kN ?_ _ | refine kD ?_ | refine kA ?_ _)); exact BK101.out) hb); have n5_ := Aside0.mk (blk_below (g := gb112) (o := .cells #[.int .i64 t107, .slice Ao22 t108.length co22] 24 (0, 0)) (by (with_reducible repeat (first | refine kN ?_ _ | refine kD ?_ | refine kA ?_ _)); exact BK112.out) hb); have n6_ := Aside0.mk (blk_below (g := gb117) (o := .cells #[.int .i64 t113, .slice Ao29 t114.length co29] 24 (0, 0)) (by (with_reducible repeat (first | refine kN ?_ _ | refine kD ?_ | refine kA ?_ _)); exact BK117.out) hb); have n7_ := Aside0.mk (blk_below (g := gb123) (o := .cells #[.int .i64 t118, .slice Ao36 t119.length co36] 24 (0, 0)) (by (with_reducible repeat (first | refine kN ?_ _ | refine kD ?_ | refine kA ?_ _)); exact BK123.out) hb); have n8_ := Aside0.mk (below_step (by repeat (first | (with_reducible first | exact HB.out | apply ba | apply bd | apply be | refine bs ?_ GE101.out | refine bs ?_ GE112.out | refine bs ?_ GE117.out | refine bs ?_ GE123.out) | exact HB.out)) hb); clear HO_113001; clear HO_118001; clear HO_124001; clear HO128; clear BK101; clear BK112; clear BK117; clear BK123; clear HB; have HO_113001 := n0_; have HO_118001 := n1_; have HO_124001 := n2_; have HO128 := n3_; have BK101 := n4_; have BK112 := n5_; have BK117 := n6_; have BK123 := n7_; have HB := n8_; clear n0_ n1_ n2_ n3_ n4_ n5_ n6_ n7_ n8_; (try clear hb); (try clear hb2); (try clear hk); (try clear hi)))
         go_meet
         case rel => exact ⟨_, (true), (by first | rfl | (simp; done) | (simp [*]; done)), H', ⟨by have := HJ10.out; first | omega | exact Nat.le_refl _⟩, ⟨by (with_reducible repeat (first | apply qA | apply qN | apply qD)); exact Kd.R_mono HO_113001.out (fun _ hk => ⟨hk.1, hk.2.1⟩)⟩, ⟨by (with_reducible repeat (first | apply qA | apply qN | apply qD)); exact Kd.R_mono HO_118001.out (fun _ hk => ⟨hk.1.1, hk.1.2⟩)⟩, ⟨by (with_reducible repeat (first | apply qA | apply qN | apply qD)); exact Kd.R_mono HO_124001.out (fun _ hk => ⟨hk.1, hk.2.1⟩)⟩, ⟨by (with_reducible repeat (first | refine kN ?_ _ | refine kD ?_ | refine kA ?_ _)); exact BK101.out⟩, ⟨by (with_reducible repeat (first | refine kN ?_ _ | refine kD ?_ | refine kA ?_ _)); exact BK112.out⟩, ⟨by (with_reducible repeat (first | refine kN ?_ _ | refine kD ?_ | refine kA ?_ _)); exact BK117.out⟩, ⟨by (with_reducible repeat (first | refine kN ?_ _ | refine kD ?_ | refine kA ?_ _)); exact BK123.out⟩, ⟨by repeat (first | (with_reducible first | exact HB.out | apply ba | apply bd | apply be | refine bs ?_ GE101.out | refine bs ?_ GE112.out | refine bs ?_ GE117.out | refine bs ?_ GE123.out) | exact HB.out)⟩⟩
      case rest =>
       clear HC60
       try clear c1
       try clear c2
       try clear p2
       try clear c3
       try clear c3b0
       try clear c4
       try clear c5
       try clear c6
       try clear c7
       try clear c8
       try clear c11
       try clear c12
       try clear c14
       try clear c16
       try clear c20
       try clear c24
       try clear c25
       try clear c26
       try clear c27
       try clear c32
       try clear c33
       try clear c34
       try clear c38
       try clear c39
       try clear c40
       try clear c41
       try clear c43
       try clear c44
       try clear c47
       try clear c48
       try clear c49
       try clear c51
       try clear c52
       try clear c55
       try clear c58
       try clear c65
       try clear c66
       try clear c67
       try clear c70
       try clear c70b0
       try clear c72
       try clear c73
       try clear c74
       try clear c75
       try clear c77
       try clear c78
       try clear c81
       try clear c82
       try clear c83
       try clear c85
       try clear c86
       try clear hcz13_0
       try clear hcz13_1
       try clear hcz15_0
       try clear hcz15_1
       try clear hcz21_0
       try clear hcz21_1
       try clear hcz23_0
       try clear hcz23_1
       try clear hcz28_0
       try clear hcz28_1
       try clear hcz35_0
       try clear hcz35_1
       try clear hcz42_0
       try clear hcz42_1
       try clear hcz45_0
       try clear hcz45_1
       try clear hcz50_0
       try clear hcz50_1
       try clear hcz53_0
       try clear hcz53_1
       try clear hcz5_0
       try clear hcz5_1
       try clear hcz68_0
       try clear hcz68_1
       try clear hcz76_0
       try clear hcz76_1
       try clear hcz79_0
       try clear hcz79_1
       try clear hcz84_0
       try clear hcz84_1
       try clear hcz87_0
       try clear hcz87_1
       try clear hfz13_0
       try clear hfz13_1
       try clear hfz15_0
       try clear hfz15_1
       try clear hfz21_0
       try clear hfz21_1
       try clear hfz23_0
       try clear hfz23_1
       try clear hfz28_0
       try clear hfz28_1
       try clear hfz35_0
       try clear hfz35_1
       try clear hfz42_0
       try clear hfz42_1
       try clear hfz45_0
       try clear hfz45_1
       try clear hfz50_0
       try clear hfz50_1
       try clear hfz53_0
       try clear hfz53_1
       try clear hfz5_0
       try clear hfz5_1
       try clear hfz68_0
       try clear hfz68_1
       try clear hfz76_0
       try clear hfz76_1
       try clear hfz79_0
       try clear hfz79_1
       try clear hfz84_0
       try clear hfz84_1
       try clear hfz87_0
       try clear hfz87_1
       try clear p2
       obtain ⟨kq, x61_59, rfl, HA, HJ59, HO_113001, HO_118001, HO_124001, BK101, BK112, BK117, BK123, HB⟩ := hcut
       have hl118001_59 := (Kd.R_reads' HO_118001.out).1
       rw [hl118001_59] at HO_118001
       (try simp only [hl118001_59])
       (try simp only [hl118001_59] at BK101)
       (try simp only [hl118001_59] at BK112)
       (try simp only [hl118001_59] at BK117)
       (try simp only [hl118001_59] at BK123)
       (try simp only [hl118001_59] at HO_113001)
       (try simp only [hl118001_59] at HO_124001)
       cases kq with
       | zero => exact absurd HA.out (by simp [laws_FnExactLowerWeights.j1])
       | succ kj59 =>
        have H := HA.out
        clear HA
        simp only [laws_FnExactLowerWeights.j1] at H
        by_cases c89 : x61_59 = true
        ·subst c89
         have H1 : (some false) = some r := by rw [if_pos rfl] at H; exact H
         clear H
         have H := H1
         clear H1
         obtain rfl := Option.some.inj H
         go_wp2
         go_ret
         exact ⟨by first | rfl | (simp <;> rfl) | (simp [*] <;> rfl), by repeat (first | (with_reducible first | exact HB.out | apply ba | apply bd | apply be | refine bs ?_ GE101.out | refine bs ?_ GE112.out | refine bs ?_ GE117.out | refine bs ?_ GE123.out) | exact HB.out)⟩
        ·replace c89 := Bool.eq_false_iff.mpr c89
         subst c89
         have H1 : ((laws_markCommittee.f kj59 t118 t119 1).bind fun bt133 => ((laws_heldCommittee.f kj59 t118 bt133.2 1).bind fun t135 => (if t135 < 0 then (some false) else (if t135 = bt133.1 then ((laws_toCommittee.f kj59 a0_0 l0_1).bind fun bt136 => ((impl_LowerWeights.f kj59 bt136.1 bt136.2).bind fun bt140 => ((laws_eqCommittee.f kj59 bt140.1 bt140.2.1 t107 t108).bind fun t146 => (if t146 = true then (laws_FnExactLowerWeights.j2 kj59 bt133.1 (bt140.2.2 != t111) t118 bt133.2) else (laws_FnExactLowerWeights.j2 kj59 bt133.1 true t118 bt133.2))))) else (some false))))) = some r := by rw [if_neg (show ¬ (false = true) by decide)] at H; exact H
         clear H
         have H := H1
         clear H1
         replace H := oB H
         obtain ⟨⟨t133, t134⟩, A900, H⟩ := H
         replace H : ((laws_heldCommittee.f kj59 t118 t134 1).bind fun t135 => (if t135 < 0 then (some false) else (if t135 = t133 then ((laws_toCommittee.f kj59 a0_0 l0_1).bind fun bt136 => ((impl_LowerWeights.f kj59 bt136.1 bt136.2).bind fun bt140 => ((laws_eqCommittee.f kj59 bt140.1 bt140.2.1 t107 t108).bind fun t146 => (if t146 = true then (laws_FnExactLowerWeights.j2 kj59 t133 (bt140.2.2 != t111) t118 t134) else (laws_FnExactLowerWeights.j2 kj59 t133 true t118 t134))))) else (some false)))) = some r := H
         have A90 := Aside0.mk A900
         clear A900
         replace H := oB H
         obtain ⟨t135, A910, H⟩ := H
         replace H : (if t135 < 0 then (some false) else (if t135 = t133 then ((laws_toCommittee.f kj59 a0_0 l0_1).bind fun bt136 => ((impl_LowerWeights.f kj59 bt136.1 bt136.2).bind fun bt140 => ((laws_eqCommittee.f kj59 bt140.1 bt140.2.1 t107 t108).bind fun t146 => (if t146 = true then (laws_FnExactLowerWeights.j2 kj59 t133 (bt140.2.2 != t111) t118 t134) else (laws_FnExactLowerWeights.j2 kj59 t133 true t118 t134))))) else (some false))) = some r := H
         have A91 := Aside0.mk A910
         clear A910
         by_cases c92 : t135 < 0
         ·rw [if_pos c92] at H
          have c92b0 : decide (t135 < 0) = true := decide_eq_true c92
          clear c92
          obtain rfl := Option.some.inj H
          have hnb93 := NB123_101.out
          have hnc93 := NB101_123.out
          have hnb94 := NB123_112.out
          have hnc94 := NB112_123.out
          have hnb95 := NB123_117.out
          have hnc95 := NB117_123.out
          have hcz96_0 : wc.cell? ⟨gb123, 0, none⟩ = some (.int .i64 t118) := (blk_cell BK123.out 0).trans rfl
          have hcz96_1 : wc.cell? ⟨gb123, 1, none⟩ = some (.slice Ao36 t119.length co36) := (blk_cell BK123.out 1).trans rfl
          have hfz96_0 := blk_frozen BK123.out 0
          have hfz96_1 := blk_frozen BK123.out 1
          go_wp2_with (first | ((with_reducible refine gate_callee (f := 12) rfl ?_); refine goesL_ (some 64) rfl rfl Try.func12 (by kernel_rfl) rfl #[.agg #[.int .i64 t118, .slice Ao36 t119.length co36], .int .i64 1] rfl (by (try simp only [mA, mC, mN]); first | done | rfl | (simp only [List.length_drop, List.length_take]; rfl)) ?_; (with_reducible refine (laws_markCommittee.calls kj59 t118 (fun k_ => some k_ = (.slice Ao36 t119.length co36 : Value).ownBlock) (.slice Ao36 t119.length co36) t119 1 t133 t134 w _ ?side1 ?side2 A90.out).mono ?_); (case side1 => repeat (first | (with_reducible first | exact HB.out | apply ba | apply bd | apply be | refine bs ?_ GE101.out | refine bs ?_ GE112.out | refine bs ?_ GE117.out | refine bs ?_ GE123.out) | exact HB.out)); (case side2 => exact Kd.R_tight rfl HO_124001.out); rintro e w97 ⟨rfl, hy0, hb, hkp⟩; refine ⟨_, rfl, ?_⟩; have n0_ := Aside0.mk (Kd.R_mono (ok' := fun k_ => some k_ ≠ (.slice Ao29 t131.length co29 : Value).ownBlock ∧ some k_ ≠ (.slice Ao36 t119.length co36 : Value).ownBlock) (Kd.R_keptB (HO_113001.out) hkp (fun k_ hk_ hs_ => (hk_.2) hs_)) (fun k_ hk_ => ⟨hk_.1.1, hk_.1.2⟩)); have n1_ := Aside0.mk (Kd.R_mono (ok' := fun k_ => some k_ ≠ (.slice Ao22 t108.length co22 : Value).ownBlock ∧ some k_ ≠ (.slice Ao36 t119.length co36 : Value).ownBlock) (Kd.R_keptB (HO_118001.out) hkp (fun k_ hk_ hs_ => (hk_.2) hs_)) (fun k_ hk_ => ⟨hk_.1.1, hk_.1.2⟩)); have n2_ := Aside0.mk (Kd.R_reok rfl hy0 (fun k_ e_ => HO_124001.out.1 k_ e_)); have n3_ := Aside0.mk (blk_kept (by (with_reducible repeat (first | refine kN ?_ _ | refine kD ?_ | refine kA ?_ _)); exact BK101.out) hkp (fun hs_ => (fun e_ => (Kd.R_ne HO_124001.out BK101.out (by decide)) e_) hs_)); have n4_ := Aside0.mk (blk_kept (by (with_reducible repeat (first | refine kN ?_ _ | refine kD ?_ | refine kA ?_ _)); exact BK112.out) hkp (fun hs_ => (fun e_ => (Kd.R_ne HO_124001.out BK112.out (by decide)) e_) hs_)); have n5_ := Aside0.mk (blk_kept (by (with_reducible repeat (first | refine kN ?_ _ | refine kD ?_ | refine kA ?_ _)); exact BK117.out) hkp (fun hs_ => (fun e_ => (Kd.R_ne HO_124001.out BK117.out (by decide)) e_) hs_)); have n6_ := Aside0.mk (blk_kept (by (with_reducible repeat (first | refine kN ?_ _ | refine kD ?_ | refine kA ?_ _)); exact BK123.out) hkp (fun hs_ => (fun e_ => (Kd.R_ne HO_124001.out BK123.out (by decide)) e_) hs_)); have n7_ := Aside0.mk (hb); clear HO_113001; clear HO_118001; clear HO_124001; clear BK101; clear BK112; clear BK117; clear BK123; clear HB; have HO_113001 := n0_; have HO_118001 := n1_; have HO_124001 := n2_; have BK101 := n3_; have BK112 := n4_; have BK117 := n5_; have BK123 := n6_; have HB := n7_; clear n0_ n1_ n2_ n3_ n4_ n5_ n6_ n7_; (try clear hb); (try clear hkp); (try clear hy0); have hcz98_0 : w97.cell? ⟨gb123, 0, none⟩ = some (.int .i64 t118) := (blk_cell BK123.out 0).trans rfl; have hcz98_1 : w97.cell? ⟨gb123, 1, none⟩ = some (.slice Ao36 t119.length co36) := (blk_cell BK123.out 1).trans rfl; have hfz98_0 := blk_frozen BK123.out 0; have hfz98_1 := blk_frozen BK123.out 1) | ((with_reducible refine gate_callee (f := 13) rfl ?_); refine goesL_ (some 67) rfl rfl Try.func13 (by kernel_rfl) rfl #[.agg #[.int .i64 t118, .slice Ao36 t134.length co36], .int .i64 1] rfl (by (try simp only [mA, mC, mN]); first | done | (rw [show t134.length = t119.length from (Kd.R_reads' HO_124001.out).1.symm] <;> rfl) | rfl | (simp only [List.length_drop, List.length_take]; rfl)) ?_; (with_reducible refine (laws_heldCommittee.calls kj59 t118 _ _ t134 1 t135 _ ?side1 ?side2 A91.out).mono ?_); (case side1 => repeat (first | exact (Kd.R_reads' HO_124001.out).2.2 | (with_reducible refine Kd.C_alloc ?_ _) | (with_reducible refine Kd.C_drewN ?_ _) | (with_reducible refine Kd.C_drew ?_))); (case side2 => rw [show t134.length = t119.length from (Kd.R_reads' HO_124001.out).1.symm]; exact (Kd.R_reads' HO_124001.out).2.1); rintro e w99 ⟨rfl, hb⟩; refine ⟨_, rfl, ?_⟩; have n0_ := Aside0.mk (Kd.R_below (by (with_reducible repeat (first | apply qA | apply qN | apply qD)); exact HO_113001.out) hb); have n1_ := Aside0.mk (Kd.R_below (by (with_reducible repeat (first | apply qA | apply qN | apply qD)); exact HO_118001.out) hb); have n2_ := Aside0.mk (Kd.R_below (by (with_reducible repeat (first | apply qA | apply qN | apply qD)); exact HO_124001.out) hb); have n3_ := Aside0.mk (blk_below (g := gb101) (o := .cells #[.int .i64 a0_0, .slice A0_1 l0_1.length c0_1] 30 (0, 0)) (by (with_reducible repeat (first | refine kN ?_ _ | refine kD ?_ | refine kA ?_ _)); exact BK101.out) hb); have n4_ := Aside0.mk (blk_below (g := gb112) (o := .cells #[.int .i64 t107, .slice Ao22 t108.length co22] 24 (0, 0)) (by (with_reducible repeat (first | refine kN ?_ _ | refine kD ?_ | refine kA ?_ _)); exact BK112.out) hb); have n5_ := Aside0.mk (blk_below (g := gb117) (o := .cells #[.int .i64 t113, .slice Ao29 t131.length co29] 24 (0, 0)) (by (with_reducible repeat (first | refine kN ?_ _ | refine kD ?_ | refine kA ?_ _)); exact BK117.out) hb); have n6_ := Aside0.mk (blk_below (g := gb123) (o := .cells #[.int .i64 t118, .slice Ao36 t119.length co36] 24 (0, 0)) (by (with_reducible repeat (first | refine kN ?_ _ | refine kD ?_ | refine kA ?_ _)); exact BK123.out) hb); have n7_ := Aside0.mk (below_step (by repeat (first | (with_reducible first | exact HB.out | apply ba | apply bd | apply be | refine bs ?_ GE101.out | refine bs ?_ GE112.out | refine bs ?_ GE117.out | refine bs ?_ GE123.out) | exact HB.out)) hb); clear HO_113001; clear HO_118001; clear HO_124001; clear BK101; clear BK112; clear BK117; clear BK123; clear HB; have HO_113001 := n0_; have HO_118001 := n1_; have HO_124001 := n2_; have BK101 := n3_; have BK112 := n4_; have BK117 := n5_; have BK123 := n6_; have HB := n7_; clear n0_ n1_ n2_ n3_ n4_ n5_ n6_ n7_; (try clear hb); (try clear hb2); (try clear hk); (try clear hi)))
          go_ret
          exact ⟨by first | rfl | (simp <;> rfl) | (simp [*] <;> rfl), by repeat (first | (with_reducible first | exact HB.out | apply ba | apply bd | apply be | refine bs ?_ GE101.out | refine bs ?_ GE112.out | refine bs ?_ GE117.out | refine bs ?_ GE123.out) | exact HB.out)⟩
         ·rw [if_neg c92] at H
          have c92b0 : decide (t135 < 0) = false := decide_eq_false c92
          clear c92
          by_cases c100 : t135 = t133
          ·rw [if_pos c100] at H
           have c100b0 : (t135 == t133) = true := beq_iff_eq.mpr c100
           have c100b1 : (t135 != t133) = false := bne_eq_false_iff_eq.mpr c100
           clear c100
           replace H := oB H
           obtain ⟨⟨t136, t137⟩, A1010, H⟩ := H
           replace H : ((impl_LowerWeights.f kj59 t136 t137).bind fun bt140 => ((laws_eqCommittee.f kj59 bt140.1 bt140.2.1 t107 t108).bind fun t146 => (if t146 = true then (laws_FnExactLowerWeights.j2 kj59 t133 (bt140.2.2 != t111) t118 t134) else (laws_FnExactLowerWeights.j2 kj59 t133 true t118 t134)))) = some r := H
           have A101 := Aside0.mk A1010
           clear A1010
           replace H := oB H
           obtain ⟨⟨t140, t141, t144⟩, A1020, H⟩ := H
           replace H : ((laws_eqCommittee.f kj59 t140 t141 t107 t108).bind fun t146 => (if t146 = true then (laws_FnExactLowerWeights.j2 kj59 t133 (t144 != t111) t118 t134) else (laws_FnExactLowerWeights.j2 kj59 t133 true t118 t134))) = some r := H
           have A102 := Aside0.mk A1020
           clear A1020
           have HC103 := Aside0.mk H
           clear H
           have hnb104 := NB123_101.out
           have hnc104 := NB101_123.out
           have hnb105 := NB123_112.out
           have hnc105 := NB112_123.out
           have hnb106 := NB123_117.out
           have hnc106 := NB117_123.out
           have hcz107_0 : wc.cell? ⟨gb123, 0, none⟩ = some (.int .i64 t118) := (blk_cell BK123.out 0).trans rfl
           have hcz107_1 : wc.cell? ⟨gb123, 1, none⟩ = some (.slice Ao36 t119.length co36) := (blk_cell BK123.out 1).trans rfl
           have hfz107_0 := blk_frozen BK123.out 0
           have hfz107_1 := blk_frozen BK123.out 1
           go_upto_region 25 with (first | ((with_reducible refine gate_callee (f := 12) rfl ?_); refine goesL_ (some 64) rfl rfl Try.func12 (by kernel_rfl) rfl #[.agg #[.int .i64 t118, .slice Ao36 t119.length co36], .int .i64 1] rfl (by (try simp only [mA, mC, mN]); first | done | rfl | (simp only [List.length_drop, List.length_take]; rfl)) ?_; (with_reducible refine (laws_markCommittee.calls kj59 t118 (fun k_ => some k_ = (.slice Ao36 t119.length co36 : Value).ownBlock) (.slice Ao36 t119.length co36) t119 1 t133 t134 w _ ?side1 ?side2 A90.out).mono ?_); (case side1 => repeat (first | (with_reducible first | exact HB.out | apply ba | apply bd | apply be | refine bs ?_ GE101.out | refine bs ?_ GE112.out | refine bs ?_ GE117.out | refine bs ?_ GE123.out) | exact HB.out)); (case side2 => exact Kd.R_tight rfl HO_124001.out); rintro e w108 ⟨rfl, hy0, hb, hkp⟩; refine ⟨_, rfl, ?_⟩; have n0_ := Aside0.mk (Kd.R_mono (ok' := fun k_ => some k_ ≠ (.slice Ao29 t131.length co29 : Value).ownBlock ∧ some k_ ≠ (.slice Ao36 t119.length co36 : Value).ownBlock) (Kd.R_keptB (HO_113001.out) hkp (fun k_ hk_ hs_ => (hk_.2) hs_)) (fun k_ hk_ => ⟨hk_.1.1, hk_.1.2⟩)); have n1_ := Aside0.mk (Kd.R_mono (ok' := fun k_ => some k_ ≠ (.slice Ao22 t108.length co22 : Value).ownBlock ∧ some k_ ≠ (.slice Ao36 t119.length co36 : Value).ownBlock) (Kd.R_keptB (HO_118001.out) hkp (fun k_ hk_ hs_ => (hk_.2) hs_)) (fun k_ hk_ => ⟨hk_.1.1, hk_.1.2⟩)); have n2_ := Aside0.mk (Kd.R_reok rfl hy0 (fun k_ e_ => HO_124001.out.1 k_ e_)); have n3_ := Aside0.mk (blk_kept (by (with_reducible repeat (first | refine kN ?_ _ | refine kD ?_ | refine kA ?_ _)); exact BK101.out) hkp (fun hs_ => (fun e_ => (Kd.R_ne HO_124001.out BK101.out (by decide)) e_) hs_)); have n4_ := Aside0.mk (blk_kept (by (with_reducible repeat (first | refine kN ?_ _ | refine kD ?_ | refine kA ?_ _)); exact BK112.out) hkp (fun hs_ => (fun e_ => (Kd.R_ne HO_124001.out BK112.out (by decide)) e_) hs_)); have n5_ := Aside0.mk (blk_kept (by (with_reducible repeat (first | refine kN ?_ _ | refine kD ?_ | refine kA ?_ _)); exact BK117.out) hkp (fun hs_ => (fun e_ => (Kd.R_ne HO_124001.out BK117.out (by decide)) e_) hs_)); have n6_ := Aside0.mk (blk_kept (by (with_reducible repeat (first | refine kN ?_ _ | refine kD ?_ | refine kA ?_ _)); exact BK123.out) hkp (fun hs_ => (fun e_ => (Kd.R_ne HO_124001.out BK123.out (by decide)) e_) hs_)); have n7_ := Aside0.mk (hb); clear HO_113001; clear HO_118001; clear HO_124001; clear BK101; clear BK112; clear BK117; clear BK123; clear HB; have HO_113001 := n0_; have HO_118001 := n1_; have HO_124001 := n2_; have BK101 := n3_; have BK112 := n4_; have BK117 := n5_; have BK123 := n6_; have HB := n7_; clear n0_ n1_ n2_ n3_ n4_ n5_ n6_ n7_; (try clear hb); (try clear hkp); (try clear hy0); have hcz109_0 : w108.cell? ⟨gb123, 0, none⟩ = some (.int .i64 t118) := (blk_cell BK123.out 0).trans rfl; have hcz109_1 : w108.cell? ⟨gb123, 1, none⟩ = some (.slice Ao36 t119.length co36) := (blk_cell BK123.out 1).trans rfl; have hfz109_0 := blk_frozen BK123.out 0; have hfz109_1 := blk_frozen BK123.out 1) | ((with_reducible refine gate_callee (f := 13) rfl ?_); refine goesL_ (some 67) rfl rfl Try.func13 (by kernel_rfl) rfl #[.agg #[.int .i64 t118, .slice Ao36 t134.length co36], .int .i64 1] rfl (by (try simp only [mA, mC, mN]); first | done | (rw [show t134.length = t119.length from (Kd.R_reads' HO_124001.out).1.symm] <;> rfl) | rfl | (simp only [List.length_drop, List.length_take]; rfl)) ?_; (with_reducible refine (laws_heldCommittee.calls kj59 t118 _ _ t134 1 t135 _ ?side1 ?side2 A91.out).mono ?_); (case side1 => repeat (first | exact (Kd.R_reads' HO_124001.out).2.2 | (with_reducible refine Kd.C_alloc ?_ _) | (with_reducible refine Kd.C_drewN ?_ _) | (with_reducible refine Kd.C_drew ?_))); (case side2 => rw [show t134.length = t119.length from (Kd.R_reads' HO_124001.out).1.symm]; exact (Kd.R_reads' HO_124001.out).2.1); rintro e w110 ⟨rfl, hb⟩; refine ⟨_, rfl, ?_⟩; have n0_ := Aside0.mk (Kd.R_below (by (with_reducible repeat (first | apply qA | apply qN | apply qD)); exact HO_113001.out) hb); have n1_ := Aside0.mk (Kd.R_below (by (with_reducible repeat (first | apply qA | apply qN | apply qD)); exact HO_118001.out) hb); have n2_ := Aside0.mk (Kd.R_below (by (with_reducible repeat (first | apply qA | apply qN | apply qD)); exact HO_124001.out) hb); have n3_ := Aside0.mk (blk_below (g := gb101) (o := .cells #[.int .i64 a0_0, .slice A0_1 l0_1.length c0_1] 30 (0, 0)) (by (with_reducible repeat (first | refine kN ?_ _ | refine kD ?_ | refine kA ?_ _)); exact BK101.out) hb); have n4_ := Aside0.mk (blk_below (g := gb112) (o := .cells #[.int .i64 t107, .slice Ao22 t108.length co22] 24 (0, 0)) (by (with_reducible repeat (first | refine kN ?_ _ | refine kD ?_ | refine kA ?_ _)); exact BK112.out) hb); have n5_ := Aside0.mk (blk_below (g := gb117) (o := .cells #[.int .i64 t113, .slice Ao29 t131.length co29] 24 (0, 0)) (by (with_reducible repeat (first | refine kN ?_ _ | refine kD ?_ | refine kA ?_ _)); exact BK117.out) hb); have n6_ := Aside0.mk (blk_below (g := gb123) (o := .cells #[.int .i64 t118, .slice Ao36 t119.length co36] 24 (0, 0)) (by (with_reducible repeat (first | refine kN ?_ _ | refine kD ?_ | refine kA ?_ _)); exact BK123.out) hb); have n7_ := Aside0.mk (below_step (by repeat (first | (with_reducible first | exact HB.out | apply ba | apply bd | apply be | refine bs ?_ GE101.out | refine bs ?_ GE112.out | refine bs ?_ GE117.out | refine bs ?_ GE123.out) | exact HB.out)) hb); clear HO_113001; clear HO_118001; clear HO_124001; clear BK101; clear BK112; clear BK117; clear BK123; clear HB; have HO_113001 := n0_; have HO_118001 := n1_; have HO_124001 := n2_; have BK101 := n3_; have BK112 := n4_; have BK117 := n5_; have BK123 := n6_; have HB := n7_; clear n0_ n1_ n2_ n3_ n4_ n5_ n6_ n7_; (try clear hb); (try clear hb2); (try clear hk); (try clear hi); have hnb111 := NB101_112.out; have hnc111 := NB112_101.out; have hnb112 := NB101_117.out; have hnc112 := NB117_101.out; have hcz113_0 : w110.cell? ⟨gb101, 0, none⟩ = some (.int .i64 a0_0) := (blk_cell BK101.out 0).trans rfl; have hcz113_1 : w110.cell? ⟨gb101, 1, none⟩ = some (.slice A0_1 l0_1.length c0_1) := (blk_cell BK101.out 1).trans rfl; have hfz113_0 := blk_frozen BK101.out 0; have hfz113_1 := blk_frozen BK101.out 1) | ((with_reducible refine gate_callee (f := 16) rfl ?_); refine goesL_ (some 75) rfl rfl Try.func16 (by kernel_rfl) rfl #[.agg #[.int .i64 a0_0, .slice A0_1 l0_1.length c0_1]] rfl (by (try simp only [mA, mC, mN]); first | done | rfl | (simp only [List.length_drop, List.length_take]; rfl)) ?_; (with_reducible refine (laws_toCommittee.calls kj59 a0_0 _ _ l0_1 t136 t137 _ ?side1 ?side2 A101.out).mono ?_); (case side1 => repeat (first | exact (Kd.C_below HR0_1.out HB.out) | (with_reducible refine Kd.C_alloc ?_ _) | (with_reducible refine Kd.C_drewN ?_ _) | (with_reducible refine Kd.C_drew ?_))); (case side2 => exact HC0_1.out); rintro e w114 ⟨v138, rfl, ho0, hb⟩; refine ⟨_, rfl, ?_⟩; have n0_ := Aside0.mk (Kd.R_elder' (by (with_reducible repeat (first | apply qA | apply qN | apply qD)); exact HO_113001.out) (Kd.R_base ho0) hb); have n1_ := Aside0.mk (Kd.R_elder' (by (with_reducible repeat (first | apply qA | apply qN | apply qD)); exact HO_118001.out) (Kd.R_base ho0) hb); have n2_ := Aside0.mk (Kd.R_elder' (by (with_reducible repeat (first | apply qA | apply qN | apply qD)); exact HO_124001.out) (Kd.R_base ho0) hb); have n3_ := Aside0.mk (Kd.R_lower (Kd.R_new' (Kd.R_new' (Kd.R_new' ho0 (Kd.R_lt (by (with_reducible repeat (first | apply qA | apply qN | apply qD)); exact HO_113001.out))) (Kd.R_lt (by (with_reducible repeat (first | apply qA | apply qN | apply qD)); exact HO_118001.out))) (Kd.R_lt (by (with_reducible repeat (first | apply qA | apply qN | apply qD)); exact HO_124001.out))) (below_size (by repeat (first | (with_reducible first | exact HB.out | apply ba | apply bd | apply be | refine bs ?_ GE101.out | refine bs ?_ GE112.out | refine bs ?_ GE117.out | refine bs ?_ GE123.out) | exact HB.out)))); have n4_ := Aside0.mk (blk_below (g := gb101) (o := .cells #[.int .i64 a0_0, .slice A0_1 l0_1.length c0_1] 30 (0, 0)) (by (with_reducible repeat (first | refine kN ?_ _ | refine kD ?_ | refine kA ?_ _)); exact BK101.out) hb); have n5_ := Aside0.mk (blk_below (g := gb112) (o := .cells #[.int .i64 t107, .slice Ao22 t108.length co22] 24 (0, 0)) (by (with_reducible repeat (first | refine kN ?_ _ | refine kD ?_ | refine kA ?_ _)); exact BK112.out) hb); have n6_ := Aside0.mk (blk_below (g := gb117) (o := .cells #[.int .i64 t113, .slice Ao29 t131.length co29] 24 (0, 0)) (by (with_reducible repeat (first | refine kN ?_ _ | refine kD ?_ | refine kA ?_ _)); exact BK117.out) hb); have n7_ := Aside0.mk (blk_below (g := gb123) (o := .cells #[.int .i64 t118, .slice Ao36 t119.length co36] 24 (0, 0)) (by (with_reducible repeat (first | refine kN ?_ _ | refine kD ?_ | refine kA ?_ _)); exact BK123.out) hb); have n8_ := Aside0.mk (below_step (by repeat (first | (with_reducible first | exact HB.out | apply ba | apply bd | apply be | refine bs ?_ GE101.out | refine bs ?_ GE112.out | refine bs ?_ GE117.out | refine bs ?_ GE123.out) | exact HB.out)) hb); clear HO_113001; clear HO_118001; clear HO_124001; clear BK101; clear BK112; clear BK117; clear BK123; clear HB; have HO_113001 := n0_; have HO_118001 := n1_; have HO_124001 := n2_; have HO139 := n3_; have BK101 := n4_; have BK112 := n5_; have BK117 := n6_; have BK123 := n7_; have HB := n8_; clear n0_ n1_ n2_ n3_ n4_ n5_ n6_ n7_ n8_; (try clear hb); (try clear hb2); (try clear hk); (try clear hi); (try clear ho0); obtain ⟨Ao115, co115, eo115⟩ := Kd.R_slice HO139.out; subst eo115) | ((with_reducible refine gate_callee (f := 25) rfl ?_); refine goesL_ (some 76) rfl rfl Try.func25 (by kernel_rfl) rfl #[.agg #[.int .i64 t136, .slice Ao115 t137.length co115]] rfl (by (try simp only [mA, mC, mN]); first | done | rfl | (simp only [List.length_drop, List.length_take]; rfl)) ?_; (with_reducible refine (impl_LowerWeights.calls kj59 t136 _ _ t137 t140 t141 t144 _ ?side1 ?side2 A102.out).mono ?_); (case side1 => repeat (first | exact (Kd.R_reads' HO139.out).2.2 | (with_reducible refine Kd.C_alloc ?_ _) | (with_reducible refine Kd.C_drewN ?_ _) | (with_reducible refine Kd.C_drew ?_))); (case side2 => exact (Kd.R_reads' HO139.out).2.1); rintro e w116 ⟨v142, rfl, ho0, hb⟩; refine ⟨_, rfl, ?_⟩; have n0_ := Aside0.mk (Kd.R_elder' (by (with_reducible repeat (first | apply qA | apply qN | apply qD)); exact HO_113001.out) (Kd.R_base ho0) hb); have n1_ := Aside0.mk (Kd.R_elder' (by (with_reducible repeat (first | apply qA | apply qN | apply qD)); exact HO_118001.out) (Kd.R_base ho0) hb); have n2_ := Aside0.mk (Kd.R_elder' (by (with_reducible repeat (first | apply qA | apply qN | apply qD)); exact HO_124001.out) (Kd.R_base ho0) hb); have n3_ := Aside0.mk (Kd.R_elder' (by (with_reducible repeat (first | apply qA | apply qN | apply qD)); exact HO139.out) (Kd.R_base ho0) hb); have n4_ := Aside0.mk (Kd.R_lower (Kd.R_new' (Kd.R_new' (Kd.R_new' (Kd.R_new' ho0 (Kd.R_lt (by (with_reducible repeat (first | apply qA | apply qN | apply qD)); exact HO_113001.out))) (Kd.R_lt (by (with_reducible repeat (first | apply qA | apply qN | apply qD)); exact HO_118001.out))) (Kd.R_lt (by (with_reducible repeat (first | apply qA | apply qN | apply qD)); exact HO_124001.out))) (Kd.R_lt (by (with_reducible repeat (first | apply qA | apply qN | apply qD)); exact HO139.out))) (below_size (by repeat (first | (with_reducible first | exact HB.out | apply ba | apply bd | apply be | refine bs ?_ GE101.out | refine bs ?_ GE112.out | refine bs ?_ GE117.out | refine bs ?_ GE123.out) | exact HB.out)))); have n5_ := Aside0.mk (blk_below (g := gb101) (o := .cells #[.int .i64 a0_0, .slice A0_1 l0_1.length c0_1] 30 (0, 0)) (by (with_reducible repeat (first | refine kN ?_ _ | refine kD ?_ | refine kA ?_ _)); exact BK101.out) hb); have n6_ := Aside0.mk (blk_below (g := gb112) (o := .cells #[.int .i64 t107, .slice Ao22 t108.length co22] 24 (0, 0)) (by (with_reducible repeat (first | refine kN ?_ _ | refine kD ?_ | refine kA ?_ _)); exact BK112.out) hb); have n7_ := Aside0.mk (blk_below (g := gb117) (o := .cells #[.int .i64 t113, .slice Ao29 t131.length co29] 24 (0, 0)) (by (with_reducible repeat (first | refine kN ?_ _ | refine kD ?_ | refine kA ?_ _)); exact BK117.out) hb); have n8_ := Aside0.mk (blk_below (g := gb123) (o := .cells #[.int .i64 t118, .slice Ao36 t119.length co36] 24 (0, 0)) (by (with_reducible repeat (first | refine kN ?_ _ | refine kD ?_ | refine kA ?_ _)); exact BK123.out) hb); have n9_ := Aside0.mk (below_step (by repeat (first | (with_reducible first | exact HB.out | apply ba | apply bd | apply be | refine bs ?_ GE101.out | refine bs ?_ GE112.out | refine bs ?_ GE117.out | refine bs ?_ GE123.out) | exact HB.out)) hb); clear HO_113001; clear HO_118001; clear HO_124001; clear HO139; clear BK101; clear BK112; clear BK117; clear BK123; clear HB; have HO_113001 := n0_; have HO_118001 := n1_; have HO_124001 := n2_; have HO139 := n3_; have HO143 := n4_; have BK101 := n5_; have BK112 := n6_; have BK117 := n7_; have BK123 := n8_; have HB := n9_; clear n0_ n1_ n2_ n3_ n4_ n5_ n6_ n7_ n8_ n9_; (try clear hb); (try clear hb2); (try clear hk); (try clear hi); (try clear ho0)) | ((with_reducible refine gate_dst (N := 12) rfl ?_); refine box_event ?hg (N := 12) ?hd (cs := #[.int .i64 0, .slice none 0 0]) (t := 24) ?hr ?_; (case hd => rfl); (case hg => rfl); (case hr => first | (go_simp; done) | (go_simp; rfl)); intro gb145 hg w117 hbox hb; have n0_ := Aside0.mk (Kd.R_below (by (with_reducible repeat (first | apply qA | apply qN | apply qD)); exact HO_113001.out) hb); have n1_ := Aside0.mk (Kd.R_below (by (with_reducible repeat (first | apply qA | apply qN | apply qD)); exact HO_118001.out) hb); have n2_ := Aside0.mk (Kd.R_below (by (with_reducible repeat (first | apply qA | apply qN | apply qD)); exact HO_124001.out) hb); have n3_ := Aside0.mk (Kd.R_below (by (with_reducible repeat (first | apply qA | apply qN | apply qD)); exact HO139.out) hb); have n4_ := Aside0.mk (Kd.R_below (by (with_reducible repeat (first | apply qA | apply qN | apply qD)); exact HO143.out) hb); have n5_ := Aside0.mk (blk_below (g := gb101) (o := .cells #[.int .i64 a0_0, .slice A0_1 l0_1.length c0_1] 30 (0, 0)) (by (with_reducible repeat (first | refine kN ?_ _ | refine kD ?_ | refine kA ?_ _)); exact BK101.out) hb); have n6_ := Aside0.mk (blk_below (g := gb112) (o := .cells #[.int .i64 t107, .slice Ao22 t108.length co22] 24 (0, 0)) (by (with_reducible repeat (first | refine kN ?_ _ | refine kD ?_ | refine kA ?_ _)); exact BK112.out) hb); have n7_ := Aside0.mk (blk_below (g := gb117) (o := .cells #[.int .i64 t113, .slice Ao29 t131.length co29] 24 (0, 0)) (by (with_reducible repeat (first | refine kN ?_ _ | refine kD ?_ | refine kA ?_ _)); exact BK117.out) hb); have n8_ := Aside0.mk (blk_below (g := gb123) (o := .cells #[.int .i64 t118, .slice Ao36 t119.length co36] 24 (0, 0)) (by (with_reducible repeat (first | refine kN ?_ _ | refine kD ?_ | refine kA ?_ _)); exact BK123.out) hb); have n9_ := Aside0.mk (below_step (by repeat (first | (with_reducible first | exact HB.out | apply ba | apply bd | apply be | refine bs ?_ GE101.out | refine bs ?_ GE112.out | refine bs ?_ GE117.out | refine bs ?_ GE123.out) | exact HB.out)) hb); have n10_ := Aside0.mk (hbox); have n11_ := Aside0.mk ((by rw [hg]; exact (below_size (by repeat (first | (with_reducible first | exact HB.out | apply ba | apply bd | apply be | refine bs ?_ GE101.out | refine bs ?_ GE112.out | refine bs ?_ GE117.out | refine bs ?_ GE123.out) | exact HB.out))) : w.heap.size ≤ gb145)); have n12_ := Aside0.mk ((by rw [hg]; exact (below_size (by repeat (first | (with_reducible first | exact HB.out | apply ba | apply bd | apply be | refine bs ?_ GE101.out | refine bs ?_ GE112.out | refine bs ?_ GE117.out | refine bs ?_ GE123.out) | exact HB.out))) : w.heap.size ≤ gb145)); have n13_ := Aside0.mk ((by rw [hg]; exact Nat.ne_of_lt (blk_lt (g := gb101) (o := .cells #[.int .i64 a0_0, .slice A0_1 l0_1.length c0_1] 30 (0, 0)) (by (with_reducible repeat (first | refine kN ?_ _ | refine kD ?_ | refine kA ?_ _)); exact BK101.out)) : gb101 ≠ gb145)); have n14_ := Aside0.mk ((by rw [hg]; exact Nat.ne_of_gt (blk_lt (g := gb101) (o := .cells #[.int .i64 a0_0, .slice A0_1 l0_1.length c0_1] 30 (0, 0)) (by (with_reducible repeat (first | refine kN ?_ _ | refine kD ?_ | refine kA ?_ _)); exact BK101.out)) : gb145 ≠ gb101)); have n15_ := Aside0.mk ((by rw [hg]; exact Nat.ne_of_lt (blk_lt (g := gb112) (o := .cells #[.int .i64 t107, .slice Ao22 t108.length co22] 24 (0, 0)) (by (with_reducible repeat (first | refine kN ?_ _ | refine kD ?_ | refine kA ?_ _)); exact BK112.out)) : gb112 ≠ gb145)); have n16_ := Aside0.mk ((by rw [hg]; exact Nat.ne_of_gt (blk_lt (g := gb112) (o := .cells #[.int .i64 t107, .slice Ao22 t108.length co22] 24 (0, 0)) (by (with_reducible repeat (first | refine kN ?_ _ | refine kD ?_ | refine kA ?_ _)); exact BK112.out)) : gb145 ≠ gb112)); have n17_ := Aside0.mk ((by rw [hg]; exact Nat.ne_of_lt (blk_lt (g := gb117) (o := .cells #[.int .i64 t113, .slice Ao29 t131.length co29] 24 (0, 0)) (by (with_reducible repeat (first | refine kN ?_ _ | refine kD ?_ | refine kA ?_ _)); exact BK117.out)) : gb117 ≠ gb145)); have n18_ := Aside0.mk ((by rw [hg]; exact Nat.ne_of_gt (blk_lt (g := gb117) (o := .cells #[.int .i64 t113, .slice Ao29 t131.length co29] 24 (0, 0)) (by (with_reducible repeat (first | refine kN ?_ _ | refine kD ?_ | refine kA ?_ _)); exact BK117.out)) : gb145 ≠ gb117)); have n19_ := Aside0.mk ((by rw [hg]; exact Nat.ne_of_lt (blk_lt (g := gb123) (o := .cells #[.int .i64 t118, .slice Ao36 t119.length co36] 24 (0, 0)) (by (with_reducible repeat (first | refine kN ?_ _ | refine kD ?_ | refine kA ?_ _)); exact BK123.out)) : gb123 ≠ gb145)); have n20_ := Aside0.mk ((by rw [hg]; exact Nat.ne_of_gt (blk_lt (g := gb123) (o := .cells #[.int .i64 t118, .slice Ao36 t119.length co36] 24 (0, 0)) (by (with_reducible repeat (first | refine kN ?_ _ | refine kD ?_ | refine kA ?_ _)); exact BK123.out)) : gb145 ≠ gb123)); clear HO_113001; clear HO_118001; clear HO_124001; clear HO139; clear HO143; clear BK101; clear BK112; clear BK117; clear BK123; clear HB; have HO_113001 := n0_; have HO_118001 := n1_; have HO_124001 := n2_; have HO139 := n3_; have HO143 := n4_; have BK101 := n5_; have BK112 := n6_; have BK117 := n7_; have BK123 := n8_; have HB := n9_; have BK145 := n10_; have GW145 := n11_; have GE145 := n12_; have NB101_145 := n13_; have NB145_101 := n14_; have NB112_145 := n15_; have NB145_112 := n16_; have NB117_145 := n17_; have NB145_117 := n18_; have NB123_145 := n19_; have NB145_123 := n20_; clear n0_ n1_ n2_ n3_ n4_ n5_ n6_ n7_ n8_ n9_ n10_ n11_ n12_ n13_ n14_ n15_ n16_ n17_ n18_ n19_ n20_; clear hb hbox hg; have hnb118 := NB145_101.out; have hnc118 := NB101_145.out; have hnb119 := NB145_112.out; have hnc119 := NB112_145.out; have hnb120 := NB145_117.out; have hnc120 := NB117_145.out; have hnb121 := NB145_123.out; have hnc121 := NB123_145.out; have hcz122_0 : w117.cell? ⟨gb145, 0, none⟩ = some (.int .i64 0) := (blk_cell BK145.out 0).trans rfl; have hcz122_1 : w117.cell? ⟨gb145, 1, none⟩ = some (.slice none 0 0) := (blk_cell BK145.out 1).trans rfl; have hfz122_0 := blk_frozen BK145.out 0; have hfz122_1 := blk_frozen BK145.out 1; obtain ⟨Ao123, co123, eo123⟩ := Kd.R_slice HO143.out; subst eo123))
           (try simp only [Act.put, sA, sZ, sS])
           go_cut [87] (fun v87 wc => ∃ (kq : Nat) (x87_102 : Bool), v87 = .bool x87_102 ∧ Aside0 (laws_FnExactLowerWeights.j2 kq t133 x87_102 t118 t134 = some r) ∧ Aside0 (kq ≤ kj59) ∧ Aside0 (Kd.R (Kd.int .i64) 3 wc w.heap.size (fun k_ => some k_ ≠ ((.slice Ao29 t131.length co29) : Value).ownBlock ∧ some k_ ≠ ((.slice Ao36 t119.length co36) : Value).ownBlock ∧ some k_ ≠ ((.slice Ao123 t141.length co123) : Value).ownBlock) (.slice Ao22 t108.length co22) t108) ∧ Aside0 (Kd.R (Kd.int .i64) 3 wc w.heap.size (fun k_ => some k_ ≠ ((.slice Ao22 t108.length co22) : Value).ownBlock ∧ some k_ ≠ ((.slice Ao36 t119.length co36) : Value).ownBlock ∧ some k_ ≠ ((.slice Ao123 t141.length co123) : Value).ownBlock) (.slice Ao29 t131.length co29) t131) ∧ Aside0 (Kd.R (Kd.int .i64) 3 wc w.heap.size (fun k_ => some k_ ≠ ((.slice Ao22 t108.length co22) : Value).ownBlock ∧ some k_ ≠ ((.slice Ao29 t131.length co29) : Value).ownBlock ∧ some k_ ≠ ((.slice Ao123 t141.length co123) : Value).ownBlock) (.slice Ao36 t119.length co36) t134) ∧ Aside0 (Kd.R (Kd.int .i64) 3 wc w.heap.size (fun k_ => some k_ ≠ ((.slice Ao22 t108.length co22) : Value).ownBlock ∧ some k_ ≠ ((.slice Ao29 t131.length co29) : Value).ownBlock ∧ some k_ ≠ ((.slice Ao36 t119.length co36) : Value).ownBlock) (.slice Ao123 t141.length co123) t141) ∧ Aside0 (wc.heap[gb101]? = some (.cells #[.int .i64 a0_0, (.slice A0_1 l0_1.length c0_1)] 30 (0, 0))) ∧ Aside0 (wc.heap[gb112]? = some (.cells #[.int .i64 t107, (.slice Ao22 t108.length co22)] 24 (0, 0))) ∧ Aside0 (wc.heap[gb117]? = some (.cells #[.int .i64 t113, (.slice Ao29 t131.length co29)] 24 (0, 0))) ∧ Aside0 (wc.heap[gb123]? = some (.cells #[.int .i64 t118, (.slice Ao36 t119.length co36)] 24 (0, 0))) ∧ Aside0 (wc.heap[gb145]? = some (.cells #[.int .i64 t140, (.slice Ao123 t141.length co123)] 24 (0, 0))) ∧ Aside0 (Below w.heap.size w wc))
           case first =>
            have H := HC103.out
            clear HC103
            replace H := oB H
            obtain ⟨t146, A1240, H⟩ := H
            replace H : (if t146 = true then (laws_FnExactLowerWeights.j2 kj59 t133 (t144 != t111) t118 t134) else (laws_FnExactLowerWeights.j2 kj59 t133 true t118 t134)) = some r := H
            have A124 := Aside0.mk A1240
            clear A1240
            by_cases c125 : t146 = true
            ·subst c125
             have H1 : (laws_FnExactLowerWeights.j2 kj59 t133 (t144 != t111) t118 t134) = some r := by rw [if_pos rfl] at H; exact H
             clear H
             have H := H1
             clear H1
             have H' := Aside0.mk H
             clear H
             have hnb126 := NB145_101.out
             have hnc126 := NB101_145.out
             have hnb127 := NB145_112.out
             have hnc127 := NB112_145.out
             have hnb128 := NB145_117.out
             have hnc128 := NB117_145.out
             have hnb129 := NB145_123.out
             have hnc129 := NB123_145.out
             have hcz130_0 : w117.cell? ⟨gb145, 0, none⟩ = some (.int .i64 0) := (blk_cell BK145.out 0).trans rfl
             have hcz130_1 : w117.cell? ⟨gb145, 1, none⟩ = some (.slice none 0 0) := (blk_cell BK145.out 1).trans rfl
             have hfz130_0 := blk_frozen BK145.out 0
             have hfz130_1 := blk_frozen BK145.out 1
             have hnb131 := NB112_101.out
             have hnc131 := NB101_112.out
             have hnb132 := NB112_117.out
             have hnc132 := NB117_112.out
             have hnb133 := NB112_123.out
             have hnc133 := NB123_112.out
             have hcz134_0 : w117.cell? ⟨gb112, 0, none⟩ = some (.int .i64 t107) := (blk_cell BK112.out 0).trans rfl
             have hcz134_1 : w117.cell? ⟨gb112, 1, none⟩ = some (.slice Ao22 t108.length co22) := (blk_cell BK112.out 1).trans rfl
             have hfz134_0 := blk_frozen BK112.out 0
             have hfz134_1 := blk_frozen BK112.out 1
             go_wp2_with (first | ((with_reducible refine gate_callee (f := 11) rfl ?_); refine goesL_ (some 81) rfl rfl Try.func11 (by kernel_rfl) rfl #[.agg #[.int .i64 t140, .slice Ao123 t141.length co123], .agg #[.int .i64 t107, .slice Ao22 t108.length co22]] rfl (by (try simp only [mA, mC, mN]); first | done | rfl | (simp only [List.length_drop, List.length_take]; rfl)) ?_; (with_reducible refine (laws_eqCommittee.calls kj59 t140 _ _ t141 t107 _ _ t108 true _ ?side1 ?side2 ?side3 ?side4 A124.out).mono ?_); (case side1 => refine (Kd.R_reads' (e := 3) (base := w.heap.size) (ok := fun k_ => ((((True ∧ some k_ ≠ (.slice Ao22 t108.length co22 : Value).ownBlock) ∧ some k_ ≠ (.slice Ao29 t131.length co29 : Value).ownBlock) ∧ some k_ ≠ (.slice Ao36 t119.length co36 : Value).ownBlock) ∧ some k_ ≠ (.slice Ao115 t137.length co115 : Value).ownBlock)) (n := t141.length) (c := co123) ?_).2.2; exact (by (with_reducible repeat (first | apply qA | apply qN | apply qD)); exact (Kd.R_mono (Kd.R_far (p := ⟨gb145, 1, none⟩) (Kd.R_far (p := ⟨gb145, 0, none⟩) (Kd.R_types HO143.out BK145.out (by decide)) (fun _ hk => hk.2) (.int .i64 t140)) (fun _ hk => hk.2) (.slice Ao123 t141.length co123)) (fun _ h_ => h_.1)))); (case side2 => exact (Kd.R_reads' HO143.out).2.1); (case side3 => refine (Kd.R_reads' (e := 3) (base := w.heap.size) (ok := fun k_ => (((some k_ ≠ (.slice Ao29 t131.length co29 : Value).ownBlock ∧ some k_ ≠ (.slice Ao36 t119.length co36 : Value).ownBlock) ∧ some k_ ≠ (.slice Ao115 t137.length co115 : Value).ownBlock) ∧ some k_ ≠ (.slice Ao123 t141.length co123 : Value).ownBlock)) (n := t108.length) (c := co22) ?_).2.2; exact (by (with_reducible repeat (first | apply qA | apply qN | apply qD)); exact (Kd.R_mono (Kd.R_far (p := ⟨gb145, 1, none⟩) (Kd.R_far (p := ⟨gb145, 0, none⟩) (Kd.R_types HO_113001.out BK145.out (by decide)) (fun _ hk => hk.2) (.int .i64 t140)) (fun _ hk => hk.2) (.slice Ao123 t141.length co123)) (fun _ h_ => h_.1)))); (case side4 => exact (Kd.R_reads' HO_113001.out).2.1); rintro e w135 ⟨rfl, hb⟩; refine ⟨_, rfl, ?_⟩; have n0_ := Aside0.mk (Kd.R_below (by (with_reducible repeat (first | apply qA | apply qN | apply qD)); exact (Kd.R_mono (Kd.R_far (p := ⟨gb145, 1, none⟩) (Kd.R_far (p := ⟨gb145, 0, none⟩) (Kd.R_types HO_113001.out BK145.out (by decide)) (fun _ hk => hk.2) (.int .i64 t140)) (fun _ hk => hk.2) (.slice Ao123 t141.length co123)) (fun _ h_ => h_.1))) hb); have n1_ := Aside0.mk (Kd.R_below (by (with_reducible repeat (first | apply qA | apply qN | apply qD)); exact (Kd.R_mono (Kd.R_far (p := ⟨gb145, 1, none⟩) (Kd.R_far (p := ⟨gb145, 0, none⟩) (Kd.R_types HO_118001.out BK145.out (by decide)) (fun _ hk => hk.2) (.int .i64 t140)) (fun _ hk => hk.2) (.slice Ao123 t141.length co123)) (fun _ h_ => h_.1))) hb); have n2_ := Aside0.mk (Kd.R_below (by (with_reducible repeat (first | apply qA | apply qN | apply qD)); exact (Kd.R_mono (Kd.R_far (p := ⟨gb145, 1, none⟩) (Kd.R_far (p := ⟨gb145, 0, none⟩) (Kd.R_types HO_124001.out BK145.out (by decide)) (fun _ hk => hk.2) (.int .i64 t140)) (fun _ hk => hk.2) (.slice Ao123 t141.length co123)) (fun _ h_ => h_.1))) hb); have n3_ := Aside0.mk (Kd.R_below (by (with_reducible repeat (first | apply qA | apply qN | apply qD)); exact (Kd.R_mono (Kd.R_far (p := ⟨gb145, 1, none⟩) (Kd.R_far (p := ⟨gb145, 0, none⟩) (Kd.R_types HO139.out BK145.out (by decide)) (fun _ hk => hk.2) (.int .i64 t140)) (fun _ hk => hk.2) (.slice Ao123 t141.length co123)) (fun _ h_ => h_.1))) hb); have n4_ := Aside0.mk (Kd.R_below (by (with_reducible repeat (first | apply qA | apply qN | apply qD)); exact (Kd.R_mono (Kd.R_far (p := ⟨gb145, 1, none⟩) (Kd.R_far (p := ⟨gb145, 0, none⟩) (Kd.R_types HO143.out BK145.out (by decide)) (fun _ hk => hk.2) (.int .i64 t140)) (fun _ hk => hk.2) (.slice Ao123 t141.length co123)) (fun _ h_ => h_.1))) hb); have n5_ := Aside0.mk (blk_below (g := gb101) (o := .cells #[.int .i64 a0_0, .slice A0_1 l0_1.length c0_1] 30 (0, 0)) (by (with_reducible repeat (first | refine kN ?_ _ | refine kD ?_ | refine kA ?_ _)); refine blk_far ?_ NB101_145.out _; (with_reducible repeat (first | refine kN ?_ _ | refine kD ?_ | refine kA ?_ _)); refine blk_far ?_ NB101_145.out _; (with_reducible repeat (first | refine kN ?_ _ | refine kD ?_ | refine kA ?_ _)); exact BK101.out) hb); have n6_ := Aside0.mk (blk_below (g := gb112) (o := .cells #[.int .i64 t107, .slice Ao22 t108.length co22] 24 (0, 0)) (by (with_reducible repeat (first | refine kN ?_ _ | refine kD ?_ | refine kA ?_ _)); refine blk_far ?_ NB112_145.out _; (with_reducible repeat (first | refine kN ?_ _ | refine kD ?_ | refine kA ?_ _)); refine blk_far ?_ NB112_145.out _; (with_reducible repeat (first | refine kN ?_ _ | refine kD ?_ | refine kA ?_ _)); exact BK112.out) hb); have n7_ := Aside0.mk (blk_below (g := gb117) (o := .cells #[.int .i64 t113, .slice Ao29 t131.length co29] 24 (0, 0)) (by (with_reducible repeat (first | refine kN ?_ _ | refine kD ?_ | refine kA ?_ _)); refine blk_far ?_ NB117_145.out _; (with_reducible repeat (first | refine kN ?_ _ | refine kD ?_ | refine kA ?_ _)); refine blk_far ?_ NB117_145.out _; (with_reducible repeat (first | refine kN ?_ _ | refine kD ?_ | refine kA ?_ _)); exact BK117.out) hb); have n8_ := Aside0.mk (blk_below (g := gb123) (o := .cells #[.int .i64 t118, .slice Ao36 t119.length co36] 24 (0, 0)) (by (with_reducible repeat (first | refine kN ?_ _ | refine kD ?_ | refine kA ?_ _)); refine blk_far ?_ NB123_145.out _; (with_reducible repeat (first | refine kN ?_ _ | refine kD ?_ | refine kA ?_ _)); refine blk_far ?_ NB123_145.out _; (with_reducible repeat (first | refine kN ?_ _ | refine kD ?_ | refine kA ?_ _)); exact BK123.out) hb); have n9_ := Aside0.mk (blk_below (g := gb145) (o := .cells #[.int .i64 t140, .slice Ao123 t141.length co123] 24 (0, 0)) (by (with_reducible repeat (first | refine kN ?_ _ | refine kD ?_ | refine kA ?_ _)); refine blk_put (cs := #[.int .i64 t140, .slice none 0 0]) ?_ 1 _ rfl; (with_reducible repeat (first | refine kN ?_ _ | refine kD ?_ | refine kA ?_ _)); refine blk_put (cs := #[.int .i64 0, .slice none 0 0]) ?_ 0 _ rfl; (with_reducible repeat (first | refine kN ?_ _ | refine kD ?_ | refine kA ?_ _)); exact BK145.out) hb); have n10_ := Aside0.mk (below_step (by repeat (first | (with_reducible first | exact HB.out | apply ba | apply bd | apply be | refine bs ?_ GE101.out | refine bs ?_ GE112.out | refine bs ?_ GE117.out | refine bs ?_ GE123.out | refine bs ?_ GE145.out) | exact HB.out)) hb); clear HO_113001; clear HO_118001; clear HO_124001; clear HO139; clear HO143; clear BK101; clear BK112; clear BK117; clear BK123; clear BK145; clear HB; have HO_113001 := n0_; have HO_118001 := n1_; have HO_124001 := n2_; have HO139 := n3_; have HO143 := n4_; have BK101 := n5_; have BK112 := n6_; have BK117 := n7_; have BK123 := n8_; have BK145 := n9_; have HB := n10_; clear n0_ n1_ n2_ n3_ n4_ n5_ n6_ n7_ n8_ n9_ n10_; (try clear hb); (try clear hb2); (try clear hk); (try clear hi)))
             go_meet
             case rel => exact ⟨_, ((t144 != t111)), (by first | rfl | (simp; done) | (simp [*]; done)), H', ⟨by have := HJ10.out; have := HJ59.out; first | omega | exact Nat.le_refl _⟩, ⟨by (try simp only [hl118001_59]); (with_reducible repeat (first | apply qA | apply qN | apply qD)); exact Kd.R_mono HO_113001.out (fun _ hk => ⟨hk.1.1.1, ⟨hk.1.1.2, hk.2⟩⟩)⟩, ⟨by (try simp only [hl118001_59]); (with_reducible repeat (first | apply qA | apply qN | apply qD)); exact Kd.R_mono HO_118001.out (fun _ hk => ⟨hk.1.1.1, ⟨hk.1.1.2, hk.2⟩⟩)⟩, ⟨by (try simp only [hl118001_59]); (with_reducible repeat (first | apply qA | apply qN | apply qD)); exact Kd.R_mono HO_124001.out (fun _ hk => ⟨hk.1.1.1, ⟨hk.1.1.2, hk.2⟩⟩)⟩, ⟨by (try simp only [hl118001_59]); (with_reducible repeat (first | apply qA | apply qN | apply qD)); exact Kd.R_mono HO143.out (fun _ hk => ⟨hk.1.1.1.2, ⟨hk.1.1.2, hk.1.2⟩⟩)⟩, ⟨by (try simp only [hl118001_59]); (with_reducible repeat (first | refine kN ?_ _ | refine kD ?_ | refine kA ?_ _)); exact BK101.out⟩, ⟨by (try simp only [hl118001_59]); (with_reducible repeat (first | refine kN ?_ _ | refine kD ?_ | refine kA ?_ _)); exact BK112.out⟩, ⟨by (try simp only [hl118001_59]); (with_reducible repeat (first | refine kN ?_ _ | refine kD ?_ | refine kA ?_ _)); exact BK117.out⟩, ⟨by (try simp only [hl118001_59]); (with_reducible repeat (first | refine kN ?_ _ | refine kD ?_ | refine kA ?_ _)); exact BK123.out⟩, ⟨by (try simp only [hl118001_59]); (with_reducible repeat (first | refine kN ?_ _ | refine kD ?_ | refine kA ?_ _)); exact BK145.out⟩, ⟨by repeat (first | (with_reducible first | exact HB.out | apply ba | apply bd | apply be | refine bs ?_ GE101.out | refine bs ?_ GE112.out | refine bs ?_ GE117.out | refine bs ?_ GE123.out | refine bs ?_ GE145.out) | exact HB.out)⟩⟩
            ·replace c125 := Bool.eq_false_iff.mpr c125
             subst c125
             have H1 : (laws_FnExactLowerWeights.j2 kj59 t133 true t118 t134) = some r := by rw [if_neg (show ¬ (false = true) by decide)] at H; exact H
             clear H
             have H := H1
             clear H1
             have H' := Aside0.mk H
             clear H
             have hnb136 := NB145_101.out
             have hnc136 := NB101_145.out
             have hnb137 := NB145_112.out
             have hnc137 := NB112_145.out
             have hnb138 := NB145_117.out
             have hnc138 := NB117_145.out
             have hnb139 := NB145_123.out
             have hnc139 := NB123_145.out
             have hcz140_0 : w117.cell? ⟨gb145, 0, none⟩ = some (.int .i64 0) := (blk_cell BK145.out 0).trans rfl
             have hcz140_1 : w117.cell? ⟨gb145, 1, none⟩ = some (.slice none 0 0) := (blk_cell BK145.out 1).trans rfl
             have hfz140_0 := blk_frozen BK145.out 0
             have hfz140_1 := blk_frozen BK145.out 1
             have hnb141 := NB112_101.out
             have hnc141 := NB101_112.out
             have hnb142 := NB112_117.out
             have hnc142 := NB117_112.out
             have hnb143 := NB112_123.out
             have hnc143 := NB123_112.out
             have hcz144_0 : w117.cell? ⟨gb112, 0, none⟩ = some (.int .i64 t107) := (blk_cell BK112.out 0).trans rfl
             have hcz144_1 : w117.cell? ⟨gb112, 1, none⟩ = some (.slice Ao22 t108.length co22) := (blk_cell BK112.out 1).trans rfl
             have hfz144_0 := blk_frozen BK112.out 0
             have hfz144_1 := blk_frozen BK112.out 1
             go_wp2_with (first | ((with_reducible refine gate_callee (f := 11) rfl ?_); refine goesL_ (some 81) rfl rfl Try.func11 (by kernel_rfl) rfl #[.agg #[.int .i64 t140, .slice Ao123 t141.length co123], .agg #[.int .i64 t107, .slice Ao22 t108.length co22]] rfl (by (try simp only [mA, mC, mN]); first | done | rfl | (simp only [List.length_drop, List.length_take]; rfl)) ?_; (with_reducible refine (laws_eqCommittee.calls kj59 t140 _ _ t141 t107 _ _ t108 false _ ?side1 ?side2 ?side3 ?side4 A124.out).mono ?_); (case side1 => refine (Kd.R_reads' (e := 3) (base := w.heap.size) (ok := fun k_ => ((((True ∧ some k_ ≠ (.slice Ao22 t108.length co22 : Value).ownBlock) ∧ some k_ ≠ (.slice Ao29 t131.length co29 : Value).ownBlock) ∧ some k_ ≠ (.slice Ao36 t119.length co36 : Value).ownBlock) ∧ some k_ ≠ (.slice Ao115 t137.length co115 : Value).ownBlock)) (n := t141.length) (c := co123) ?_).2.2; exact (by (with_reducible repeat (first | apply qA | apply qN | apply qD)); exact (Kd.R_mono (Kd.R_far (p := ⟨gb145, 1, none⟩) (Kd.R_far (p := ⟨gb145, 0, none⟩) (Kd.R_types HO143.out BK145.out (by decide)) (fun _ hk => hk.2) (.int .i64 t140)) (fun _ hk => hk.2) (.slice Ao123 t141.length co123)) (fun _ h_ => h_.1)))); (case side2 => exact (Kd.R_reads' HO143.out).2.1); (case side3 => refine (Kd.R_reads' (e := 3) (base := w.heap.size) (ok := fun k_ => (((some k_ ≠ (.slice Ao29 t131.length co29 : Value).ownBlock ∧ some k_ ≠ (.slice Ao36 t119.length co36 : Value).ownBlock) ∧ some k_ ≠ (.slice Ao115 t137.length co115 : Value).ownBlock) ∧ some k_ ≠ (.slice Ao123 t141.length co123 : Value).ownBlock)) (n := t108.length) (c := co22) ?_).2.2; exact (by (with_reducible repeat (first | apply qA | apply qN | apply qD)); exact (Kd.R_mono (Kd.R_far (p := ⟨gb145, 1, none⟩) (Kd.R_far (p := ⟨gb145, 0, none⟩) (Kd.R_types HO_113001.out BK145.out (by decide)) (fun _ hk => hk.2) (.int .i64 t140)) (fun _ hk => hk.2) (.slice Ao123 t141.length co123)) (fun _ h_ => h_.1)))); (case side4 => exact (Kd.R_reads' HO_113001.out).2.1); rintro e w145 ⟨rfl, hb⟩; refine ⟨_, rfl, ?_⟩; have n0_ := Aside0.mk (Kd.R_below (by (with_reducible repeat (first | apply qA | apply qN | apply qD)); exact (Kd.R_mono (Kd.R_far (p := ⟨gb145, 1, none⟩) (Kd.R_far (p := ⟨gb145, 0, none⟩) (Kd.R_types HO_113001.out BK145.out (by decide)) (fun _ hk => hk.2) (.int .i64 t140)) (fun _ hk => hk.2) (.slice Ao123 t141.length co123)) (fun _ h_ => h_.1))) hb); have n1_ := Aside0.mk (Kd.R_below (by (with_reducible repeat (first | apply qA | apply qN | apply qD)); exact (Kd.R_mono (Kd.R_far (p := ⟨gb145, 1, none⟩) (Kd.R_far (p := ⟨gb145, 0, none⟩) (Kd.R_types HO_118001.out BK145.out (by decide)) (fun _ hk => hk.2) (.int .i64 t140)) (fun _ hk => hk.2) (.slice Ao123 t141.length co123)) (fun _ h_ => h_.1))) hb); have n2_ := Aside0.mk (Kd.R_below (by (with_reducible repeat (first | apply qA | apply qN | apply qD)); exact (Kd.R_mono (Kd.R_far (p := ⟨gb145, 1, none⟩) (Kd.R_far (p := ⟨gb145, 0, none⟩) (Kd.R_types HO_124001.out BK145.out (by decide)) (fun _ hk => hk.2) (.int .i64 t140)) (fun _ hk => hk.2) (.slice Ao123 t141.length co123)) (fun _ h_ => h_.1))) hb); have n3_ := Aside0.mk (Kd.R_below (by (with_reducible repeat (first | apply qA | apply qN | apply qD)); exact (Kd.R_mono (Kd.R_far (p := ⟨gb145, 1, none⟩) (Kd.R_far (p := ⟨gb145, 0, none⟩) (Kd.R_types HO139.out BK145.out (by decide)) (fun _ hk => hk.2) (.int .i64 t140)) (fun _ hk => hk.2) (.slice Ao123 t141.length co123)) (fun _ h_ => h_.1))) hb); have n4_ := Aside0.mk (Kd.R_below (by (with_reducible repeat (first | apply qA | apply qN | apply qD)); exact (Kd.R_mono (Kd.R_far (p := ⟨gb145, 1, none⟩) (Kd.R_far (p := ⟨gb145, 0, none⟩) (Kd.R_types HO143.out BK145.out (by decide)) (fun _ hk => hk.2) (.int .i64 t140)) (fun _ hk => hk.2) (.slice Ao123 t141.length co123)) (fun _ h_ => h_.1))) hb); have n5_ := Aside0.mk (blk_below (g := gb101) (o := .cells #[.int .i64 a0_0, .slice A0_1 l0_1.length c0_1] 30 (0, 0)) (by (with_reducible repeat (first | refine kN ?_ _ | refine kD ?_ | refine kA ?_ _)); refine blk_far ?_ NB101_145.out _; (with_reducible repeat (first | refine kN ?_ _ | refine kD ?_ | refine kA ?_ _)); refine blk_far ?_ NB101_145.out _; (with_reducible repeat (first | refine kN ?_ _ | refine kD ?_ | refine kA ?_ _)); exact BK101.out) hb); have n6_ := Aside0.mk (blk_below (g := gb112) (o := .cells #[.int .i64 t107, .slice Ao22 t108.length co22] 24 (0, 0)) (by (with_reducible repeat (first | refine kN ?_ _ | refine kD ?_ | refine kA ?_ _)); refine blk_far ?_ NB112_145.out _; (with_reducible repeat (first | refine kN ?_ _ | refine kD ?_ | refine kA ?_ _)); refine blk_far ?_ NB112_145.out _; (with_reducible repeat (first | refine kN ?_ _ | refine kD ?_ | refine kA ?_ _)); exact BK112.out) hb); have n7_ := Aside0.mk (blk_below (g := gb117) (o := .cells #[.int .i64 t113, .slice Ao29 t131.length co29] 24 (0, 0)) (by (with_reducible repeat (first | refine kN ?_ _ | refine kD ?_ | refine kA ?_ _)); refine blk_far ?_ NB117_145.out _; (with_reducible repeat (first | refine kN ?_ _ | refine kD ?_ | refine kA ?_ _)); refine blk_far ?_ NB117_145.out _; (with_reducible repeat (first | refine kN ?_ _ | refine kD ?_ | refine kA ?_ _)); exact BK117.out) hb); have n8_ := Aside0.mk (blk_below (g := gb123) (o := .cells #[.int .i64 t118, .slice Ao36 t119.length co36] 24 (0, 0)) (by (with_reducible repeat (first | refine kN ?_ _ | refine kD ?_ | refine kA ?_ _)); refine blk_far ?_ NB123_145.out _; (with_reducible repeat (first | refine kN ?_ _ | refine kD ?_ | refine kA ?_ _)); refine blk_far ?_ NB123_145.out _; (with_reducible repeat (first | refine kN ?_ _ | refine kD ?_ | refine kA ?_ _)); exact BK123.out) hb); have n9_ := Aside0.mk (blk_below (g := gb145) (o := .cells #[.int .i64 t140, .slice Ao123 t141.length co123] 24 (0, 0)) (by (with_reducible repeat (first | refine kN ?_ _ | refine kD ?_ | refine kA ?_ _)); refine blk_put (cs := #[.int .i64 t140, .slice none 0 0]) ?_ 1 _ rfl; (with_reducible repeat (first | refine kN ?_ _ | refine kD ?_ | refine kA ?_ _)); refine blk_put (cs := #[.int .i64 0, .slice none 0 0]) ?_ 0 _ rfl; (with_reducible repeat (first | refine kN ?_ _ | refine kD ?_ | refine kA ?_ _)); exact BK145.out) hb); have n10_ := Aside0.mk (below_step (by repeat (first | (with_reducible first | exact HB.out | apply ba | apply bd | apply be | refine bs ?_ GE101.out | refine bs ?_ GE112.out | refine bs ?_ GE117.out | refine bs ?_ GE123.out | refine bs ?_ GE145.out) | exact HB.out)) hb); clear HO_113001; clear HO_118001; clear HO_124001; clear HO139; clear HO143; clear BK101; clear BK112; clear BK117; clear BK123; clear BK145; clear HB; have HO_113001 := n0_; have HO_118001 := n1_; have HO_124001 := n2_; have HO139 := n3_; have HO143 := n4_; have BK101 := n5_; have BK112 := n6_; have BK117 := n7_; have BK123 := n8_; have BK145 := n9_; have HB := n10_; clear n0_ n1_ n2_ n3_ n4_ n5_ n6_ n7_ n8_ n9_ n10_; (try clear hb); (try clear hb2); (try clear hk); (try clear hi)))
             go_meet
             case rel => exact ⟨_, (true), (by first | rfl | (simp; done) | (simp [*]; done)), H', ⟨by have := HJ10.out; have := HJ59.out; first | omega | exact Nat.le_refl _⟩, ⟨by (try simp only [hl118001_59]); (with_reducible repeat (first | apply qA | apply qN | apply qD)); exact Kd.R_mono HO_113001.out (fun _ hk => ⟨hk.1.1.1, ⟨hk.1.1.2, hk.2⟩⟩)⟩, ⟨by (try simp only [hl118001_59]); (with_reducible repeat (first | apply qA | apply qN | apply qD)); exact Kd.R_mono HO_118001.out (fun _ hk => ⟨hk.1.1.1, ⟨hk.1.1.2, hk.2⟩⟩)⟩, ⟨by (try simp only [hl118001_59]); (with_reducible repeat (first | apply qA | apply qN | apply qD)); exact Kd.R_mono HO_124001.out (fun _ hk => ⟨hk.1.1.1, ⟨hk.1.1.2, hk.2⟩⟩)⟩, ⟨by (try simp only [hl118001_59]); (with_reducible repeat (first | apply qA | apply qN | apply qD)); exact Kd.R_mono HO143.out (fun _ hk => ⟨hk.1.1.1.2, ⟨hk.1.1.2, hk.1.2⟩⟩)⟩, ⟨by (try simp only [hl118001_59]); (with_reducible repeat (first | refine kN ?_ _ | refine kD ?_ | refine kA ?_ _)); exact BK101.out⟩, ⟨by (try simp only [hl118001_59]); (with_reducible repeat (first | refine kN ?_ _ | refine kD ?_ | refine kA ?_ _)); exact BK112.out⟩, ⟨by (try simp only [hl118001_59]); (with_reducible repeat (first | refine kN ?_ _ | refine kD ?_ | refine kA ?_ _)); exact BK117.out⟩, ⟨by (try simp only [hl118001_59]); (with_reducible repeat (first | refine kN ?_ _ | refine kD ?_ | refine kA ?_ _)); exact BK123.out⟩, ⟨by (try simp only [hl118001_59]); (with_reducible repeat (first | refine kN ?_ _ | refine kD ?_ | refine kA ?_ _)); exact BK145.out⟩, ⟨by repeat (first | (with_reducible first | exact HB.out | apply ba | apply bd | apply be | refine bs ?_ GE101.out | refine bs ?_ GE112.out | refine bs ?_ GE117.out | refine bs ?_ GE123.out | refine bs ?_ GE145.out) | exact HB.out)⟩⟩
           case rest =>
            clear HC103
            try clear c1
            try clear c2
            try clear p2
            try clear c3
            try clear c3b0
            try clear c4
            try clear c5
            try clear c6
            try clear c7
            try clear c8
            try clear c9
            try clear c10
            try clear c11
            try clear c12
            try clear c13
            try clear c14
            try clear c16
            try clear c20
            try clear c24
            try clear c25
            try clear c26
            try clear c27
            try clear c32
            try clear c33
            try clear c34
            try clear c38
            try clear c39
            try clear c40
            try clear c41
            try clear c43
            try clear c44
            try clear c47
            try clear c48
            try clear c49
            try clear c51
            try clear c52
            try clear c55
            try clear c58
            try clear c65
            try clear c66
            try clear c67
            try clear c70
            try clear c70b0
            try clear c72
            try clear c73
            try clear c74
            try clear c75
            try clear c77
            try clear c78
            try clear c81
            try clear c82
            try clear c83
            try clear c85
            try clear c86
            try clear c89
            try clear c92
            try clear c92b0
            try clear c93
            try clear c94
            try clear c95
            try clear c100
            try clear c100b0
            try clear c100b1
            try clear c104
            try clear c105
            try clear c106
            try clear c111
            try clear c112
            try clear c118
            try clear c119
            try clear c120
            try clear c121
            try clear c125
            try clear c126
            try clear c127
            try clear c128
            try clear c129
            try clear c131
            try clear c132
            try clear c133
            try clear c136
            try clear c137
            try clear c138
            try clear c139
            try clear c141
            try clear c142
            try clear c143
            try clear hcz107_0
            try clear hcz107_1
            try clear hcz109_0
            try clear hcz109_1
            try clear hcz113_0
            try clear hcz113_1
            try clear hcz122_0
            try clear hcz122_1
            try clear hcz130_0
            try clear hcz130_1
            try clear hcz134_0
            try clear hcz134_1
            try clear hcz13_0
            try clear hcz13_1
            try clear hcz140_0
            try clear hcz140_1
            try clear hcz144_0
            try clear hcz144_1
            try clear hcz15_0
            try clear hcz15_1
            try clear hcz21_0
            try clear hcz21_1
            try clear hcz23_0
            try clear hcz23_1
            try clear hcz28_0
            try clear hcz28_1
            try clear hcz35_0
            try clear hcz35_1
            try clear hcz42_0
            try clear hcz42_1
            try clear hcz45_0
            try clear hcz45_1
            try clear hcz50_0
            try clear hcz50_1
            try clear hcz53_0
            try clear hcz53_1
            try clear hcz5_0
            try clear hcz5_1
            try clear hcz68_0
            try clear hcz68_1
            try clear hcz76_0
            try clear hcz76_1
            try clear hcz79_0
            try clear hcz79_1
            try clear hcz84_0
            try clear hcz84_1
            try clear hcz87_0
            try clear hcz87_1
            try clear hcz96_0
            try clear hcz96_1
            try clear hcz98_0
            try clear hcz98_1
            try clear hfz107_0
            try clear hfz107_1
            try clear hfz109_0
            try clear hfz109_1
            try clear hfz113_0
            try clear hfz113_1
            try clear hfz122_0
            try clear hfz122_1
            try clear hfz130_0
            try clear hfz130_1
            try clear hfz134_0
            try clear hfz134_1
            try clear hfz13_0
            try clear hfz13_1
            try clear hfz140_0
            try clear hfz140_1
            try clear hfz144_0
            try clear hfz144_1
            try clear hfz15_0
            try clear hfz15_1
            try clear hfz21_0
            try clear hfz21_1
            try clear hfz23_0
            try clear hfz23_1
            try clear hfz28_0
            try clear hfz28_1
            try clear hfz35_0
            try clear hfz35_1
            try clear hfz42_0
            try clear hfz42_1
            try clear hfz45_0
            try clear hfz45_1
            try clear hfz50_0
            try clear hfz50_1
            try clear hfz53_0
            try clear hfz53_1
            try clear hfz5_0
            try clear hfz5_1
            try clear hfz68_0
            try clear hfz68_1
            try clear hfz76_0
            try clear hfz76_1
            try clear hfz79_0
            try clear hfz79_1
            try clear hfz84_0
            try clear hfz84_1
            try clear hfz87_0
            try clear hfz87_1
            try clear hfz96_0
            try clear hfz96_1
            try clear hfz98_0
            try clear hfz98_1
            try clear p2
            obtain ⟨kq, x87_102, rfl, HA, HJ102, HO_113001, HO_118001, HO_124001, HO_146001, BK101, BK112, BK117, BK123, BK145, HB⟩ := hcut
            have hl124001_102 := (Kd.R_reads' HO_124001.out).1
            rw [hl124001_102] at HO_124001
            (try simp only [hl124001_102])
            (try simp only [hl124001_102] at BK101)
            (try simp only [hl124001_102] at BK112)
            (try simp only [hl124001_102] at BK117)
            (try simp only [hl124001_102] at BK123)
            (try simp only [hl124001_102] at BK145)
            (try simp only [hl124001_102] at HO_113001)
            (try simp only [hl124001_102] at HO_118001)
            (try simp only [hl124001_102] at HO_146001)
            cases kq with
            | zero => exact absurd HA.out (by simp [laws_FnExactLowerWeights.j2])
            | succ kj102 =>
             have H := HA.out
             clear HA
             simp only [laws_FnExactLowerWeights.j2] at H
             by_cases c146 : x87_102 = true
             ·subst c146
              have H1 : (some false) = some r := by rw [if_pos rfl] at H; exact H
              clear H
              have H := H1
              clear H1
              obtain rfl := Option.some.inj H
              go_wp2
              go_ret
              exact ⟨by first | rfl | (simp <;> rfl) | (simp [*] <;> rfl), by repeat (first | (with_reducible first | exact HB.out | apply ba | apply bd | apply be | refine bs ?_ GE101.out | refine bs ?_ GE112.out | refine bs ?_ GE117.out | refine bs ?_ GE123.out | refine bs ?_ GE145.out) | exact HB.out)⟩
             ·replace c146 := Bool.eq_false_iff.mpr c146
              subst c146
              have H1 : ((laws_heldCommittee.f kj102 t118 t134 1).bind fun t147 => (if t147 < 0 then (some false) else (if t147 = t133 then (some true) else (some false)))) = some r := by rw [if_neg (show ¬ (false = true) by decide)] at H; exact H
              clear H
              have H := H1
              clear H1
              replace H := oB H
              obtain ⟨t147, A1470, H⟩ := H
              replace H : (if t147 < 0 then (some false) else (if t147 = t133 then (some true) else (some false))) = some r := H
              have A147 := Aside0.mk A1470
              clear A1470
              by_cases c148 : t147 < 0
              ·rw [if_pos c148] at H
               have c148b0 : decide (t147 < 0) = true := decide_eq_true c148
               clear c148
               obtain rfl := Option.some.inj H
               have hnb149 := NB123_101.out
               have hnc149 := NB101_123.out
               have hnb150 := NB123_112.out
               have hnc150 := NB112_123.out
               have hnb151 := NB123_117.out
               have hnc151 := NB117_123.out
               have hnb152 := NB123_145.out
               have hnc152 := NB145_123.out
               have hcz153_0 : wc.cell? ⟨gb123, 0, none⟩ = some (.int .i64 t118) := (blk_cell BK123.out 0).trans rfl
               have hcz153_1 : wc.cell? ⟨gb123, 1, none⟩ = some (.slice Ao36 t134.length co36) := (blk_cell BK123.out 1).trans rfl
               have hfz153_0 := blk_frozen BK123.out 0
               have hfz153_1 := blk_frozen BK123.out 1
               go_wp2_with (first | ((with_reducible refine gate_callee (f := 13) rfl ?_); refine goesL_ (some 90) rfl rfl Try.func13 (by kernel_rfl) rfl #[.agg #[.int .i64 t118, .slice Ao36 t134.length co36], .int .i64 1] rfl (by (try simp only [mA, mC, mN]); first | done | rfl | (simp only [List.length_drop, List.length_take]; rfl)) ?_; (with_reducible refine (laws_heldCommittee.calls kj102 t118 _ _ t134 1 t147 _ ?side1 ?side2 A147.out).mono ?_); (case side1 => repeat (first | exact (Kd.R_reads' HO_124001.out).2.2 | (with_reducible refine Kd.C_alloc ?_ _) | (with_reducible refine Kd.C_drewN ?_ _) | (with_reducible refine Kd.C_drew ?_))); (case side2 => exact (Kd.R_reads' HO_124001.out).2.1); rintro e w154 ⟨rfl, hb⟩; refine ⟨_, rfl, ?_⟩; have n0_ := Aside0.mk (Kd.R_below (by (with_reducible repeat (first | apply qA | apply qN | apply qD)); exact HO_113001.out) hb); have n1_ := Aside0.mk (Kd.R_below (by (with_reducible repeat (first | apply qA | apply qN | apply qD)); exact HO_118001.out) hb); have n2_ := Aside0.mk (Kd.R_below (by (with_reducible repeat (first | apply qA | apply qN | apply qD)); exact HO_124001.out) hb); have n3_ := Aside0.mk (Kd.R_below (by (with_reducible repeat (first | apply qA | apply qN | apply qD)); exact HO_146001.out) hb); have n4_ := Aside0.mk (blk_below (g := gb101) (o := .cells #[.int .i64 a0_0, .slice A0_1 l0_1.length c0_1] 30 (0, 0)) (by (with_reducible repeat (first | refine kN ?_ _ | refine kD ?_ | refine kA ?_ _)); exact BK101.out) hb); have n5_ := Aside0.mk (blk_below (g := gb112) (o := .cells #[.int .i64 t107, .slice Ao22 t108.length co22] 24 (0, 0)) (by (with_reducible repeat (first | refine kN ?_ _ | refine kD ?_ | refine kA ?_ _)); exact BK112.out) hb); have n6_ := Aside0.mk (blk_below (g := gb117) (o := .cells #[.int .i64 t113, .slice Ao29 t131.length co29] 24 (0, 0)) (by (with_reducible repeat (first | refine kN ?_ _ | refine kD ?_ | refine kA ?_ _)); exact BK117.out) hb); have n7_ := Aside0.mk (blk_below (g := gb123) (o := .cells #[.int .i64 t118, .slice Ao36 t134.length co36] 24 (0, 0)) (by (with_reducible repeat (first | refine kN ?_ _ | refine kD ?_ | refine kA ?_ _)); exact BK123.out) hb); have n8_ := Aside0.mk (blk_below (g := gb145) (o := .cells #[.int .i64 t140, .slice Ao123 t141.length co123] 24 (0, 0)) (by (with_reducible repeat (first | refine kN ?_ _ | refine kD ?_ | refine kA ?_ _)); exact BK145.out) hb); have n9_ := Aside0.mk (below_step (by repeat (first | (with_reducible first | exact HB.out | apply ba | apply bd | apply be | refine bs ?_ GE101.out | refine bs ?_ GE112.out | refine bs ?_ GE117.out | refine bs ?_ GE123.out | refine bs ?_ GE145.out) | exact HB.out)) hb); clear HO_113001; clear HO_118001; clear HO_124001; clear HO_146001; clear BK101; clear BK112; clear BK117; clear BK123; clear BK145; clear HB; have HO_113001 := n0_; have HO_118001 := n1_; have HO_124001 := n2_; have HO_146001 := n3_; have BK101 := n4_; have BK112 := n5_; have BK117 := n6_; have BK123 := n7_; have BK145 := n8_; have HB := n9_; clear n0_ n1_ n2_ n3_ n4_ n5_ n6_ n7_ n8_ n9_; (try clear hb); (try clear hb2); (try clear hk); (try clear hi)))
               go_ret
               exact ⟨by first | rfl | (simp <;> rfl) | (simp [*] <;> rfl), by repeat (first | (with_reducible first | exact HB.out | apply ba | apply bd | apply be | refine bs ?_ GE101.out | refine bs ?_ GE112.out | refine bs ?_ GE117.out | refine bs ?_ GE123.out | refine bs ?_ GE145.out) | exact HB.out)⟩
              ·rw [if_neg c148] at H
               have c148b0 : decide (t147 < 0) = false := decide_eq_false c148
               clear c148
               by_cases c155 : t147 = t133
               ·rw [if_pos c155] at H
                have c155b0 : (t147 == t133) = true := beq_iff_eq.mpr c155
                have c155b1 : (t147 != t133) = false := bne_eq_false_iff_eq.mpr c155
                clear c155
                obtain rfl := Option.some.inj H
                have hnb156 := NB123_101.out
                have hnc156 := NB101_123.out
                have hnb157 := NB123_112.out
                have hnc157 := NB112_123.out
                have hnb158 := NB123_117.out
                have hnc158 := NB117_123.out
                have hnb159 := NB123_145.out
                have hnc159 := NB145_123.out
                have hcz160_0 : wc.cell? ⟨gb123, 0, none⟩ = some (.int .i64 t118) := (blk_cell BK123.out 0).trans rfl
                have hcz160_1 : wc.cell? ⟨gb123, 1, none⟩ = some (.slice Ao36 t134.length co36) := (blk_cell BK123.out 1).trans rfl
                have hfz160_0 := blk_frozen BK123.out 0
                have hfz160_1 := blk_frozen BK123.out 1
                go_wp2_with (first | ((with_reducible refine gate_callee (f := 13) rfl ?_); refine goesL_ (some 90) rfl rfl Try.func13 (by kernel_rfl) rfl #[.agg #[.int .i64 t118, .slice Ao36 t134.length co36], .int .i64 1] rfl (by (try simp only [mA, mC, mN]); first | done | rfl | (simp only [List.length_drop, List.length_take]; rfl)) ?_; (with_reducible refine (laws_heldCommittee.calls kj102 t118 _ _ t134 1 t147 _ ?side1 ?side2 A147.out).mono ?_); (case side1 => repeat (first | exact (Kd.R_reads' HO_124001.out).2.2 | (with_reducible refine Kd.C_alloc ?_ _) | (with_reducible refine Kd.C_drewN ?_ _) | (with_reducible refine Kd.C_drew ?_))); (case side2 => exact (Kd.R_reads' HO_124001.out).2.1); rintro e w161 ⟨rfl, hb⟩; refine ⟨_, rfl, ?_⟩; have n0_ := Aside0.mk (Kd.R_below (by (with_reducible repeat (first | apply qA | apply qN | apply qD)); exact HO_113001.out) hb); have n1_ := Aside0.mk (Kd.R_below (by (with_reducible repeat (first | apply qA | apply qN | apply qD)); exact HO_118001.out) hb); have n2_ := Aside0.mk (Kd.R_below (by (with_reducible repeat (first | apply qA | apply qN | apply qD)); exact HO_124001.out) hb); have n3_ := Aside0.mk (Kd.R_below (by (with_reducible repeat (first | apply qA | apply qN | apply qD)); exact HO_146001.out) hb); have n4_ := Aside0.mk (blk_below (g := gb101) (o := .cells #[.int .i64 a0_0, .slice A0_1 l0_1.length c0_1] 30 (0, 0)) (by (with_reducible repeat (first | refine kN ?_ _ | refine kD ?_ | refine kA ?_ _)); exact BK101.out) hb); have n5_ := Aside0.mk (blk_below (g := gb112) (o := .cells #[.int .i64 t107, .slice Ao22 t108.length co22] 24 (0, 0)) (by (with_reducible repeat (first | refine kN ?_ _ | refine kD ?_ | refine kA ?_ _)); exact BK112.out) hb); have n6_ := Aside0.mk (blk_below (g := gb117) (o := .cells #[.int .i64 t113, .slice Ao29 t131.length co29] 24 (0, 0)) (by (with_reducible repeat (first | refine kN ?_ _ | refine kD ?_ | refine kA ?_ _)); exact BK117.out) hb); have n7_ := Aside0.mk (blk_below (g := gb123) (o := .cells #[.int .i64 t118, .slice Ao36 t134.length co36] 24 (0, 0)) (by (with_reducible repeat (first | refine kN ?_ _ | refine kD ?_ | refine kA ?_ _)); exact BK123.out) hb); have n8_ := Aside0.mk (blk_below (g := gb145) (o := .cells #[.int .i64 t140, .slice Ao123 t141.length co123] 24 (0, 0)) (by (with_reducible repeat (first | refine kN ?_ _ | refine kD ?_ | refine kA ?_ _)); exact BK145.out) hb); have n9_ := Aside0.mk (below_step (by repeat (first | (with_reducible first | exact HB.out | apply ba | apply bd | apply be | refine bs ?_ GE101.out | refine bs ?_ GE112.out | refine bs ?_ GE117.out | refine bs ?_ GE123.out | refine bs ?_ GE145.out) | exact HB.out)) hb); clear HO_113001; clear HO_118001; clear HO_124001; clear HO_146001; clear BK101; clear BK112; clear BK117; clear BK123; clear BK145; clear HB; have HO_113001 := n0_; have HO_118001 := n1_; have HO_124001 := n2_; have HO_146001 := n3_; have BK101 := n4_; have BK112 := n5_; have BK117 := n6_; have BK123 := n7_; have BK145 := n8_; have HB := n9_; clear n0_ n1_ n2_ n3_ n4_ n5_ n6_ n7_ n8_ n9_; (try clear hb); (try clear hb2); (try clear hk); (try clear hi)))
                go_ret
                exact ⟨by first | rfl | (simp <;> rfl) | (simp [*] <;> rfl), by repeat (first | (with_reducible first | exact HB.out | apply ba | apply bd | apply be | refine bs ?_ GE101.out | refine bs ?_ GE112.out | refine bs ?_ GE117.out | refine bs ?_ GE123.out | refine bs ?_ GE145.out) | exact HB.out)⟩
               ·rw [if_neg c155] at H
                have c155b0 : (t147 == t133) = false := beq_eq_false_iff_ne.mpr c155
                have c155b1 : (t147 != t133) = true := bne_iff_ne.mpr c155
                obtain rfl := Option.some.inj H
                have hnb162 := NB123_101.out
                have hnc162 := NB101_123.out
                have hnb163 := NB123_112.out
                have hnc163 := NB112_123.out
                have hnb164 := NB123_117.out
                have hnc164 := NB117_123.out
                have hnb165 := NB123_145.out
                have hnc165 := NB145_123.out
                have hcz166_0 : wc.cell? ⟨gb123, 0, none⟩ = some (.int .i64 t118) := (blk_cell BK123.out 0).trans rfl
                have hcz166_1 : wc.cell? ⟨gb123, 1, none⟩ = some (.slice Ao36 t134.length co36) := (blk_cell BK123.out 1).trans rfl
                have hfz166_0 := blk_frozen BK123.out 0
                have hfz166_1 := blk_frozen BK123.out 1
                go_wp2_with (first | ((with_reducible refine gate_callee (f := 13) rfl ?_); refine goesL_ (some 90) rfl rfl Try.func13 (by kernel_rfl) rfl #[.agg #[.int .i64 t118, .slice Ao36 t134.length co36], .int .i64 1] rfl (by (try simp only [mA, mC, mN]); first | done | rfl | (simp only [List.length_drop, List.length_take]; rfl)) ?_; (with_reducible refine (laws_heldCommittee.calls kj102 t118 _ _ t134 1 t147 _ ?side1 ?side2 A147.out).mono ?_); (case side1 => repeat (first | exact (Kd.R_reads' HO_124001.out).2.2 | (with_reducible refine Kd.C_alloc ?_ _) | (with_reducible refine Kd.C_drewN ?_ _) | (with_reducible refine Kd.C_drew ?_))); (case side2 => exact (Kd.R_reads' HO_124001.out).2.1); rintro e w167 ⟨rfl, hb⟩; refine ⟨_, rfl, ?_⟩; have n0_ := Aside0.mk (Kd.R_below (by (with_reducible repeat (first | apply qA | apply qN | apply qD)); exact HO_113001.out) hb); have n1_ := Aside0.mk (Kd.R_below (by (with_reducible repeat (first | apply qA | apply qN | apply qD)); exact HO_118001.out) hb); have n2_ := Aside0.mk (Kd.R_below (by (with_reducible repeat (first | apply qA | apply qN | apply qD)); exact HO_124001.out) hb); have n3_ := Aside0.mk (Kd.R_below (by (with_reducible repeat (first | apply qA | apply qN | apply qD)); exact HO_146001.out) hb); have n4_ := Aside0.mk (blk_below (g := gb101) (o := .cells #[.int .i64 a0_0, .slice A0_1 l0_1.length c0_1] 30 (0, 0)) (by (with_reducible repeat (first | refine kN ?_ _ | refine kD ?_ | refine kA ?_ _)); exact BK101.out) hb); have n5_ := Aside0.mk (blk_below (g := gb112) (o := .cells #[.int .i64 t107, .slice Ao22 t108.length co22] 24 (0, 0)) (by (with_reducible repeat (first | refine kN ?_ _ | refine kD ?_ | refine kA ?_ _)); exact BK112.out) hb); have n6_ := Aside0.mk (blk_below (g := gb117) (o := .cells #[.int .i64 t113, .slice Ao29 t131.length co29] 24 (0, 0)) (by (with_reducible repeat (first | refine kN ?_ _ | refine kD ?_ | refine kA ?_ _)); exact BK117.out) hb); have n7_ := Aside0.mk (blk_below (g := gb123) (o := .cells #[.int .i64 t118, .slice Ao36 t134.length co36] 24 (0, 0)) (by (with_reducible repeat (first | refine kN ?_ _ | refine kD ?_ | refine kA ?_ _)); exact BK123.out) hb); have n8_ := Aside0.mk (blk_below (g := gb145) (o := .cells #[.int .i64 t140, .slice Ao123 t141.length co123] 24 (0, 0)) (by (with_reducible repeat (first | refine kN ?_ _ | refine kD ?_ | refine kA ?_ _)); exact BK145.out) hb); have n9_ := Aside0.mk (below_step (by repeat (first | (with_reducible first | exact HB.out | apply ba | apply bd | apply be | refine bs ?_ GE101.out | refine bs ?_ GE112.out | refine bs ?_ GE117.out | refine bs ?_ GE123.out | refine bs ?_ GE145.out) | exact HB.out)) hb); clear HO_113001; clear HO_118001; clear HO_124001; clear HO_146001; clear BK101; clear BK112; clear BK117; clear BK123; clear BK145; clear HB; have HO_113001 := n0_; have HO_118001 := n1_; have HO_124001 := n2_; have HO_146001 := n3_; have BK101 := n4_; have BK112 := n5_; have BK117 := n6_; have BK123 := n7_; have BK145 := n8_; have HB := n9_; clear n0_ n1_ n2_ n3_ n4_ n5_ n6_ n7_ n8_ n9_; (try clear hb); (try clear hb2); (try clear hk); (try clear hi)))
                go_ret
                exact ⟨by first | rfl | (simp <;> rfl) | (simp [*] <;> rfl), by repeat (first | (with_reducible first | exact HB.out | apply ba | apply bd | apply be | refine bs ?_ GE101.out | refine bs ?_ GE112.out | refine bs ?_ GE117.out | refine bs ?_ GE123.out | refine bs ?_ GE145.out) | exact HB.out)⟩
          ·rw [if_neg c100] at H
           have c100b0 : (t135 == t133) = false := beq_eq_false_iff_ne.mpr c100
           have c100b1 : (t135 != t133) = true := bne_iff_ne.mpr c100
           obtain rfl := Option.some.inj H
           have hnb168 := NB123_101.out
           have hnc168 := NB101_123.out
           have hnb169 := NB123_112.out
           have hnc169 := NB112_123.out
           have hnb170 := NB123_117.out
           have hnc170 := NB117_123.out
           have hcz171_0 : wc.cell? ⟨gb123, 0, none⟩ = some (.int .i64 t118) := (blk_cell BK123.out 0).trans rfl
           have hcz171_1 : wc.cell? ⟨gb123, 1, none⟩ = some (.slice Ao36 t119.length co36) := (blk_cell BK123.out 1).trans rfl
           have hfz171_0 := blk_frozen BK123.out 0
           have hfz171_1 := blk_frozen BK123.out 1
           go_wp2_with (first | ((with_reducible refine gate_callee (f := 12) rfl ?_); refine goesL_ (some 64) rfl rfl Try.func12 (by kernel_rfl) rfl #[.agg #[.int .i64 t118, .slice Ao36 t119.length co36], .int .i64 1] rfl (by (try simp only [mA, mC, mN]); first | done | rfl | (simp only [List.length_drop, List.length_take]; rfl)) ?_; (with_reducible refine (laws_markCommittee.calls kj59 t118 (fun k_ => some k_ = (.slice Ao36 t119.length co36 : Value).ownBlock) (.slice Ao36 t119.length co36) t119 1 t133 t134 w _ ?side1 ?side2 A90.out).mono ?_); (case side1 => repeat (first | (with_reducible first | exact HB.out | apply ba | apply bd | apply be | refine bs ?_ GE101.out | refine bs ?_ GE112.out | refine bs ?_ GE117.out | refine bs ?_ GE123.out) | exact HB.out)); (case side2 => exact Kd.R_tight rfl HO_124001.out); rintro e w172 ⟨rfl, hy0, hb, hkp⟩; refine ⟨_, rfl, ?_⟩; have n0_ := Aside0.mk (Kd.R_mono (ok' := fun k_ => some k_ ≠ (.slice Ao29 t131.length co29 : Value).ownBlock ∧ some k_ ≠ (.slice Ao36 t119.length co36 : Value).ownBlock) (Kd.R_keptB (HO_113001.out) hkp (fun k_ hk_ hs_ => (hk_.2) hs_)) (fun k_ hk_ => ⟨hk_.1.1, hk_.1.2⟩)); have n1_ := Aside0.mk (Kd.R_mono (ok' := fun k_ => some k_ ≠ (.slice Ao22 t108.length co22 : Value).ownBlock ∧ some k_ ≠ (.slice Ao36 t119.length co36 : Value).ownBlock) (Kd.R_keptB (HO_118001.out) hkp (fun k_ hk_ hs_ => (hk_.2) hs_)) (fun k_ hk_ => ⟨hk_.1.1, hk_.1.2⟩)); have n2_ := Aside0.mk (Kd.R_reok rfl hy0 (fun k_ e_ => HO_124001.out.1 k_ e_)); have n3_ := Aside0.mk (blk_kept (by (with_reducible repeat (first | refine kN ?_ _ | refine kD ?_ | refine kA ?_ _)); exact BK101.out) hkp (fun hs_ => (fun e_ => (Kd.R_ne HO_124001.out BK101.out (by decide)) e_) hs_)); have n4_ := Aside0.mk (blk_kept (by (with_reducible repeat (first | refine kN ?_ _ | refine kD ?_ | refine kA ?_ _)); exact BK112.out) hkp (fun hs_ => (fun e_ => (Kd.R_ne HO_124001.out BK112.out (by decide)) e_) hs_)); have n5_ := Aside0.mk (blk_kept (by (with_reducible repeat (first | refine kN ?_ _ | refine kD ?_ | refine kA ?_ _)); exact BK117.out) hkp (fun hs_ => (fun e_ => (Kd.R_ne HO_124001.out BK117.out (by decide)) e_) hs_)); have n6_ := Aside0.mk (blk_kept (by (with_reducible repeat (first | refine kN ?_ _ | refine kD ?_ | refine kA ?_ _)); exact BK123.out) hkp (fun hs_ => (fun e_ => (Kd.R_ne HO_124001.out BK123.out (by decide)) e_) hs_)); have n7_ := Aside0.mk (hb); clear HO_113001; clear HO_118001; clear HO_124001; clear BK101; clear BK112; clear BK117; clear BK123; clear HB; have HO_113001 := n0_; have HO_118001 := n1_; have HO_124001 := n2_; have BK101 := n3_; have BK112 := n4_; have BK117 := n5_; have BK123 := n6_; have HB := n7_; clear n0_ n1_ n2_ n3_ n4_ n5_ n6_ n7_; (try clear hb); (try clear hkp); (try clear hy0); have hcz173_0 : w172.cell? ⟨gb123, 0, none⟩ = some (.int .i64 t118) := (blk_cell BK123.out 0).trans rfl; have hcz173_1 : w172.cell? ⟨gb123, 1, none⟩ = some (.slice Ao36 t119.length co36) := (blk_cell BK123.out 1).trans rfl; have hfz173_0 := blk_frozen BK123.out 0; have hfz173_1 := blk_frozen BK123.out 1) | ((with_reducible refine gate_callee (f := 13) rfl ?_); refine goesL_ (some 67) rfl rfl Try.func13 (by kernel_rfl) rfl #[.agg #[.int .i64 t118, .slice Ao36 t134.length co36], .int .i64 1] rfl (by (try simp only [mA, mC, mN]); first | done | (rw [show t134.length = t119.length from (Kd.R_reads' HO_124001.out).1.symm] <;> rfl) | rfl | (simp only [List.length_drop, List.length_take]; rfl)) ?_; (with_reducible refine (laws_heldCommittee.calls kj59 t118 _ _ t134 1 t135 _ ?side1 ?side2 A91.out).mono ?_); (case side1 => repeat (first | exact (Kd.R_reads' HO_124001.out).2.2 | (with_reducible refine Kd.C_alloc ?_ _) | (with_reducible refine Kd.C_drewN ?_ _) | (with_reducible refine Kd.C_drew ?_))); (case side2 => rw [show t134.length = t119.length from (Kd.R_reads' HO_124001.out).1.symm]; exact (Kd.R_reads' HO_124001.out).2.1); rintro e w174 ⟨rfl, hb⟩; refine ⟨_, rfl, ?_⟩; have n0_ := Aside0.mk (Kd.R_below (by (with_reducible repeat (first | apply qA | apply qN | apply qD)); exact HO_113001.out) hb); have n1_ := Aside0.mk (Kd.R_below (by (with_reducible repeat (first | apply qA | apply qN | apply qD)); exact HO_118001.out) hb); have n2_ := Aside0.mk (Kd.R_below (by (with_reducible repeat (first | apply qA | apply qN | apply qD)); exact HO_124001.out) hb); have n3_ := Aside0.mk (blk_below (g := gb101) (o := .cells #[.int .i64 a0_0, .slice A0_1 l0_1.length c0_1] 30 (0, 0)) (by (with_reducible repeat (first | refine kN ?_ _ | refine kD ?_ | refine kA ?_ _)); exact BK101.out) hb); have n4_ := Aside0.mk (blk_below (g := gb112) (o := .cells #[.int .i64 t107, .slice Ao22 t108.length co22] 24 (0, 0)) (by (with_reducible repeat (first | refine kN ?_ _ | refine kD ?_ | refine kA ?_ _)); exact BK112.out) hb); have n5_ := Aside0.mk (blk_below (g := gb117) (o := .cells #[.int .i64 t113, .slice Ao29 t131.length co29] 24 (0, 0)) (by (with_reducible repeat (first | refine kN ?_ _ | refine kD ?_ | refine kA ?_ _)); exact BK117.out) hb); have n6_ := Aside0.mk (blk_below (g := gb123) (o := .cells #[.int .i64 t118, .slice Ao36 t119.length co36] 24 (0, 0)) (by (with_reducible repeat (first | refine kN ?_ _ | refine kD ?_ | refine kA ?_ _)); exact BK123.out) hb); have n7_ := Aside0.mk (below_step (by repeat (first | (with_reducible first | exact HB.out | apply ba | apply bd | apply be | refine bs ?_ GE101.out | refine bs ?_ GE112.out | refine bs ?_ GE117.out | refine bs ?_ GE123.out) | exact HB.out)) hb); clear HO_113001; clear HO_118001; clear HO_124001; clear BK101; clear BK112; clear BK117; clear BK123; clear HB; have HO_113001 := n0_; have HO_118001 := n1_; have HO_124001 := n2_; have BK101 := n3_; have BK112 := n4_; have BK117 := n5_; have BK123 := n6_; have HB := n7_; clear n0_ n1_ n2_ n3_ n4_ n5_ n6_ n7_; (try clear hb); (try clear hb2); (try clear hk); (try clear hi)))
           go_ret
           exact ⟨by first | rfl | (simp <;> rfl) | (simp [*] <;> rfl), by repeat (first | (with_reducible first | exact HB.out | apply ba | apply bd | apply be | refine bs ?_ GE101.out | refine bs ?_ GE112.out | refine bs ?_ GE117.out | refine bs ?_ GE123.out) | exact HB.out)⟩
     ·replace c58 := Bool.eq_false_iff.mpr c58
      subst c58
      have H1 : (some false) = some r := by rw [if_neg (show ¬ (false = true) by decide)] at H; exact H
      clear H
      have H := H1
      clear H1
      obtain rfl := Option.some.inj H
      try go_wp2
      have n0_ := Aside0.mk (Kd.R_drew HO_113001.out)
      have n1_ := Aside0.mk (Kd.R_drew HO_118001.out)
      have n2_ := Aside0.mk (Kd.R_drew HO_124001.out)
      have n3_ := Aside0.mk (blk_drew BK101.out)
      have n4_ := Aside0.mk (blk_drew BK112.out)
      have n5_ := Aside0.mk (blk_drew BK117.out)
      have n6_ := Aside0.mk (blk_drew BK123.out)
      have n7_ := Aside0.mk (below_drew1 HB.out)
      clear HO_113001
      clear HO_118001
      clear HO_124001
      clear BK101
      clear BK112
      clear BK117
      clear BK123
      clear HB
      have HO_113001 := n0_
      have HO_118001 := n1_
      have HO_124001 := n2_
      have BK101 := n3_
      have BK112 := n4_
      have BK117 := n5_
      have BK123 := n6_
      have HB := n7_
      clear n0_ n1_ n2_ n3_ n4_ n5_ n6_ n7_
      refine start_ (n := 5) (S := fun w' => w'.cell? ⟨gb117, 0, none⟩ = some (.int .i64 t113) ∧ w'.cell? ⟨gb117, 1, none⟩ = some (.slice Ao29 t114.length co29) ∧ w'.cell? ⟨gb101, 0, none⟩ = some (.int .i64 a0_0) ∧ w'.cell? ⟨gb101, 1, none⟩ = some (.slice A0_1 l0_1.length c0_1)) (ds := []) #[false, false, false, false, false] (by kernel_rfl) rfl rfl ⟨(blk_cell BK117.out 0).trans rfl, (blk_cell BK117.out 1).trans rfl, (blk_cell BK101.out 0).trans rfl, (blk_cell BK101.out 1).trans rfl⟩ (fun hHeld => ?_)
      generalize wc.drew = w175 at HO_113001 HO_118001 HO_124001 BK101 BK112 BK117 BK123 HB hHeld ⊢
      refine take_ (i := 0) (N := some 41) (v := ?_) (a' := ?_) #[true, false, false, false, false] rfl rfl (by kernel_rfl) (fun _ _ _ h => h) (Or.inl ⟨by rfl, ?_⟩) hHeld ?_ ?_
      rotate_left
      ·rintro w' ⟨s0, s1, s2, s3⟩
       go_simp
       with_reducible rfl
      rotate_left
      ·simp only [Act.put, sA, sZ, sS, i64_w, i32_w]
       rfl
      refine take_ (i := 1) (N := some 42) (v := ?_) (a' := ?_) #[true, true, false, false, false] rfl rfl (by kernel_rfl) (fun _ _ _ h => h) (Or.inl ⟨by rfl, ?_⟩) hHeld ?_ ?_
      rotate_left
      ·rintro w' ⟨s0, s1, s2, s3⟩
       go_simp
       with_reducible rfl
      rotate_left
      ·simp only [Act.put, sA, sZ, sS, i64_w, i32_w]
       rfl
      refine one_ (i := 2) (N := some 43) #[true, true, true, false, false] rfl rfl (by kernel_rfl) (by decide) (fun K hK => ?_)
      refine goes_ Try.func16 (by kernel_rfl) rfl #[.agg #[.int .i64 a0_0, .slice A0_1 l0_1.length c0_1]] (by rfl) rfl rfl (by (try simp only [mA, mC, mN]); first | done | rfl | (simp only [List.length_drop, List.length_take]; rfl)) ?_
      with_reducible refine (laws_toCommittee.calls kj10 a0_0 _ _ l0_1 t125 t126 _ ?side1 ?side2 A56.out).mono ?_
      (case side1 => repeat (first | exact (Kd.C_below HR0_1.out HB.out) | (with_reducible refine Kd.C_alloc ?_ _) | (with_reducible refine Kd.C_drewN ?_ _) | (with_reducible refine Kd.C_drew ?_)))
      (case side2 => exact HC0_1.out)
      rintro e w176 ⟨v127, rfl, ho0, hb⟩
      refine ⟨_, rfl, ?_⟩
      have n0_ := Aside0.mk (Kd.R_elder' (by (with_reducible repeat (first | apply qA | apply qN | apply qD)); exact HO_113001.out) (Kd.R_base ho0) hb)
      have n1_ := Aside0.mk (Kd.R_elder' (by (with_reducible repeat (first | apply qA | apply qN | apply qD)); exact HO_118001.out) (Kd.R_base ho0) hb)
      have n2_ := Aside0.mk (Kd.R_elder' (by (with_reducible repeat (first | apply qA | apply qN | apply qD)); exact HO_124001.out) (Kd.R_base ho0) hb)
      have n3_ := Aside0.mk (Kd.R_lower (Kd.R_new' (Kd.R_new' (Kd.R_new' ho0 (Kd.R_lt (by (with_reducible repeat (first | apply qA | apply qN | apply qD)); exact HO_113001.out))) (Kd.R_lt (by (with_reducible repeat (first | apply qA | apply qN | apply qD)); exact HO_118001.out))) (Kd.R_lt (by (with_reducible repeat (first | apply qA | apply qN | apply qD)); exact HO_124001.out))) (below_size (by repeat (first | (with_reducible first | exact HB.out | apply ba | apply bd | apply be | refine bs ?_ GE101.out | refine bs ?_ GE112.out | refine bs ?_ GE117.out | refine bs ?_ GE123.out) | exact HB.out))))
      have n4_ := Aside0.mk (blk_below (g := gb101) (o := .cells #[.int .i64 a0_0, .slice A0_1 l0_1.length c0_1] 30 (0, 0)) (by (with_reducible repeat (first | refine kN ?_ _ | refine kD ?_ | refine kA ?_ _)); exact BK101.out) hb)
      have n5_ := Aside0.mk (blk_below (g := gb112) (o := .cells #[.int .i64 t107, .slice Ao22 t108.length co22] 24 (0, 0)) (by (with_reducible repeat (first | refine kN ?_ _ | refine kD ?_ | refine kA ?_ _)); exact BK112.out) hb)
      have n6_ := Aside0.mk (blk_below (g := gb117) (o := .cells #[.int .i64 t113, .slice Ao29 t114.length co29] 24 (0, 0)) (by (with_reducible repeat (first | refine kN ?_ _ | refine kD ?_ | refine kA ?_ _)); exact BK117.out) hb)
      have n7_ := Aside0.mk (blk_below (g := gb123) (o := .cells #[.int .i64 t118, .slice Ao36 t119.length co36] 24 (0, 0)) (by (with_reducible repeat (first | refine kN ?_ _ | refine kD ?_ | refine kA ?_ _)); exact BK123.out) hb)
      have n8_ := Aside0.mk (below_step (by repeat (first | (with_reducible first | exact HB.out | apply ba | apply bd | apply be | refine bs ?_ GE101.out | refine bs ?_ GE112.out | refine bs ?_ GE117.out | refine bs ?_ GE123.out) | exact HB.out)) hb)
      clear HO_113001
      clear HO_118001
      clear HO_124001
      clear BK101
      clear BK112
      clear BK117
      clear BK123
      clear HB
      have HO_113001 := n0_
      have HO_118001 := n1_
      have HO_124001 := n2_
      have HO128 := n3_
      have BK101 := n4_
      have BK112 := n5_
      have BK117 := n6_
      have BK123 := n7_
      have HB := n8_
      clear n0_ n1_ n2_ n3_ n4_ n5_ n6_ n7_ n8_
      (try clear hb)
      (try clear hb2)
      (try clear hk)
      (try clear hi)
      (try clear ho0)
      obtain ⟨Ao177, co177, eo177⟩ := Kd.R_slice HO128.out
      (first | subst eo177 | (injection eo177 with f1_ f2_ f3_; have f4_ := f1_.symm; have f5_ := f3_.symm; clear f1_ f2_ f3_; subst f4_; subst f5_))
      refine hK.out _ _ ⟨(blk_cell BK117.out 0).trans rfl, (blk_cell BK117.out 1).trans rfl, (blk_cell BK101.out 0).trans rfl, (blk_cell BK101.out 1).trans rfl⟩ (fun hHeld => ?_)
      clear hK K
      refine norm_ (a' := ?_) ?_ ?_
      rotate_left
      ·show Act.put _ (some 43) _ = _
       simp only [Act.put, sA, sZ, sS, i64_w, i32_w]
       rfl
      refine one_ (i := 3) (N := some 44) #[true, true, true, true, false] rfl rfl (by kernel_rfl) (by decide) (fun K hK => ?_)
      refine goes_ Try.func11 (by kernel_rfl) rfl #[.agg #[.int .i64 t113, .slice Ao29 t114.length co29], .agg #[.int .i64 t125, .slice Ao177 t126.length co177]] (by rfl) rfl rfl (by (try simp only [mA, mC, mN]); first | done | rfl | (simp only [List.length_drop, List.length_take]; rfl)) ?_
      with_reducible refine (laws_eqCommittee.calls kj10 t113 _ _ t114 t125 _ _ t126 false _ ?side1 ?side2 ?side3 ?side4 A57.out).mono ?_
      (case side1 => repeat (first | exact (Kd.R_reads' HO_118001.out).2.2 | (with_reducible refine Kd.C_alloc ?_ _) | (with_reducible refine Kd.C_drewN ?_ _) | (with_reducible refine Kd.C_drew ?_)))
      (case side2 => exact (Kd.R_reads' HO_118001.out).2.1)
      (case side3 => repeat (first | exact (Kd.R_reads' HO128.out).2.2 | (with_reducible refine Kd.C_alloc ?_ _) | (with_reducible refine Kd.C_drewN ?_ _) | (with_reducible refine Kd.C_drew ?_)))
      (case side4 => exact (Kd.R_reads' HO128.out).2.1)
      rintro e w178 ⟨rfl, hb⟩
      refine ⟨_, rfl, ?_⟩
      have n0_ := Aside0.mk (Kd.R_below (by (with_reducible repeat (first | apply qA | apply qN | apply qD)); exact HO_113001.out) hb)
      have n1_ := Aside0.mk (Kd.R_below (by (with_reducible repeat (first | apply qA | apply qN | apply qD)); exact HO_118001.out) hb)
      have n2_ := Aside0.mk (Kd.R_below (by (with_reducible repeat (first | apply qA | apply qN | apply qD)); exact HO_124001.out) hb)
      have n3_ := Aside0.mk (Kd.R_below (by (with_reducible repeat (first | apply qA | apply qN | apply qD)); exact HO128.out) hb)
      have n4_ := Aside0.mk (blk_below (g := gb101) (o := .cells #[.int .i64 a0_0, .slice A0_1 l0_1.length c0_1] 30 (0, 0)) (by (with_reducible repeat (first | refine kN ?_ _ | refine kD ?_ | refine kA ?_ _)); exact BK101.out) hb)
      have n5_ := Aside0.mk (blk_below (g := gb112) (o := .cells #[.int .i64 t107, .slice Ao22 t108.length co22] 24 (0, 0)) (by (with_reducible repeat (first | refine kN ?_ _ | refine kD ?_ | refine kA ?_ _)); exact BK112.out) hb)
      have n6_ := Aside0.mk (blk_below (g := gb117) (o := .cells #[.int .i64 t113, .slice Ao29 t114.length co29] 24 (0, 0)) (by (with_reducible repeat (first | refine kN ?_ _ | refine kD ?_ | refine kA ?_ _)); exact BK117.out) hb)
      have n7_ := Aside0.mk (blk_below (g := gb123) (o := .cells #[.int .i64 t118, .slice Ao36 t119.length co36] 24 (0, 0)) (by (with_reducible repeat (first | refine kN ?_ _ | refine kD ?_ | refine kA ?_ _)); exact BK123.out) hb)
      have n8_ := Aside0.mk (below_step (by repeat (first | (with_reducible first | exact HB.out | apply ba | apply bd | apply be | refine bs ?_ GE101.out | refine bs ?_ GE112.out | refine bs ?_ GE117.out | refine bs ?_ GE123.out) | exact HB.out)) hb)
      clear HO_113001
      clear HO_118001
      clear HO_124001
      clear HO128
      clear BK101
      clear BK112
      clear BK117
      clear BK123
      clear HB
      have HO_113001 := n0_
      have HO_118001 := n1_
      have HO_124001 := n2_
      have HO128 := n3_
      have BK101 := n4_
      have BK112 := n5_
      have BK117 := n6_
      have BK123 := n7_
      have HB := n8_
      clear n0_ n1_ n2_ n3_ n4_ n5_ n6_ n7_ n8_
      (try clear hb)
      (try clear hb2)
      (try clear hk)
      (try clear hi)
      refine hK.out _ _ ⟨(blk_cell BK117.out 0).trans rfl, (blk_cell BK117.out 1).trans rfl, (blk_cell BK101.out 0).trans rfl, (blk_cell BK101.out 1).trans rfl⟩ (fun hHeld => ?_)
      clear hK K
      refine norm_ (a' := ?_) ?_ ?_
      rotate_left
      ·show Act.put _ (some 44) _ = _
       simp only [Act.put, sA, sZ, sS, i64_w, i32_w]
       rfl
      refine pure_ (i := 4) (N := some 45) (v := ?_) (a' := ?_) #[true, true, true, true, true] rfl rfl (by kernel_rfl) (fun _ _ _ h => h) (Or.inl ⟨by rfl, ?_⟩) ?_ ?_
      rotate_left
      ·intro w'
       go_simp
       with_reducible rfl
      rotate_left
      ·simp only [Act.put, sA, sZ, sS, i64_w, i32_w]
       rfl
      refine done_ (by kernel_rfl) ?_
      try go_wp2
      go_ret
      exact ⟨by first | rfl | (simp <;> rfl) | (simp [*] <;> rfl), by repeat (first | (with_reducible first | exact HB.out | apply ba | apply bd | apply be | refine bs ?_ GE101.out | refine bs ?_ GE112.out | refine bs ?_ GE117.out | refine bs ?_ GE123.out) | exact HB.out)⟩

end Go.Proofs.Ytmhcejaljnibhaa.Q

namespace Go.Proofs.YtmhcejaljnibhaaM
open Go.RowKit Go.Proofs.YtmhcejaljnibhaaW.PrintWords Go.Proofs.YtmhcejaljnibhaaW.PrintMore
/-! ### rounds -/
theorem ev_pos {α : Type} {c : Prop} [Decidable c] {g f : Nat → Option α} {r : α} (h : c) : Ev (fun k => if c then g k else f k) r ↔ Ev g r := by simp only [if_pos h]
theorem ev_neg {α : Type} {c : Prop} [Decidable c] {g f : Nat → Option α} {r : α} (h : ¬ c) : Ev (fun k => if c then g k else f k) r ↔ Ev f r := by simp only [if_neg h]
theorem ev_bind {α β : Type} {g : Nat → Option α} {f : Nat → α → Option β} {a : α} {r : β} (h : Ev g a) : Ev (fun n => (g n).bind (f n)) r ↔ Ev (fun n => f n a) r := by
  refine ⟨fun hb => ?_, fun k => Ev.bind h k⟩
  obtain ⟨K, h⟩ := h
  obtain ⟨K', hb⟩ := hb
  refine ⟨max K K', fun n hn => ?_⟩
  have h1 := h n (by omega)
  have h2 := hb n (by omega)
  simpa only [h1, Option.bind_some] using h2
theorem ev_now {α : Type} {a r : α} : Ev (fun _ => some a) r ↔ a = r := by
  refine ⟨fun ⟨K, h⟩ => Option.some.inj (h K (Nat.le_refl _)), fun h => h ▸ Ev.now a⟩
theorem ev_of {α : Type} {a : Option α} {r : α} (h : a = some r) : Ev (fun _ => a) r := ⟨0, fun _ _ => h⟩
theorem ev_uniq {α : Type} {g : Nat → Option α} {a b : α} (h : Ev g a) (k : Ev g b) : a = b := by
  obtain ⟨K, h⟩ := h
  obtain ⟨K', k⟩ := k
  exact Option.some.inj ((h (max K K') (by omega)).symm.trans (k (max K K') (by omega)))
theorem ev_step {α : Type} {g : Nat → Option α} {r : α} (k : Ev (fun n => g (n + 1)) r) : Ev g r := Ev.step (fun _ => rfl) k
theorem ev_map {α β : Type} {g : Nat → Option α} {f : α → β} {a : α} (h : Ev g a) : Ev (fun n => (g n).bind fun x => some (f x)) (f a) := Ev.bind h (Ev.now _)
/-- Finitely many come to their answers at one number of rounds. -/
theorem ev_all {α : Type} (N : Nat) (g : Nat → Nat → Option α) (p : Nat → α) (h : ∀ m, m < N → Ev (fun k => g k m) (p m)) : ∃ K, ∀ k, K ≤ k → ∀ m, m < N → g k m = some (p m) := by
  induction N with
  | zero => exact ⟨0, fun _ _ m hm => absurd hm (Nat.not_lt_zero m)⟩
  | succ N ih =>
    obtain ⟨K, hK⟩ := ih (fun m hm => h m (by omega))
    obtain ⟨K', hK'⟩ := h N (by omega)
    refine ⟨max K K', fun k hk m hm => ?_⟩
    by_cases e : m = N
    · subst e
      exact hK' k (by omega)
    · exact hK k (by omega) m (by omega)
/-! ### numbers -/
theorem w64 {x : Int} (h0 : -9223372036854775808 ≤ x) (h1 : x ≤ 9223372036854775807) : wrap64 x = x := by unfold wrap64; omega
theorem w64i {i : Int} {n : Nat} (h0 : 0 ≤ i) (h : i < (n : Int)) (hn : n ≤ 9223372036854775807) : wrap64 (i + 1) = i + 1 := by unfold wrap64; omega
theorem mx_eq (a b : Int) : mx a b = max a b := by unfold mx; omega
theorem mn_eq (a b : Int) : mn a b = min a b := by unfold mn; omega
/-! ### lists -/
theorem rd_nat (l : List Int) (i : Nat) : rd l (i : Int) = l.getD i 0 := by simp [rd]
theorem rd_lt (l : List Int) (i : Nat) (h : i < l.length) : rd l (i : Int) = l[i] := by simp [rd, h]
theorem rdOf_nat {α : Type} (d : α) (l : List α) (i : Nat) : rdOf d l (i : Int) = l.getD i d := by simp [rdOf]
theorem rdOf_lt {α : Type} (d : α) (l : List α) (i : Nat) (h : i < l.length) : rdOf d l (i : Int) = l[i] := by simp [rdOf, h]
/-! ### a loop over the places of a list, told as a fold over it: s behind i of the elements -/
/-- All sums wrap. -/
def wfold (l : List Int) (s : Int) : Int := l.foldl (fun s x => wrap64 (s + x)) s
theorem wfold_sum (l : List Int) : ∀ s : Int, (∀ x ∈ l, 0 ≤ x ∧ x ≤ 1000000) → 0 ≤ s → s + 1000000 * (l.length : Int) ≤ 9000000000000000000 → wfold l s = s + l.sum := by
  induction l with
  | nil => intro s _ _ _; simp [wfold]
  | cons a l ih =>
    intro s h h0 h1
    have ha := h a (by simp)
    simp only [List.length_cons] at h1
    have e : wrap64 (s + a) = s + a := w64 (by omega) (by omega)
    show wfold l (wrap64 (s + a)) = _
    rw [e, ih (s + a) (fun x hx => h x (by simp [hx])) (by omega) (by omega), List.sum_cons, Int.add_assoc]
theorem wfold_take (l : List Int) (i : Nat) (h : i < l.length) (s : Int) : wfold (l.drop i) s = wfold (l.drop (i + 1)) (wrap64 (s + l[i])) := by
  rw [List.drop_eq_getElem_cons h]
  rfl
/-! ### committees -/
/-- There is a committee with this quota and these weights. -/
def goodB (q : Int) (l : List Int) : Bool := decide (1 ≤ l.length) && decide (l.length ≤ 9) && (l.all fun x => decide (0 ≤ x) && decide (x ≤ 1000)) && (decide (1 ≤ q) && decide (q ≤ l.sum))
theorem wfold_w (l : List Int) (h : l.length ≤ 9) (hb : (l.all fun x => decide (0 ≤ x) && decide (x ≤ 1000)) = true) : wfold l 0 = l.sum := by
  rw [wfold_sum l 0 (fun x hx => ?_) (by omega) (by omega), Int.zero_add]
  have := List.all_eq_true.1 hb x hx
  simp at this
  omega
structure GoodC (q : Int) (l : List Int) : Prop where
  l1 : 1 ≤ l.length
  l9 : l.length ≤ 9
  w : ∀ x ∈ l, 0 ≤ x ∧ x ≤ 1000
  q1 : 1 ≤ q
  qs : q ≤ l.sum
theorem good_iff (q : Int) (l : List Int) : goodB q l = true ↔ GoodC q l := by
  unfold goodB
  simp only [Bool.and_eq_true, decide_eq_true_eq, List.all_eq_true]
  exact ⟨fun ⟨⟨⟨a, b⟩, c⟩, d, e⟩ => ⟨a, b, c, d, e⟩, fun h => ⟨⟨⟨h.l1, h.l9⟩, h.w⟩, h.q1, h.qs⟩⟩
theorem sum_bounds (l : List Int) (c : Int) (h : ∀ x ∈ l, 0 ≤ x ∧ x ≤ c) : 0 ≤ l.sum ∧ l.sum ≤ c * l.length := by
  induction l with
  | nil => simp
  | cons a l ih =>
    have h1 := h a (by simp)
    have h2 := ih (fun x hx => h x (by simp [hx]))
    rw [List.sum_cons, List.length_cons]
    have : c * ((l.length + 1 : Nat) : Int) = c * l.length + c := by rw [Int.natCast_add, Int.mul_add]; simp
    omega
theorem GoodC.sum {q : Int} {l : List Int} (h : GoodC q l) : 1 ≤ l.sum ∧ l.sum ≤ 9000 := by
  have h1 := sum_bounds l 1000 h.w
  have h2 := h.q1
  have h3 := h.qs
  have h4 := h.l9
  omega
/-! ### what is known of an argument -/
def OkI (n : Int) : Prop := (Lit.int .i64 n).wf = true
def OkB (n : Int) : Prop := (Lit.int .u8 n).wf = true
def OkL (l : List Int) : Prop := l.length ≤ maxLen ∧ ∀ x ∈ l, OkI x
def OkBL (l : List Int) : Prop := l.length ≤ maxLen ∧ ∀ x ∈ l, OkB x
def OkLL (l : List (List Int)) : Prop := l.length ≤ maxLen ∧ ∀ x ∈ l, OkL x
theorem OkI.range {n : Int} (h : OkI n) : -9223372036854775808 ≤ n ∧ n ≤ 9223372036854775807 := by
  simp [OkI, Lit.wf, IntKind.min, IntKind.max, IntKind.bits, IntKind.signed] at h
  omega
theorem OkL.len {l : List Int} (h : OkL l) : l.length ≤ 9223372036854775807 := h.1
theorem OkLL.len {l : List (List Int)} (h : OkLL l) : l.length ≤ 9223372036854775807 := h.1
/-! ### bits and the weights of a set -/
/-- The weights of the members of a set, told by bits, together. -/
def wsum : List Int → Nat → Int
  | [], _ => 0
  | w :: ws, m => (if m % 2 = 1 then w else 0) + wsum ws (m / 2)
theorem wsum_bounds (ws : List Int) (h : ∀ x ∈ ws, 0 ≤ x) : ∀ m, 0 ≤ wsum ws m ∧ wsum ws m ≤ ws.sum := by
  induction ws with
  | nil => intro m; simp [wsum]
  | cons a l ih =>
    intro m
    have h1 := ih (fun x hx => h x (by simp [hx])) (m / 2)
    have h2 := h a (by simp)
    rw [List.sum_cons]
    simp only [wsum]
    split <;> omega
theorem div_pow_succ (m i : Nat) : m / 2 / 2 ^ i = m / 2 ^ (i + 1) := by rw [Nat.div_div_eq_div_mul, Nat.pow_succ, Nat.mul_comm]
theorem wsum_drop (ws : List Int) (i m : Nat) (h : i < ws.length) : wsum (ws.drop i) m = (if m % 2 = 1 then ws[i] else 0) + wsum (ws.drop (i + 1)) (m / 2) := by
  rw [List.drop_eq_getElem_cons h]
  rfl
theorem wsum_set (ws : List Int) (v : Int) : ∀ (i m : Nat) (h : i < ws.length), wsum (ws.set i v) m = wsum ws m + (if m / 2 ^ i % 2 = 1 then v - ws[i] else 0) := by
  induction ws with
  | nil => intro i m h; simp at h
  | cons a l ih =>
    intro i m h
    cases i with
    | zero =>
      simp only [List.set_cons_zero, wsum, Nat.pow_zero, Nat.div_one, List.getElem_cons_zero]
      split <;> omega
    | succ i =>
      have hl : i < l.length := by simpa using h
      simp only [List.set_cons_succ, wsum, List.getElem_cons_succ]
      rw [ih i (m / 2) hl, div_pow_succ]
      omega
theorem wsum_add (ws : List Int) : ∀ (i m : Nat) (h : i < ws.length), m / 2 ^ i % 2 = 0 → wsum ws (m + 2 ^ i) = wsum ws m + ws[i] := by
  induction ws with
  | nil => intro i m h; simp at h
  | cons a l ih =>
    intro i m h hb
    cases i with
    | zero =>
      simp only [Nat.pow_zero, Nat.div_one] at hb
      simp only [wsum, Nat.pow_zero, List.getElem_cons_zero]
      rw [if_pos (by omega), if_neg (by omega), show (m + 1) / 2 = m / 2 by omega]
      omega
    | succ i =>
      have hl : i < l.length := by simpa using h
      have hp : 2 ^ (i + 1) = 2 * 2 ^ i := by rw [Nat.pow_succ, Nat.mul_comm]
      have hb' : m / 2 / 2 ^ i % 2 = 0 := by rw [div_pow_succ]; exact hb
      simp only [wsum, List.getElem_cons_succ]
      rw [show (m + 2 ^ (i + 1)) % 2 = m % 2 by rw [hp]; omega, show (m + 2 ^ (i + 1)) / 2 = m / 2 + 2 ^ i by rw [hp]; omega, ih i (m / 2) hl hb']
      omega
theorem wsum_full (ws : List Int) : wsum ws (2 ^ ws.length - 1) = ws.sum := by
  induction ws with
  | nil => simp [wsum]
  | cons a l ih =>
    have hp : 2 ^ (l.length + 1) = 2 * 2 ^ l.length := by rw [Nat.pow_succ, Nat.mul_comm]
    have h0 : 0 < 2 ^ l.length := Nat.two_pow_pos _
    simp only [wsum, List.length_cons, List.sum_cons]
    rw [if_pos (by omega), show (2 ^ (l.length + 1) - 1) / 2 = 2 ^ l.length - 1 by omega, ih]
theorem wsum_zero (ws : List Int) : wsum ws 0 = 0 := by
  induction ws with
  | nil => rfl
  | cons a l ih => simp [wsum, ih]
theorem shr_nat (m i : Nat) (hi : i ≤ 64) : shr .i64 (m : Int) (i : Int) = ((m / 2 ^ i : Nat) : Int) := by
  unfold shr
  rw [Int.toNat_natCast, show IntKind.i64.bits = 64 from rfl, Nat.min_eq_left hi]
  simp
theorem i64_wrap {x : Int} (h0 : -9223372036854775808 ≤ x) (h1 : x ≤ 9223372036854775807) : IntKind.i64.wrap x = x := by rw [IntKind.wrap_i64]; omega
theorem shl_one (i : Nat) (hi : i ≤ 62) : shl .i64 1 (i : Int) = ((2 ^ i : Nat) : Int) := by
  unfold shl
  rw [Int.toNat_natCast, show IntKind.i64.bits = 64 from rfl, Nat.min_eq_left (by omega), Int.one_mul]
  have h : 2 ^ i ≤ 2 ^ 62 := Nat.pow_le_pow_right (by omega) hi
  have h' : (2 : Int) ^ i = ((2 ^ i : Nat) : Int) := by simp
  have h0 : 0 < 2 ^ i := Nat.two_pow_pos i
  rw [h', i64_wrap (by omega) (by omega)]
theorem wraps_i64 (n : Int) (h0 : 0 ≤ n) (h1 : n < 2 ^ 62) : IntKind.i64.wrap n = n := i64_wrap (by omega) (by omega)
theorem and_one (a : Nat) (h : a < 2 ^ 62) : Go.bits .and .i64 (a : Int) 1 = ((a % 2 : Nat) : Int) := by
  have := Go.bits_mask .i64 62 (by decide) wraps_i64 1 (by decide) (a : Int) (by omega) (by omega)
  simpa using this
theorem and_nat (a b : Nat) (ha : a < 2 ^ 62) (hb : b < 2 ^ 62) : Go.bits .and .i64 (a : Int) (b : Int) = ((a &&& b : Nat) : Int) := (Go.bits_nat .i64 62 (by decide) wraps_i64 a b ha hb).1
theorem or_nat (a b : Nat) (ha : a < 2 ^ 62) (hb : b < 2 ^ 62) : Go.bits .or .i64 (a : Int) (b : Int) = ((a ||| b : Nat) : Int) := (Go.bits_nat .i64 62 (by decide) wraps_i64 a b ha hb).2
theorem or_pow : ∀ (i m : Nat), m / 2 ^ i % 2 = 0 → m ||| 2 ^ i = m + 2 ^ i := by
  intro i
  induction i with
  | zero =>
    intro m h
    have h1 := Nat.or_div_two (a := m) (b := 1)
    have h2 := Nat.or_mod_two_eq_one (a := m) (b := 1)
    simp only [Nat.pow_zero, Nat.div_one] at h ⊢
    have h3 : (m ||| 1) % 2 = 1 := h2.2 (.inr rfl)
    have h4 : (m ||| 1) / 2 = m / 2 := by rw [h1]; simp
    omega
  | succ i ih =>
    intro m h
    have hp : 2 ^ (i + 1) = 2 * 2 ^ i := by rw [Nat.pow_succ, Nat.mul_comm]
    have h1 := Nat.or_div_two (a := m) (b := 2 ^ (i + 1))
    have h2 := Nat.or_mod_two_eq_one (a := m) (b := 2 ^ (i + 1))
    have h3 : 2 ^ (i + 1) / 2 = 2 ^ i := by omega
    rw [h3, ih (m / 2) (by rw [div_pow_succ]; exact h)] at h1
    have h5 : 2 ^ (i + 1) % 2 = 0 := by omega
    have h6 : (m ||| 2 ^ (i + 1)) % 2 = m % 2 := by
      by_cases e : m % 2 = 1
      · rw [h2.2 (.inl e), e]
      · have : ¬ (m ||| 2 ^ (i + 1)) % 2 = 1 := fun hh => by
          rcases h2.1 hh with h | h
          · exact e h
          · omega
        omega
    omega
/-- Which sets win. -/
def winsL (q : Int) (ws : List Int) : List Bool := (List.range (2 ^ ws.length)).map fun m => decide (q ≤ wsum ws m)
theorem winsL_length (q : Int) (ws : List Int) : (winsL q ws).length = 2 ^ ws.length := by simp [winsL]
theorem winsL_get (q : Int) (ws : List Int) (m : Nat) (h : m < (winsL q ws).length) : (winsL q ws)[m] = decide (q ≤ wsum ws m) := by simp [winsL]
theorem winsL_getD (q : Int) (ws : List Int) (m : Nat) (h : m < 2 ^ ws.length) : (winsL q ws).getD m false = decide (q ≤ wsum ws m) := by
  rw [List.getD_eq_getElem?_getD, List.getElem?_eq_getElem (by rw [winsL_length]; exact h), winsL_get]
  rfl
theorem GoodC.w0 {q : Int} {ws : List Int} (h : GoodC q ws) : ∀ x ∈ ws, 0 ≤ x := fun x hx => (h.w x hx).1
theorem GoodC.wb {q : Int} {ws : List Int} (h : GoodC q ws) : ∀ x ∈ ws, 0 ≤ x ∧ x ≤ 1000000000 := fun x hx => by have := h.w x hx; omega
theorem GoodC.pow {q : Int} {ws : List Int} (h : GoodC q ws) : 2 ≤ 2 ^ ws.length ∧ 2 ^ ws.length ≤ 512 := by
  have h1 : 2 ^ 1 ≤ 2 ^ ws.length := Nat.pow_le_pow_right (by omega) h.l1
  have h2 : 2 ^ ws.length ≤ 2 ^ 9 := Nat.pow_le_pow_right (by omega) h.l9
  omega
end Go.Proofs.YtmhcejaljnibhaaM

namespace Go.Proofs.Ytmhcejaljnibhaa.Q
open Go.RowKit Go.Proofs.YtmhcejaljnibhaaW.PrintWords Go.Proofs.YtmhcejaljnibhaaW.PrintLast Go.Proofs.YtmhcejaljnibhaaW.PrintMore Go.Proofs.YtmhcejaljnibhaaM
set_option linter.unusedVariables false
set_option linter.unusedSimpArgs false
theorem laws_toIntS.ev_l (l : List Int) (hl : l.length ≤ 35184372088832) : ∀ (d i : Nat) (acc : List Int), i + d = l.length → acc.length = l.length → acc.take i = l.take i → Ev (fun k => laws_toIntS.l0 k l acc (i : Int)) l := by
  intro d
  induction d with
  | zero =>
    intro i acc h hlen ht
    refine ev_step ?_
    simp only [laws_toIntS.l0]
    rw [ev_neg (by omega), ev_now]
    rwa [List.take_of_length_le (by omega), List.take_of_length_le (by omega)] at ht
  | succ d ih =>
    intro i acc h hlen ht
    refine ev_step ?_
    simp only [laws_toIntS.l0]
    have hi : i < l.length := by omega
    rw [ev_pos (by omega), ev_pos (by omega), ev_pos (by omega), w64i (n := l.length) (by omega) (by omega) (by omega), rd_lt l i hi, Int.toNat_natCast]
    refine ih (i + 1) _ (by omega) (by simpa using hlen) ?_
    rw [List.take_succ_eq_append_getElem (by simp; omega), List.take_succ_eq_append_getElem hi, List.take_set_of_le (by omega), ht]
    simp
theorem laws_toIntS.ev (l : List Int) (hl : l.length ≤ 35184372088832) : Ev (fun k => laws_toIntS.f k l) l := by
  simp only [laws_toIntS.f]
  rw [ev_pos (by omega), ev_pos (by omega)]
  exact laws_toIntS.ev_l l hl l.length 0 _ (by omega) (by simp) (by simp)
theorem laws_eqIntS.ev_l (a b : List Int) (hl : a.length ≤ 9223372036854775807) (hab : a.length = b.length) : ∀ (d i : Nat), i + d = a.length → Ev (fun k => laws_eqIntS.l0 k a b (i : Int)) (decide (a.drop i = b.drop i)) := by
  intro d
  induction d with
  | zero =>
    intro i h
    refine ev_step ?_
    simp only [laws_eqIntS.l0]
    rw [ev_neg (by omega), ev_now, List.drop_of_length_le (by omega), List.drop_of_length_le (by omega)]
    rfl
  | succ d ih =>
    intro i h
    refine ev_step ?_
    simp only [laws_eqIntS.l0]
    have hi : i < a.length := by omega
    have hj : i < b.length := by omega
    rw [ev_pos (by omega), ev_pos (by omega), ev_pos (by omega), rd_lt a i hi, rd_lt b i hj, w64i (n := a.length) (by omega) (by omega) (by omega)]
    have ed : decide (a.drop i = b.drop i) = (decide (a[i] = b[i]) && decide (a.drop (i + 1) = b.drop (i + 1))) := by
      rw [List.drop_eq_getElem_cons hi, List.drop_eq_getElem_cons hj, ← Bool.decide_and]
      simp only [List.cons.injEq]
    rw [ed]
    by_cases e : a[i] = b[i]
    · rw [ev_pos e, decide_eq_true e, Bool.true_and]
      exact ih (i + 1) (by omega)
    · rw [ev_neg e, ev_now, decide_eq_false e, Bool.false_and]
theorem laws_eqIntS.ev (a b : List Int) (hl : a.length ≤ 9223372036854775807) : Ev (fun k => laws_eqIntS.f k a b) (decide (a = b)) := by
  simp only [laws_eqIntS.f]
  by_cases h : a.length = b.length
  · rw [ev_pos (by omega)]
    exact laws_eqIntS.ev_l a b hl h a.length 0 (by omega)
  · rw [ev_neg (by omega), ev_now]
    have : a ≠ b := fun e => h (by rw [e])
    simp [this]
/-- The numbers from k on, as many as are asked. -/
def marks (k : Int) (n : Nat) : List Int := (List.range n).map fun (i : Nat) => k + (i : Int)
theorem marks_length (k : Int) (n : Nat) : (marks k n).length = n := by simp [marks]
theorem marks_get (k : Int) (n i : Nat) (h : i < (marks k n).length) : (marks k n)[i] = k + (i : Int) := by simp [marks]
theorem laws_markIntS.ev_l (n : Nat) (c : Int) (hn : n ≤ 9223372036854775807) (hc0 : 0 ≤ c) (hc : c + (n : Int) ≤ 9223372036854775807) : ∀ (d i : Nat) (acc : List Int), i + d = n → acc.length = n → acc.take i = (marks c n).take i → Ev (fun k => laws_markIntS.l0 k acc (c + (i : Int)) (i : Int)) (c + (n : Int), marks c n) := by
  intro d
  induction d with
  | zero =>
    intro i acc h hlen ht
    refine ev_step ?_
    simp only [laws_markIntS.l0]
    rw [ev_neg (by omega), ev_now]
    rw [List.take_of_length_le (by omega), List.take_of_length_le (by rw [marks_length]; omega)] at ht
    rw [ht, show i = n by omega]
  | succ d ih =>
    intro i acc h hlen ht
    refine ev_step ?_
    simp only [laws_markIntS.l0]
    have hi : i < n := by omega
    rw [ev_pos (by omega), ev_pos (by omega), w64i (i := (i : Int)) (n := n) (by omega) (by omega) hn, w64 (x := c + (i : Int) + 1) (by omega) (by omega), Int.toNat_natCast]
    rw [show c + (i : Int) + 1 = c + ((i + 1 : Nat) : Int) by omega]
    refine ih (i + 1) _ (by omega) (by simpa using hlen) ?_
    rw [List.take_succ_eq_append_getElem (by simp; omega), List.take_succ_eq_append_getElem (by rw [marks_length]; omega), List.take_set_of_le (by omega), ht, marks_get]
    simp
theorem laws_markIntS.ev (l : List Int) (c : Int) (hc0 : 0 ≤ c) (hc : c + (l.length : Int) ≤ 9223372036854775807) : Ev (fun k => laws_markIntS.f k l c) (c + (l.length : Int), marks c l.length) := by
  have := laws_markIntS.ev_l l.length c (by omega) hc0 hc l.length 0 l (by omega) rfl (by simp)
  simpa [laws_markIntS.f] using this
theorem laws_heldIntS.ev_l (n : Nat) (c : Int) (hn : n ≤ 9223372036854775807) (hc0 : 0 ≤ c) (hc : c + (n : Int) ≤ 9223372036854775807) : ∀ (d i : Nat), i + d = n → Ev (fun k => laws_heldIntS.l0 k (marks c n) (c + (i : Int)) (i : Int)) (c + (n : Int)) := by
  intro d
  induction d with
  | zero =>
    intro i h
    refine ev_step ?_
    simp only [laws_heldIntS.l0]
    rw [marks_length, ev_neg (by omega), ev_now]
    omega
  | succ d ih =>
    intro i h
    refine ev_step ?_
    simp only [laws_heldIntS.l0]
    have hi : i < (marks c n).length := by rw [marks_length]; omega
    rw [rd_lt _ i hi, marks_get, marks_length, ev_pos (by omega), ev_pos (by omega), ev_pos rfl, w64i (i := (i : Int)) (n := n) (by omega) (by omega) hn, w64 (x := c + (i : Int) + 1) (by omega) (by omega)]
    rw [show c + (i : Int) + 1 = c + ((i + 1 : Nat) : Int) by omega]
    exact ih (i + 1) (by omega)
theorem laws_heldIntS.ev (n : Nat) (c : Int) (hc0 : 0 ≤ c) (hc : c + (n : Int) ≤ 9223372036854775807) : Ev (fun k => laws_heldIntS.f k (marks c n) c) (c + (n : Int)) := by
  have := laws_heldIntS.ev_l n c (by omega) hc0 hc n 0 (by omega)
  simpa [laws_heldIntS.f] using this
theorem laws_szIntS.v (l : List Int) (c : Int) (hc : c ≤ 9223372036854775807) (hl : (l.length : Int) ≤ 9223372036854775807 + c) : laws_szIntS.f l c = some (if c - (l.length : Int) < 0 then -1 else c - (l.length : Int)) := by
  unfold laws_szIntS.f
  rw [w64 (by omega) (by omega)]
  split <;> rfl
end Go.Proofs.Ytmhcejaljnibhaa.Q

namespace Go.Proofs.Ytmhcejaljnibhaa.Q
open Go.RowKit Go.Proofs.YtmhcejaljnibhaaW.PrintWords Go.Proofs.YtmhcejaljnibhaaW.PrintLast Go.Proofs.YtmhcejaljnibhaaW.PrintMore Go.Proofs.YtmhcejaljnibhaaM
set_option linter.unusedVariables false
set_option linter.unusedSimpArgs false
theorem laws_toCommittee.ev (q : Int) (l : List Int) (hl : l.length ≤ 35184372088832) : Ev (fun k => laws_toCommittee.f k q l) (q, l) := by
  simp only [laws_toCommittee.f]
  rw [ev_bind (laws_toIntS.ev l hl), ev_now]
theorem laws_eqCommittee.ev (q : Int) (a : List Int) (q' : Int) (b : List Int) (hl : a.length ≤ 9223372036854775807) : Ev (fun k => laws_eqCommittee.f k q a q' b) (decide (q = q') && decide (a = b)) := by
  simp only [laws_eqCommittee.f]
  by_cases h : q = q'
  · rw [ev_pos h, ev_bind (laws_eqIntS.ev a b hl)]
    by_cases e : a = b
    · rw [ev_pos (by simpa using e), ev_now]; simp [h, e]
    · rw [ev_neg (by simpa using e), ev_now]; simp [e]
  · rw [ev_neg h, ev_now]; simp [h]
theorem laws_eqCommittee.ev_same (q : Int) (a : List Int) (hl : a.length ≤ 9223372036854775807) : Ev (fun k => laws_eqCommittee.f k q a q a) true := by
  have := laws_eqCommittee.ev q a q a hl
  simpa using this
theorem laws_markCommittee.ev (q : Int) (l : List Int) (c : Int) (hc0 : 0 ≤ c) (hc : c + (l.length : Int) ≤ 9223372036854775807) : Ev (fun k => laws_markCommittee.f k q l c) (c + (l.length : Int), marks c l.length) := by
  simp only [laws_markCommittee.f]
  rw [ev_bind (laws_markIntS.ev l c hc0 hc), ev_now]
theorem laws_heldCommittee.ev (q : Int) (n : Nat) (c : Int) (hc0 : 0 ≤ c) (hc : c + (n : Int) ≤ 9223372036854775807) : Ev (fun k => laws_heldCommittee.f k q (marks c n) c) (c + (n : Int)) := by
  simp only [laws_heldCommittee.f]
  rw [ev_bind (laws_heldIntS.ev n c hc0 hc), ev_neg (by omega), ev_now]
theorem laws_szCommittee.v (q : Int) (l : List Int) (c : Int) (hc : c ≤ 9223372036854775807) (hl : (l.length : Int) ≤ 9223372036854775807 + c) : laws_szCommittee.f q l c = some (if c - (l.length : Int) < 0 then -1 else c - (l.length : Int)) := by
  unfold laws_szCommittee.f
  rw [laws_szIntS.v l c hc hl, Option.bind_some]
  by_cases h : c - (l.length : Int) < 0
  · simp [h]
  · simp [h]
end Go.Proofs.Ytmhcejaljnibhaa.Q

namespace Go.Proofs.Ytmhcejaljnibhaa.Q
open Go.RowKit Go.Proofs.YtmhcejaljnibhaaW.PrintWords Go.Proofs.YtmhcejaljnibhaaW.PrintLast Go.Proofs.YtmhcejaljnibhaaW.PrintMore Go.Proofs.YtmhcejaljnibhaaM
set_option linter.unusedVariables false
set_option linter.unusedSimpArgs false
theorem impl_sumOf.ev_l (l : List Int) (hl : l.length ≤ 9223372036854775807) : ∀ (d i : Nat) (s : Int), i + d = l.length → Ev (fun k => impl_sumOf.l0 k s l (l.length : Int) (i : Int)) (wfold (l.drop i) s) := by
  intro d
  induction d with
  | zero =>
    intro i s h
    refine ev_step ?_
    simp only [impl_sumOf.l0]
    rw [ev_neg (by omega), ev_now, List.drop_of_length_le (by omega)]
    rfl
  | succ d ih =>
    intro i s h
    refine ev_step ?_
    simp only [impl_sumOf.l0]
    have hi : i < l.length := by omega
    rw [ev_pos (by omega), ev_pos (by omega), ev_pos (by omega), w64i (n := l.length) (by omega) (by omega) hl, rd_lt l i hi, wfold_take l i hi]
    exact ih (i + 1) _ (by omega)
theorem impl_sumOf.ev (l : List Int) (hl : l.length ≤ 9223372036854775807) : Ev (fun k => impl_sumOf.f k l) (wfold l 0) := impl_sumOf.ev_l l hl l.length 0 0 (by omega)
end Go.Proofs.Ytmhcejaljnibhaa.Q

namespace Go.Proofs.Ytmhcejaljnibhaa.Q
open Go.RowKit Go.Proofs.YtmhcejaljnibhaaW.PrintWords Go.Proofs.YtmhcejaljnibhaaW.PrintLast Go.Proofs.YtmhcejaljnibhaaW.PrintMore Go.Proofs.YtmhcejaljnibhaaM
set_option linter.unusedVariables false
set_option linter.unusedSimpArgs false
theorem impl_within.v (a b c : Int) : impl_within.f a b c = some (decide (b ≤ a) && decide (a ≤ c)) := by
  unfold impl_within.f
  by_cases h : b ≤ a
  · rw [if_pos h]; simp [h]
  · rw [if_neg h]; simp [h]
theorem impl_IsCommittee.ev (q : Int) (l : List Int) (hl : l.length ≤ 9223372036854775807) : Ev (fun k => impl_IsCommittee.f k q l) (goodB q l) := by
  simp only [impl_IsCommittee.f]
  unfold goodB
  by_cases h1 : 1 ≤ l.length
  · rw [ev_pos (by omega)]
    by_cases h2 : l.length ≤ 9
    · rw [ev_pos (by omega), ev_bind (ev_of (show impl_areIn.f l 0 1000 = some _ from rfl))]
      cases hb : (l.all fun x => decide (0 ≤ x) && decide (x ≤ 1000)) with
      | true =>
        rw [ev_pos rfl, ev_bind (impl_sumOf.ev l hl), ev_bind (ev_of (impl_within.v _ _ _)), ev_now, wfold_w l h2 hb]
        simp [h1, h2]
      | false =>
        rw [ev_neg (by simp), ev_now]
        simp
    · rw [ev_neg (by omega), ev_now]
      simp [h2]
  · rw [ev_neg (by omega), ev_now]
    simp [h1]
end Go.Proofs.Ytmhcejaljnibhaa.Q

namespace Go.Proofs.Ytmhcejaljnibhaa.Q
open Go.RowKit Go.Proofs.YtmhcejaljnibhaaX Go.Proofs.YtmhcejaljnibhaaW.PrintWords Go.Proofs.YtmhcejaljnibhaaW.PrintLast Go.Proofs.YtmhcejaljnibhaaW.PrintMore
attribute [local go_sem] max2_int min2_int max_two min_two max_three min_three max_four min_four   -- for this text's walks alone
set_option linter.unusedVariables false
set_option linter.unusedSimpArgs false

/-! ### impl_ifCommittee: function 36 -/
def impl_ifCommittee.f (k : Nat) (a0_0 : Int) (l0_1 : List Int) : Option (Int × List Int × Bool) := (impl_IsCommittee.f k a0_0 l0_1).bind fun t103 => (if t103 = true then (some (a0_0, l0_1, true)) else (some (0, ([] : List Int), false)))
theorem impl_ifCommittee.mono : ∀ a0 a1 k, LeO (impl_ifCommittee.f k a0 a1) (impl_ifCommittee.f (k + 1) a0 a1) := by
 intro a0 a1 k
 unfold impl_ifCommittee.f
 repeat' first
   | (with_reducible exact impl_IsCommittee.mono _ _ _)
   | (with_reducible exact LeO.refl _)
   | (with_reducible exact LeO.none _)
   | (with_reducible refine LeO.ite ?_ ?_)
   | (with_reducible refine LeO.bind ?_ (fun _ => ?_))
   | exact impl_IsCommittee.mono _ _ _
   | exact LeO.none _
   | refine LeO.ite ?_ ?_
   | refine LeO.bind ?_ (fun _ => ?_)
set_option maxHeartbeats 8000000 in
set_option maxRecDepth 100000 in
theorem impl_ifCommittee.calls (k : Nat) (a0_0 : Int) (P0_1_ : Nat → Prop) (u9000_ : Value) (l0_1 : List Int) (r1 : Int) (r2 : List Int) (r3 : Bool) (w0 w : World) (hB : Below w0.heap.size w0 w) (ho0_1 : Kd.R (Kd.int .i64) 3 w w0.heap.size P0_1_ u9000_ l0_1) (h : impl_ifCommittee.f k a0_0 l0_1 = some (r1, r2, r3)) :
  Calls Try.prog 36 #[.agg #[.int .i64 a0_0, u9000_]] w fun e w' => ∃ v1_ : Value, e = .returned (.tuple #[.agg #[.int .i64 r1, v1_], .bool r3]) ∧ Kd.R (Kd.int .i64) 3 w' w0.heap.size (fun k_ => (P0_1_ k_ ∨ w.heap.size ≤ k_)) v1_ r2 ∧ Below w0.heap.size w0 w' ∧ Kept w w' (fun k_ => P0_1_ k_) := by
 have hu24 := Try.underlying24
 have HO0_1 := Aside0.mk (show Kd.R (Kd.int .i64) 3 w w0.heap.size (fun k_ => (P0_1_ k_ ∨ w.heap.size ≤ k_)) u9000_ l0_1 from Kd.R_mono ho0_1 (fun k_ hk => (.inl hk)))
 have HK := Aside0.mk (Kept.refl w (fun k_ => P0_1_ k_))
 have HW0 := Aside0.mk hB.size
 have HB := Aside0.mk hB
 clear hB
 have H : ((impl_IsCommittee.f k a0_0 l0_1).bind fun t103 => (if t103 = true then (some (a0_0, l0_1, true)) else (some (0, ([] : List Int), false)))) = some (r1, r2, r3) := h
 clear h
 replace H := oB H
 obtain ⟨t103, A20, H⟩ := H
 replace H : (if t103 = true then (some (a0_0, l0_1, true)) else (some (0, ([] : List Int), false))) = some (r1, r2, r3) := H
 have A2 := Aside0.mk A20
 clear A20
 by_cases c3 : t103 = true
 ·subst c3
  have H1 : (some (a0_0, l0_1, true)) = some (r1, r2, r3) := by rw [if_pos rfl] at H; exact H
  clear H
  have H := H1
  clear H1
  simp only [Option.some.injEq, Prod.mk.injEq] at H
  obtain ⟨rfl, rfl, rfl⟩ := H
  obtain ⟨Ao4, co4, eo4⟩ := Kd.R_slice HO0_1.out
  subst eo4
  go_enter Try.func36, Try.ntmps36
  go_wp2_with (first | ((with_reducible refine gate_dst (N := 1) rfl ?_); refine box_event ?hg (N := 1) ?hd (cs := #[.int .i64 a0_0, .slice Ao4 l0_1.length co4]) (t := 24) ?hr ?_; (case hd => rfl); (case hg => rfl); (case hr => first | (go_simp; done) | (go_simp; rfl)); intro gb101 hg w5 hbox hb; have n0_ := Aside0.mk (Kd.R_below (by (first | exact rp HO0_1.out | exact HO0_1.out)) hb); have n1_ := Aside0.mk (Kept.below (S := (fun k_ => P0_1_ k_)) (by repeat (first | (with_reducible first | exact HK.out | apply Kept.alloc | apply Kept.drewN | apply Kept.drew) | exact HK.out)) hb); have n2_ := Aside0.mk (below_step (by repeat (first | (with_reducible first | exact HB.out | apply ba | apply bd | apply be) | exact HB.out)) hb); have n3_ := Aside0.mk (hbox); have n4_ := Aside0.mk ((by rw [hg]; exact (by first | exact HK.out.1 | exact (show Kept w _ (fun k_ => P0_1_ k_) from by repeat (first | (with_reducible first | exact HK.out | apply Kept.alloc | apply Kept.drewN | apply Kept.drew) | exact HK.out)).1) : w.heap.size ≤ gb101)); have n5_ := Aside0.mk ((by rw [hg]; exact (below_size (by repeat (first | (with_reducible first | exact HB.out | apply ba | apply bd | apply be) | exact HB.out))) : w0.heap.size ≤ gb101)); clear HO0_1; clear HK; clear HB; have HO0_1 := n0_; have HK := n1_; have HB := n2_; have BK101 := n3_; have GW101 := n4_; have GE101 := n5_; clear n0_ n1_ n2_ n3_ n4_ n5_; clear hb hbox hg) | ((with_reducible refine gate_dst (N := 2) rfl ?_); refine box_event ?hg (N := 2) ?hd (cs := #[.int .i64 0, .slice none 0 0]) (t := 24) ?hr ?_; (case hd => rfl); (case hg => rfl); (case hr => first | (go_simp; done) | (go_simp; rfl)); intro gb102 hg w6 hbox hb; have n0_ := Aside0.mk (Kd.R_below (by (first | exact rp HO0_1.out | exact HO0_1.out)) hb); have n1_ := Aside0.mk (blk_below (g := gb101) (o := .cells #[.int .i64 a0_0, .slice Ao4 l0_1.length co4] 24 (0, 0)) (by (first | exact bp BK101.out | exact BK101.out)) hb); have n2_ := Aside0.mk (Kept.below (S := (fun k_ => P0_1_ k_)) (by repeat (first | (with_reducible first | exact HK.out | apply Kept.alloc | apply Kept.drewN | apply Kept.drew | refine Kept.setCell ?_ (.inr GW101.out) _) | exact HK.out)) hb); have n3_ := Aside0.mk (below_step (by repeat (first | (with_reducible first | exact HB.out | apply ba | apply bd | apply be | refine bs ?_ GE101.out) | exact HB.out)) hb); have n4_ := Aside0.mk (hbox); have n5_ := Aside0.mk ((by rw [hg]; exact (by first | exact HK.out.1 | exact (show Kept w _ (fun k_ => P0_1_ k_) from by repeat (first | (with_reducible first | exact HK.out | apply Kept.alloc | apply Kept.drewN | apply Kept.drew | refine Kept.setCell ?_ (.inr GW101.out) _) | exact HK.out)).1) : w.heap.size ≤ gb102)); have n6_ := Aside0.mk ((by rw [hg]; exact (below_size (by repeat (first | (with_reducible first | exact HB.out | apply ba | apply bd | apply be | refine bs ?_ GE101.out) | exact HB.out))) : w0.heap.size ≤ gb102)); have n7_ := Aside0.mk ((by rw [hg]; exact Nat.ne_of_lt (blk_lt (g := gb101) (o := .cells #[.int .i64 a0_0, .slice Ao4 l0_1.length co4] 24 (0, 0)) (by (first | exact bp BK101.out | exact BK101.out))) : gb101 ≠ gb102)); have n8_ := Aside0.mk ((by rw [hg]; exact Nat.ne_of_gt (blk_lt (g := gb101) (o := .cells #[.int .i64 a0_0, .slice Ao4 l0_1.length co4] 24 (0, 0)) (by (first | exact bp BK101.out | exact BK101.out))) : gb102 ≠ gb101)); clear HO0_1; clear BK101; clear HK; clear HB; have HO0_1 := n0_; have BK101 := n1_; have HK := n2_; have HB := n3_; have BK102 := n4_; have GW102 := n5_; have GE102 := n6_; have NB101_102 := n7_; have NB102_101 := n8_; clear n0_ n1_ n2_ n3_ n4_ n5_ n6_ n7_ n8_; clear hb hbox hg; have hnb7 := NB101_102.out; have hnc7 := NB102_101.out; have hcz8_0 : w6.cell? ⟨gb101, 0, none⟩ = some (.int .i64 a0_0) := (blk_cell BK101.out 0).trans rfl; have hcz8_1 : w6.cell? ⟨gb101, 1, none⟩ = some (.slice Ao4 l0_1.length co4) := (blk_cell BK101.out 1).trans rfl; have hfz8_0 := blk_frozen BK101.out 0; have hfz8_1 := blk_frozen BK101.out 1) | ((with_reducible refine gate_callee (f := 35) rfl ?_); refine goesL_ (some 5) rfl rfl Try.func35 (by kernel_rfl) rfl #[.agg #[.int .i64 a0_0, .slice Ao4 l0_1.length co4]] rfl (by (try simp only [mA, mC, mN]); first | done | rfl | (simp only [List.length_drop, List.length_take]; rfl)) ?_; (with_reducible refine (impl_IsCommittee.calls k a0_0 _ _ l0_1 true _ ?side1 ?side2 A2.out).mono ?_); (case side1 => repeat (first | exact (Kd.R_reads' HO0_1.out).2.2 | (with_reducible refine Kd.C_alloc ?_ _) | (with_reducible refine Kd.C_drewN ?_ _) | (with_reducible refine Kd.C_drew ?_))); (case side2 => exact (Kd.R_reads' HO0_1.out).2.1); rintro e w9 ⟨rfl, hb⟩; refine ⟨_, rfl, ?_⟩; have n0_ := Aside0.mk (Kd.R_below (by (first | exact rp HO0_1.out | exact HO0_1.out)) hb); have n1_ := Aside0.mk (blk_below (g := gb101) (o := .cells #[.int .i64 a0_0, .slice Ao4 l0_1.length co4] 24 (0, 0)) (by (first | exact bp BK101.out | exact BK101.out)) hb); have n2_ := Aside0.mk (blk_below (g := gb102) (o := .cells #[.int .i64 0, .slice none 0 0] 24 (0, 0)) (by (first | exact bp BK102.out | exact BK102.out)) hb); have n3_ := Aside0.mk (Kept.below (S := (fun k_ => P0_1_ k_)) (by repeat (first | (with_reducible first | exact HK.out | apply Kept.alloc | apply Kept.drewN | apply Kept.drew | refine Kept.setCell ?_ (.inr GW101.out) _ | refine Kept.setCell ?_ (.inr GW102.out) _) | exact HK.out)) hb); have n4_ := Aside0.mk (below_step (by repeat (first | (with_reducible first | exact HB.out | apply ba | apply bd | apply be | refine bs ?_ GE101.out | refine bs ?_ GE102.out) | exact HB.out)) hb); clear HO0_1; clear BK101; clear BK102; clear HK; clear HB; have HO0_1 := n0_; have BK101 := n1_; have BK102 := n2_; have HK := n3_; have HB := n4_; clear n0_ n1_ n2_ n3_ n4_; (try clear hb); (try clear hb2); (try clear hk); (try clear hi); have hcz10_0 : w9.cell? ⟨gb101, 0, none⟩ = some (.int .i64 a0_0) := (blk_cell BK101.out 0).trans rfl; have hcz10_1 : w9.cell? ⟨gb101, 1, none⟩ = some (.slice Ao4 l0_1.length co4) := (blk_cell BK101.out 1).trans rfl; have hfz10_0 := blk_frozen BK101.out 0; have hfz10_1 := blk_frozen BK101.out 1; have hcz11_0 : w9.cell? ⟨gb102, 0, none⟩ = some (.int .i64 0) := (blk_cell BK102.out 0).trans rfl; have hcz11_1 : w9.cell? ⟨gb102, 1, none⟩ = some (.slice none 0 0) := (blk_cell BK102.out 1).trans rfl; have hfz11_0 := blk_frozen BK102.out 0; have hfz11_1 := blk_frozen BK102.out 1))
  refine bodyPost_ret (results_ct rfl _ _ gb102 24 #[.int .i64 a0_0, .slice Ao4 l0_1.length co4] (0, 0) _ rfl (by (try refine bp ?_); refine blk_put (cs := #[.int .i64 a0_0, .slice none 0 0]) ?_ 1 _ rfl; (try refine bp ?_); refine blk_put (cs := #[.int .i64 0, .slice none 0 0]) ?_ 0 _ rfl; (first | exact bp BK102.out | exact BK102.out)) Try.underlying24 rfl (by kernel_rfl)) rfl ?_
  exact ⟨_, by first | rfl | (simp <;> rfl) | (simp [*] <;> rfl), by (try refine rp ?_); exact Kd.R_mono (Kd.R_far (p := ⟨gb102, 1, none⟩) (Kd.R_far (p := ⟨gb102, 0, none⟩) (Kd.R_types HO0_1.out BK102.out (by decide)) (fun _ hk => hk.2) (.int .i64 a0_0)) (fun _ hk => hk.2) (.slice Ao4 l0_1.length co4)) (fun _ hk => hk.1), by repeat (first | (with_reducible first | exact HB.out | apply ba | apply bd | apply be | refine bs ?_ GE101.out | refine bs ?_ GE102.out) | exact HB.out), by repeat (first | (with_reducible first | exact HK.out | apply Kept.alloc | apply Kept.drewN | apply Kept.drew | refine Kept.setCell ?_ (.inr GW101.out) _ | refine Kept.setCell ?_ (.inr GW102.out) _) | exact HK.out)⟩
 ·replace c3 := Bool.eq_false_iff.mpr c3
  subst c3
  have H1 : (some (0, ([] : List Int), false)) = some (r1, r2, r3) := by rw [if_neg (show ¬ (false = true) by decide)] at H; exact H
  clear H
  have H := H1
  clear H1
  simp only [Option.some.injEq, Prod.mk.injEq] at H
  obtain ⟨rfl, rfl, rfl⟩ := H
  obtain ⟨Ao12, co12, eo12⟩ := Kd.R_slice HO0_1.out
  subst eo12
  go_enter Try.func36, Try.ntmps36
  go_wp2_with (first | ((with_reducible refine gate_dst (N := 1) rfl ?_); refine box_event ?hg (N := 1) ?hd (cs := #[.int .i64 a0_0, .slice Ao12 l0_1.length co12]) (t := 24) ?hr ?_; (case hd => rfl); (case hg => rfl); (case hr => first | (go_simp; done) | (go_simp; rfl)); intro gb101 hg w13 hbox hb; have n0_ := Aside0.mk (Kd.R_below (by (first | exact rp HO0_1.out | exact HO0_1.out)) hb); have n1_ := Aside0.mk (Kept.below (S := (fun k_ => P0_1_ k_)) (by repeat (first | (with_reducible first | exact HK.out | apply Kept.alloc | apply Kept.drewN | apply Kept.drew) | exact HK.out)) hb); have n2_ := Aside0.mk (below_step (by repeat (first | (with_reducible first | exact HB.out | apply ba | apply bd | apply be) | exact HB.out)) hb); have n3_ := Aside0.mk (hbox); have n4_ := Aside0.mk ((by rw [hg]; exact (by first | exact HK.out.1 | exact (show Kept w _ (fun k_ => P0_1_ k_) from by repeat (first | (with_reducible first | exact HK.out | apply Kept.alloc | apply Kept.drewN | apply Kept.drew) | exact HK.out)).1) : w.heap.size ≤ gb101)); have n5_ := Aside0.mk ((by rw [hg]; exact (below_size (by repeat (first | (with_reducible first | exact HB.out | apply ba | apply bd | apply be) | exact HB.out))) : w0.heap.size ≤ gb101)); clear HO0_1; clear HK; clear HB; have HO0_1 := n0_; have HK := n1_; have HB := n2_; have BK101 := n3_; have GW101 := n4_; have GE101 := n5_; clear n0_ n1_ n2_ n3_ n4_ n5_; clear hb hbox hg) | ((with_reducible refine gate_dst (N := 2) rfl ?_); refine box_event ?hg (N := 2) ?hd (cs := #[.int .i64 0, .slice none 0 0]) (t := 24) ?hr ?_; (case hd => rfl); (case hg => rfl); (case hr => first | (go_simp; done) | (go_simp; rfl)); intro gb102 hg w14 hbox hb; have n0_ := Aside0.mk (Kd.R_below (by (first | exact rp HO0_1.out | exact HO0_1.out)) hb); have n1_ := Aside0.mk (blk_below (g := gb101) (o := .cells #[.int .i64 a0_0, .slice Ao12 l0_1.length co12] 24 (0, 0)) (by (first | exact bp BK101.out | exact BK101.out)) hb); have n2_ := Aside0.mk (Kept.below (S := (fun k_ => P0_1_ k_)) (by repeat (first | (with_reducible first | exact HK.out | apply Kept.alloc | apply Kept.drewN | apply Kept.drew | refine Kept.setCell ?_ (.inr GW101.out) _) | exact HK.out)) hb); have n3_ := Aside0.mk (below_step (by repeat (first | (with_reducible first | exact HB.out | apply ba | apply bd | apply be | refine bs ?_ GE101.out) | exact HB.out)) hb); have n4_ := Aside0.mk (hbox); have n5_ := Aside0.mk ((by rw [hg]; exact (by first | exact HK.out.1 | exact (show Kept w _ (fun k_ => P0_1_ k_) from by repeat (first | (with_reducible first | exact HK.out | apply Kept.alloc | apply Kept.drewN | apply Kept.drew | refine Kept.setCell ?_ (.inr GW101.out) _) | exact HK.out)).1) : w.heap.size ≤ gb102)); have n6_ := Aside0.mk ((by rw [hg]; exact (below_size (by repeat (first | (with_reducible first | exact HB.out | apply ba | apply bd | apply be | refine bs ?_ GE101.out) | exact HB.out))) : w0.heap.size ≤ gb102)); have n7_ := Aside0.mk ((by rw [hg]; exact Nat.ne_of_lt (blk_lt (g := gb101) (o := .cells #[.int .i64 a0_0, .slice Ao12 l0_1.length co12] 24 (0, 0)) (by (first | exact bp BK101.out | exact BK101.out))) : gb101 ≠ gb102)); have n8_ := Aside0.mk ((by rw [hg]; exact Nat.ne_of_gt (blk_lt (g := gb101) (o := .cells #[.int .i64 a0_0, .slice Ao12 l0_1.length co12] 24 (0, 0)) (by (first | exact bp BK101.out | exact BK101.out))) : gb102 ≠ gb101)); clear HO0_1; clear BK101; clear HK; clear HB; have HO0_1 := n0_; have BK101 := n1_; have HK := n2_; have HB := n3_; have BK102 := n4_; have GW102 := n5_; have GE102 := n6_; have NB101_102 := n7_; have NB102_101 := n8_; clear n0_ n1_ n2_ n3_ n4_ n5_ n6_ n7_ n8_; clear hb hbox hg; have hnb15 := NB101_102.out; have hnc15 := NB102_101.out; have hcz16_0 : w14.cell? ⟨gb101, 0, none⟩ = some (.int .i64 a0_0) := (blk_cell BK101.out 0).trans rfl; have hcz16_1 : w14.cell? ⟨gb101, 1, none⟩ = some (.slice Ao12 l0_1.length co12) := (blk_cell BK101.out 1).trans rfl; have hfz16_0 := blk_frozen BK101.out 0; have hfz16_1 := blk_frozen BK101.out 1) | ((with_reducible refine gate_callee (f := 35) rfl ?_); refine goesL_ (some 5) rfl rfl Try.func35 (by kernel_rfl) rfl #[.agg #[.int .i64 a0_0, .slice Ao12 l0_1.length co12]] rfl (by (try simp only [mA, mC, mN]); first | done | rfl | (simp only [List.length_drop, List.length_take]; rfl)) ?_; (with_reducible refine (impl_IsCommittee.calls k a0_0 _ _ l0_1 false _ ?side1 ?side2 A2.out).mono ?_); (case side1 => repeat (first | exact (Kd.R_reads' HO0_1.out).2.2 | (with_reducible refine Kd.C_alloc ?_ _) | (with_reducible refine Kd.C_drewN ?_ _) | (with_reducible refine Kd.C_drew ?_))); (case side2 => exact (Kd.R_reads' HO0_1.out).2.1); rintro e w17 ⟨rfl, hb⟩; refine ⟨_, rfl, ?_⟩; have n0_ := Aside0.mk (Kd.R_below (by (first | exact rp HO0_1.out | exact HO0_1.out)) hb); have n1_ := Aside0.mk (blk_below (g := gb101) (o := .cells #[.int .i64 a0_0, .slice Ao12 l0_1.length co12] 24 (0, 0)) (by (first | exact bp BK101.out | exact BK101.out)) hb); have n2_ := Aside0.mk (blk_below (g := gb102) (o := .cells #[.int .i64 0, .slice none 0 0] 24 (0, 0)) (by (first | exact bp BK102.out | exact BK102.out)) hb); have n3_ := Aside0.mk (Kept.below (S := (fun k_ => P0_1_ k_)) (by repeat (first | (with_reducible first | exact HK.out | apply Kept.alloc | apply Kept.drewN | apply Kept.drew | refine Kept.setCell ?_ (.inr GW101.out) _ | refine Kept.setCell ?_ (.inr GW102.out) _) | exact HK.out)) hb); have n4_ := Aside0.mk (below_step (by repeat (first | (with_reducible first | exact HB.out | apply ba | apply bd | apply be | refine bs ?_ GE101.out | refine bs ?_ GE102.out) | exact HB.out)) hb); clear HO0_1; clear BK101; clear BK102; clear HK; clear HB; have HO0_1 := n0_; have BK101 := n1_; have BK102 := n2_; have HK := n3_; have HB := n4_; clear n0_ n1_ n2_ n3_ n4_; (try clear hb); (try clear hb2); (try clear hk); (try clear hi); have hcz18_0 : w17.cell? ⟨gb102, 0, none⟩ = some (.int .i64 0) := (blk_cell BK102.out 0).trans rfl; have hcz18_1 : w17.cell? ⟨gb102, 1, none⟩ = some (.slice none 0 0) := (blk_cell BK102.out 1).trans rfl; have hfz18_0 := blk_frozen BK102.out 0; have hfz18_1 := blk_frozen BK102.out 1))
  refine bodyPost_ret (results_ct rfl _ _ gb102 24 #[.int .i64 0, .slice none 0 0] (0, 0) _ rfl (by (try refine bp ?_); refine blk_put (cs := #[.int .i64 0, .slice none 0 0]) ?_ 1 _ rfl; (try refine bp ?_); refine blk_put (cs := #[.int .i64 0, .slice none 0 0]) ?_ 0 _ rfl; (first | exact bp BK102.out | exact BK102.out)) Try.underlying24 rfl (by kernel_rfl)) rfl ?_
  exact ⟨_, by first | rfl | (simp <;> rfl) | (simp [*] <;> rfl), by first | exact Kd.R_nil _ _ _ _ _ | exact Kd.N_nil _ _ _ _ _ | exact Kd.V_nil _ _ _ _ _ | exact Kd.Q_nil _ _ _ _ _ | exact Kd.S_nil _ _ _ _ _, by repeat (first | (with_reducible first | exact HB.out | apply ba | apply bd | apply be | refine bs ?_ GE101.out | refine bs ?_ GE102.out) | exact HB.out), by repeat (first | (with_reducible first | exact HK.out | apply Kept.alloc | apply Kept.drewN | apply Kept.drew | refine Kept.setCell ?_ (.inr GW101.out) _ | refine Kept.setCell ?_ (.inr GW102.out) _) | exact HK.out)⟩

end Go.Proofs.Ytmhcejaljnibhaa.Q

namespace Go.Proofs.Ytmhcejaljnibhaa.Q
open Go.RowKit Go.Proofs.YtmhcejaljnibhaaW.PrintWords Go.Proofs.YtmhcejaljnibhaaW.PrintLast Go.Proofs.YtmhcejaljnibhaaW.PrintMore Go.Proofs.YtmhcejaljnibhaaM
set_option linter.unusedVariables false
set_option linter.unusedSimpArgs false
/-- What a function that hands back a committee, if it is one, hands back. -/
def ifGood (q : Int) (l : List Int) : Int × List Int × Bool := if goodB q l = true then (q, l, true) else (0, [], false)
theorem impl_ifCommittee.ev (q : Int) (l : List Int) (hl : l.length ≤ 9223372036854775807) : Ev (fun k => impl_ifCommittee.f k q l) (ifGood q l) := by
  simp only [impl_ifCommittee.f]
  rw [ev_bind (impl_IsCommittee.ev q l hl)]
  unfold ifGood
  cases goodB q l with
  | true => rw [ev_pos rfl, ev_now, if_pos rfl]
  | false => rw [ev_neg (by simp), ev_now, if_neg (by simp)]
end Go.Proofs.Ytmhcejaljnibhaa.Q

namespace Go.Proofs.Ytmhcejaljnibhaa.Q
open Go.RowKit Go.Proofs.YtmhcejaljnibhaaW.PrintWords Go.Proofs.YtmhcejaljnibhaaW.PrintLast Go.Proofs.YtmhcejaljnibhaaW.PrintMore Go.Proofs.YtmhcejaljnibhaaM
set_option linter.unusedVariables false
set_option linter.unusedSimpArgs false
theorem spec_voSum.ev_l (l : List Int) (hl : l.length ≤ 9223372036854775807) : ∀ (d i : Nat) (s : Int), i + d = l.length → Ev (fun k => spec_voSum.l0 k s l (l.length : Int) (i : Int)) (wfold (l.drop i) s) := by
  intro d
  induction d with
  | zero =>
    intro i s h
    refine ev_step ?_
    simp only [spec_voSum.l0]
    rw [ev_neg (by omega), ev_now, List.drop_of_length_le (by omega)]
    rfl
  | succ d ih =>
    intro i s h
    refine ev_step ?_
    simp only [spec_voSum.l0]
    have hi : i < l.length := by omega
    rw [ev_pos (by omega), ev_pos (by omega), ev_pos (by omega), w64i (n := l.length) (by omega) (by omega) hl, rd_lt l i hi, wfold_take l i hi]
    exact ih (i + 1) _ (by omega)
theorem spec_voSum.ev (l : List Int) (hl : l.length ≤ 9223372036854775807) : Ev (fun k => spec_voSum.f k l) (wfold l 0) := spec_voSum.ev_l l hl l.length 0 0 (by omega)
end Go.Proofs.Ytmhcejaljnibhaa.Q

namespace Go.Proofs.Ytmhcejaljnibhaa.Q
open Go.RowKit Go.Proofs.YtmhcejaljnibhaaW.PrintWords Go.Proofs.YtmhcejaljnibhaaW.PrintLast Go.Proofs.YtmhcejaljnibhaaW.PrintMore Go.Proofs.YtmhcejaljnibhaaM
set_option linter.unusedVariables false
set_option linter.unusedSimpArgs false
theorem spec_l1In.v (a b c : Int) : spec_l1In.f a b c = some (decide (b ≤ a) && decide (a ≤ c)) := by
  unfold spec_l1In.f
  by_cases h : b ≤ a
  · rw [if_pos h]; simp [h]
  · rw [if_neg h]; simp [h]
theorem spec_l1All.ev_l (l : List Int) (lo hi : Int) (hl : l.length ≤ 9223372036854775807) : ∀ (d i : Nat), i + d = l.length → Ev (fun k => spec_l1All.l0 k lo hi l (l.length : Int) (i : Int)) ((l.drop i).all fun x => decide (lo ≤ x) && decide (x ≤ hi)) := by
  intro d
  induction d with
  | zero =>
    intro i h
    refine ev_step ?_
    simp only [spec_l1All.l0]
    rw [ev_neg (by omega), ev_now, List.drop_of_length_le (by omega)]
    rfl
  | succ d ih =>
    intro i h
    refine ev_step ?_
    simp only [spec_l1All.l0]
    have hi' : i < l.length := by omega
    rw [ev_pos (by omega), ev_pos (by omega), ev_pos (by omega), w64i (n := l.length) (by omega) (by omega) hl, rd_lt l i hi', List.drop_eq_getElem_cons hi', List.all_cons, ev_bind (ev_of (spec_l1In.v _ _ _))]
    cases hb : (decide (lo ≤ l[i]) && decide (l[i] ≤ hi)) with
    | true =>
      rw [ev_pos rfl, Bool.true_and]
      exact ih (i + 1) (by omega)
    | false =>
      rw [ev_neg (by decide), ev_now]
      rfl
theorem spec_l1All.ev (l : List Int) (lo hi : Int) (hl : l.length ≤ 9223372036854775807) : Ev (fun k => spec_l1All.f k l lo hi) (l.all fun x => decide (lo ≤ x) && decide (x ≤ hi)) := spec_l1All.ev_l l lo hi hl l.length 0 (by omega)
theorem spec_voGood.ev (q : Int) (l : List Int) (hl : l.length ≤ 9223372036854775807) : Ev (fun k => spec_voGood.f k q l) (goodB q l) := by
  simp only [spec_voGood.f]
  rw [ev_bind (ev_of (spec_l1In.v _ _ _))]
  unfold goodB
  by_cases h1 : 1 ≤ (l.length : Int) ∧ (l.length : Int) ≤ 9
  · rw [ev_pos (by simp [h1]), ev_bind (spec_l1All.ev l 0 1000 hl)]
    refine ev_step ?_
    simp only [spec_voGood.j0]
    cases hb : (l.all fun x => decide (0 ≤ x) && decide (x ≤ 1000)) with
    | true =>
      rw [ev_neg (by simp), ev_bind (spec_voSum.ev l hl), ev_bind (ev_of (spec_l1In.v _ _ _)), ev_now, wfold_w l (by omega) hb]
      have e1 : 1 ≤ l.length := by omega
      have e2 : l.length ≤ 9 := by omega
      simp [e1, e2]
    | false =>
      rw [ev_pos (by simp), ev_now]
      simp
  · rw [ev_neg (by simpa using h1)]
    refine ev_step ?_
    simp only [spec_voGood.j0]
    rw [ev_pos (by simp), ev_now]
    have : ¬ (1 ≤ l.length ∧ l.length ≤ 9) := by omega
    by_cases e1 : 1 ≤ l.length
    · have e2 : ¬ l.length ≤ 9 := by omega
      simp [e2]
    · simp [e1]
end Go.Proofs.Ytmhcejaljnibhaa.Q
