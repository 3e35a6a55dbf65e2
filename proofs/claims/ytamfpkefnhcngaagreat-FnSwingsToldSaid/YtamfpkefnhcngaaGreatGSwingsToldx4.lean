/- Printed functions, their contracts and plain facts on them: QLawsFnSwingsTold; QImplVotesIsGreatest; QImplGreatestLosing; QSpecGreatestLosing; QSpecCountWinning; QImplVotesAll; QImplDictatorOf; QSpecDictatorOf; QSpecVoLe. Conditions: as each theorem states. -/
import Derived.Test.YtamfpkefnhcngaaGreatGSwingsToldx1
import Derived.Test.YtamfpkefnhcngaaGreatGSwingsToldx2
import Derived.Test.YtamfpkefnhcngaaGreatGSwingsToldx3
set_option maxHeartbeats 40000000
set_option maxRecDepth 100000
namespace Go.Proofs.YtamfpkefnhcngaaGreat.Q
open Go.RowKit Go.Proofs.YtamfpkefnhcngaaGreatX Go.Proofs.YtamfpkefnhcngaaGreatY Go.Proofs.YtamfpkefnhcngaaGreatX Go.Proofs.YtamfpkefnhcngaaGreatW.PrintWords Go.Proofs.YtamfpkefnhcngaaGreatW.PrintLast Go.Proofs.YtamfpkefnhcngaaGreatW.PrintMore
attribute [local go_sem] max2_int min2_int max_two min_two max_three min_three max_four min_four   -- for this text's walks alone
set_option linter.unusedVariables false
set_option linter.unusedSimpArgs false
attribute [local go_sem high] eqA60
theorem laws_FnSwingsTold.calls (k : Nat) (A0 : Option Addr) (c0 : Nat) (l0 : List Int) (A1 : Option Addr) (c1 : Nat) (l1 : List Int) (r : Bool) (w : World) (hr0 : Kd.C (Kd.int .u8) w A0 l0.length l0) (hc0 : l0.length ≤ c0) (hr1 : Kd.C (Kd.int .u8) w A1 l1.length l1) (hc1 : l1.length ≤ c1) (h : laws_FnSwingsTold.f k l0 l1 = some r) :
  Calls Tryz.prog 6 #[.slice A0 l0.length c0, .slice A1 l1.length c1] w fun e w' => e = .returned (.bool r) ∧ Below w.heap.size w w' := by
 have hu26 := Tryz.underlying26
 have hu60 := Tryz.underlying60
 have HR0 := Aside0.mk hr0
 have HC0 := Aside0.mk hc0
 clear hr0 hc0
 have HR1 := Aside0.mk hr1
 have HC1 := Aside0.mk hc1
 clear hr1 hc1
 have HB := Aside0.mk (Below.refl w.heap.size w)
 have H := h
 unfold laws_FnSwingsTold.f at H
 clear h
 replace H := oA H
 obtain ⟨t101, A3, H⟩ := H
 (try dsimp only at H)
 by_cases c4 : t101 = true
 ·subst c4
  replace H := iT H
  as_aux_lemma =>
   obtain rfl := Option.some.inj H
   go_enter Tryz.func6, Tryz.ntmps6
   go_wp2_with (first | ((with_reducible refine gate_callee (f := 10) rfl ?_); refine gL 66 Tryz.func10 #[.slice A0 l0.length c0, .slice A1 l1.length c1] ?_; (with_reducible refine (laws_big.calls _ _ l0 _ _ l1 true _ HR0.out HC0.out HR1.out HC1.out A3.out).mono ?_); rintro e w' ⟨rfl, ⟨nd, rfl⟩⟩; refine ⟨_, rfl, ?_⟩))
   go_ret
   exact ⟨fR, wB⟩
 replace c4 := Bool.eq_false_iff.mpr c4
 subst c4
 replace H := iF H
 replace H := oB H
 obtain ⟨⟨t102, t103⟩, A50, H⟩ := H
 (try dsimp only at H)
 have A5 := Aside0.mk A50
 clear A50
 replace H := oB H
 obtain ⟨⟨t107, t110⟩, A60, H⟩ := H
 (try dsimp only at H)
 have A6 := Aside0.mk A60
 clear A60
 replace H := oB H
 obtain ⟨⟨t111, t114⟩, A70, H⟩ := H
 (try dsimp only at H)
 have A7 := Aside0.mk A70
 clear A70
 replace H := oB H
 obtain ⟨⟨t115, t118⟩, A80, H⟩ := H
 (try dsimp only at H)
 have A8 := Aside0.mk A80
 clear A80
 replace H := oB H
 obtain ⟨⟨t119, t122⟩, A90, H⟩ := H
 (try dsimp only at H)
 have A9 := Aside0.mk A90
 clear A90
 replace H := oB H
 obtain ⟨⟨t123, t126⟩, A100, H⟩ := H
 (try dsimp only at H)
 have A10 := Aside0.mk A100
 clear A100
 replace H := oB H
 obtain ⟨⟨t127, t130⟩, A110, H⟩ := H
 (try dsimp only at H)
 have A11 := Aside0.mk A110
 clear A110
 replace H := oB H
 obtain ⟨⟨t131, t132, t133⟩, A120, H⟩ := H
 (try dsimp only at H)
 have A12 := Aside0.mk A120
 clear A120
 replace H := oB H
 obtain ⟨⟨t135, t136, t137⟩, A130, H⟩ := H
 (try dsimp only at H)
 have A13 := Aside0.mk A130
 clear A130
 replace H := oB H
 obtain ⟨⟨t139, t142⟩, A140, H⟩ := H
 (try dsimp only at H)
 have A14 := Aside0.mk A140
 clear A140
 replace H := oB H
 obtain ⟨⟨t143, t146⟩, A150, H⟩ := H
 (try dsimp only at H)
 have A15 := Aside0.mk A150
 clear A150
 replace H := oB H
 obtain ⟨⟨t147, t150⟩, A160, H⟩ := H
 (try dsimp only at H)
 have A16 := Aside0.mk A160
 clear A160
 replace H := oB H
 obtain ⟨⟨t151, t154⟩, A170, H⟩ := H
 (try dsimp only at H)
 have A17 := Aside0.mk A170
 clear A170
 replace H := oB H
 obtain ⟨⟨t155, t158⟩, A180, H⟩ := H
 (try dsimp only at H)
 have A18 := Aside0.mk A180
 clear A180
 replace H := oB H
 obtain ⟨⟨t159, t162⟩, A190, H⟩ := H
 (try dsimp only at H)
 have A19 := Aside0.mk A190
 clear A190
 replace H := ite_no H
 obtain ⟨c20, H⟩ := H
 replace c20 := of_nbne c20
 subst t110
 replace H := oA H
 obtain ⟨t163, A21, H⟩ := H
 (try dsimp only at H)
 replace H := ite_yes H
 obtain ⟨c22, H⟩ := H
 subst c22
 replace H := ite_no H
 obtain ⟨c23, H⟩ := H
 replace c23 := of_nbne c23
 subst t118
 replace H := oA H
 obtain ⟨t164, A24, H⟩ := H
 (try dsimp only at H)
 replace H := ite_yes H
 obtain ⟨c25, H⟩ := H
 subst c25
 replace H := ite_no H
 obtain ⟨c26, H⟩ := H
 replace c26 := of_nbne c26
 subst t126
 replace H := oA H
 obtain ⟨t165, A27, H⟩ := H
 (try dsimp only at H)
 replace H := ite_yes H
 obtain ⟨c28, H⟩ := H
 subst c28
 replace H := ite_no H
 obtain ⟨c29, H⟩ := H
 replace c29 := of_nbne c29
 subst t133
 replace H := ite_no H
 obtain ⟨c30, H⟩ := H
 have c30b0 : (!(t131 == t135) || (!(t132 == t136))) = false := by simpa using c30
 clear c30
 replace H := ite_no H
 obtain ⟨c31, H⟩ := H
 replace c31 := of_nbne c31
 subst t142
 replace H := oA H
 obtain ⟨t166, A32, H⟩ := H
 (try dsimp only at H)
 replace H := ite_yes H
 obtain ⟨c33, H⟩ := H
 subst c33
 replace H := ite_no H
 obtain ⟨c34, H⟩ := H
 replace c34 := of_nbne c34
 subst t150
 replace H := oA H
 obtain ⟨t167, A35, H⟩ := H
 (try dsimp only at H)
 replace H := ite_yes H
 obtain ⟨c36, H⟩ := H
 subst c36
 replace H := ite_no H
 obtain ⟨c37, H⟩ := H
 replace c37 := of_nbne c37
 subst t158
 replace H := oA H
 obtain ⟨t168, A38, H⟩ := H
 (try dsimp only at H)
 replace H := ite_yes H
 obtain ⟨c39, H⟩ := H
 subst c39
 replace H := oA H
 obtain ⟨t169, A40, H⟩ := H
 (try dsimp only at H)
 replace H := ite_no H
 obtain ⟨c41, H⟩ := H
 replace c41 := of_nbne c41
 subst t114
 replace H := ite_no H
 obtain ⟨c42, H⟩ := H
 replace c42 := of_nbne c42
 subst t122
 replace H := ite_no H
 obtain ⟨c43, H⟩ := H
 replace c43 := of_nbne c43
 subst t130
 replace H := ite_no H
 obtain ⟨c44, H⟩ := H
 replace c44 := of_nbne c44
 subst t137
 replace H := ite_no H
 obtain ⟨c45, H⟩ := H
 replace c45 := of_nbne c45
 subst t146
 replace H := ite_no H
 obtain ⟨c46, H⟩ := H
 replace c46 := of_nbne c46
 subst t154
 replace H := ite_no H
 obtain ⟨c47, H⟩ := H
 replace c47 := of_nbne c47
 subst t162
 have HC48 := Aside0.mk H
 clear H
 go_enter Tryz.func6, Tryz.ntmps6
 go_upto_region 3 with (first | ((with_reducible refine gate_callee (f := 10) rfl ?_); refine gL 66 Tryz.func10 #[.slice A0 l0.length c0, .slice A1 l1.length c1] ?_; (with_reducible refine (laws_big.calls _ _ l0 _ _ l1 false _ ?side1 ?side2 ?side3 ?side4 A3.out).mono ?_); (case side1 => have hx_ := HR0.out; exact cC); (case side2 => exact HC0.out); (case side3 => have hx_ := HR1.out; exact cC); (case side4 => exact HC1.out); rintro e w' ⟨rfl, ⟨nd, rfl⟩⟩; refine ⟨_, rfl, ?_⟩))
 go_upto_region 4 with (first | ((with_reducible refine gate_callee (f := 81) rfl ?_); refine gL 68 Tryz.func81 #[.slice A0 l0.length c0] ?_; (with_reducible refine (spec_DrawSwingsOf.calls k _ _ l0 t102 t103 _ ?side1 ?side2 A5.out).mono ?_); (case side1 => have hx_ := HR0.out; exact cC); (case side2 => exact HC0.out); rintro e w49 ⟨v104, rfl, ho0, hb⟩; refine ⟨_, rfl, ?_⟩; have HO105 := Aside0.mk (Kd.R_lower ho0 (below_size (by repeat (first | exact HB.out | apply ba | apply bd | apply be)))); replace HB := sQ hb; (try clear hb); (try clear ho0)) | ((with_reducible refine gate_dst (N := 5) rfl ?_); (try (refine gate_guard (by rfl) ?_; dsimp only)); refine xE (N := 5) (cs := #[.int .i64 0, .slice none 0 0]) (t := 26) ?_; intro gb106 hg w50 BK106 hb; have GW106 : Aside0 (w.heap.size ≤ gb106) := gT hg; have GE106 : Aside0 (w.heap.size ≤ gb106) := gT hg; replace HO105 := rP HO105 hb; replace HB := sQ hb; clear hb hg; obtain ⟨hcz51_0, hcz51_1, hfz51_0, hfz51_1⟩ := zZ BK106; obtain ⟨Ao52, co52, eo52⟩ := Kd.R_slice HO105.out; subst eo52))
 go_upto_region 5 with (first | ((with_reducible refine gate_callee (f := 56) rfl ?_); refine gL 71 Tryz.func56 #[.agg #[.int .i64 t102, .slice Ao52 t103.length co52]] ?_; (with_reducible refine (impl_SwingsOf.calls k t102 _ _ t103 t107 t169 _ ?side1 ?side2 A6.out).mono ?_); (case side1 => refine (Kd.R_reads' (e := 3) (base := w.heap.size) (ok := fun k_ => True) (n := t103.length) (c := co52) ?_).2.2; exact (by (with_reducible repeat (first | apply qA | apply qN | apply qD)); exact (Kd.R_mono (Kd.R_far (p := ⟨gb106, 1, none⟩) (Kd.R_far (p := ⟨gb106, 0, none⟩) (Kd.R_types HO105.out BK106.out (by decide)) (fun _ hk => hk.2) (.int .i64 t102)) (fun _ hk => hk.2) (.slice Ao52 t103.length co52)) (fun _ h_ => h_.1)))); (case side2 => exact (Kd.R_reads' HO105.out).2.1); rintro e w53 ⟨v108, rfl, ho0, hb⟩; refine ⟨_, rfl, ?_⟩; have HO109 := Aside0.mk (Kd.R_lower (Kd.R_new' ho0 (Kd.R_lt (by (with_reducible repeat (first | apply qA | apply qN | apply qD)); exact (Kd.R_mono (Kd.R_far (p := ⟨gb106, 1, none⟩) (Kd.R_far (p := ⟨gb106, 0, none⟩) (Kd.R_types HO105.out BK106.out (by decide)) (fun _ hk => hk.2) (.int .i64 t102)) (fun _ hk => hk.2) (.slice Ao52 t103.length co52)) (fun _ h_ => h_.1))))) (below_size (by repeat (first | exact HB.out | apply ba | apply bd | apply be | refine bs ?_ GE106.out)))); replace HO105 := Aside0.mk (Kd.R_elder' (by (with_reducible repeat (first | apply qA | apply qN | apply qD)); exact (Kd.R_mono (Kd.R_far (p := ⟨gb106, 1, none⟩) (Kd.R_far (p := ⟨gb106, 0, none⟩) (Kd.R_types HO105.out BK106.out (by decide)) (fun _ hk => hk.2) (.int .i64 t102)) (fun _ hk => hk.2) (.slice Ao52 t103.length co52)) (fun _ h_ => h_.1))) (Kd.R_base ho0) hb); replace BK106 := Aside0.mk (blk_below (g := gb106) (o := .cells #[.int .i64 t102, .slice Ao52 t103.length co52] 26 (0, 0)) (by (with_reducible repeat (first | refine kN ?_ _ | refine kD ?_ | refine kA ?_ _)); refine blk_put (cs := #[.int .i64 t102, .slice none 0 0]) ?_ 1 _ rfl; (with_reducible repeat (first | refine kN ?_ _ | refine kD ?_ | refine kA ?_ _)); refine blk_put (cs := #[.int .i64 0, .slice none 0 0]) ?_ 0 _ rfl; (with_reducible repeat (first | refine kN ?_ _ | refine kD ?_ | refine kA ?_ _)); exact BK106.out) hb); replace HB := sQ hb; (try clear hb); (try clear ho0); (try clear hcz51_0 hcz51_1 hfz51_0 hfz51_1); obtain ⟨hcz54_0, hcz54_1, hfz54_0, hfz54_1⟩ := zZ BK106))
 go_upto_region 6 with (first | ((with_reducible refine gate_callee (f := 57) rfl ?_); refine gL 76 Tryz.func57 #[.agg #[.int .i64 t102, .slice Ao52 t103.length co52]] ?_; (with_reducible refine (spec_SwingsOf.calls k t102 _ _ t103 t111 t169 _ ?side1 ?side2 A7.out).mono ?_); (case side1 => have hx_ := (Kd.R_reads' HO105.out).2.2; exact cC); (case side2 => exact (Kd.R_reads' HO105.out).2.1); rintro e w55 ⟨v112, rfl, ho0, hb⟩; refine ⟨_, rfl, ?_⟩; have HO113 := Aside0.mk (Kd.R_lower (Kd.R_new' (Kd.R_new' ho0 (Kd.R_lt (rQ HO105))) (Kd.R_lt (rQ HO109))) (below_size (by repeat (first | exact HB.out | apply ba | apply bd | apply be | refine bs ?_ GE106.out)))); replace HO105 := rE HO105 (Kd.R_base ho0) hb; replace HO109 := rE HO109 (Kd.R_base ho0) hb; replace BK106 := bP BK106 hb; replace HB := sQ hb; (try clear hb); (try clear ho0); (try clear hcz54_0 hcz54_1 hfz54_0 hfz54_1); obtain ⟨hcz56_0, hcz56_1, hfz56_0, hfz56_1⟩ := zZ BK106))
 go_upto_region 7 with (first | ((with_reducible refine gate_callee (f := 58) rfl ?_); refine gL 81 Tryz.func58 #[.agg #[.int .i64 t102, .slice Ao52 t103.length co52]] ?_; (with_reducible refine (impl_SwingPowers.calls k t102 _ _ t103 t115 t169 _ ?side1 ?side2 A8.out).mono ?_); (case side1 => have hx_ := (Kd.R_reads' HO105.out).2.2; exact cC); (case side2 => exact (Kd.R_reads' HO105.out).2.1); rintro e w57 ⟨v116, rfl, ho0, hb⟩; refine ⟨_, rfl, ?_⟩; have HO117 := Aside0.mk (Kd.R_lower ho0 (below_size (by repeat (first | exact HB.out | apply ba | apply bd | apply be | refine bs ?_ GE106.out)))); replace HO105 := rP HO105 hb; replace HO109 := rP HO109 hb; replace HO113 := rP HO113 hb; replace BK106 := bP BK106 hb; replace HB := sQ hb; (try clear hb); (try clear ho0); (try clear hcz56_0 hcz56_1 hfz56_0 hfz56_1); obtain ⟨hcz58_0, hcz58_1, hfz58_0, hfz58_1⟩ := zZ BK106))
 go_upto_region 8 with (first | ((with_reducible refine gate_callee (f := 59) rfl ?_); refine gL 86 Tryz.func59 #[.agg #[.int .i64 t102, .slice Ao52 t103.length co52]] ?_; (with_reducible refine (spec_SwingPowers.calls k t102 _ _ t103 t119 t169 _ ?side1 ?side2 A9.out).mono ?_); (case side1 => have hx_ := (Kd.R_reads' HO105.out).2.2; exact cC); (case side2 => exact (Kd.R_reads' HO105.out).2.1); rintro e w59 ⟨v120, rfl, ho0, hb⟩; refine ⟨_, rfl, ?_⟩; have HO121 := Aside0.mk (Kd.R_lower (Kd.R_new' ho0 (Kd.R_lt (rQ HO117))) (below_size (by repeat (first | exact HB.out | apply ba | apply bd | apply be | refine bs ?_ GE106.out)))); replace HO105 := rP HO105 hb; replace HO109 := rP HO109 hb; replace HO113 := rP HO113 hb; replace HO117 := rE HO117 (Kd.R_base ho0) hb; replace BK106 := bP BK106 hb; replace HB := sQ hb; (try clear hb); (try clear ho0); (try clear hcz58_0 hcz58_1 hfz58_0 hfz58_1); obtain ⟨hcz60_0, hcz60_1, hfz60_0, hfz60_1⟩ := zZ BK106))
 go_upto_region 9 with (first | ((with_reducible refine gate_callee (f := 60) rfl ?_); refine gL 91 Tryz.func60 #[.agg #[.int .i64 t102, .slice Ao52 t103.length co52]] ?_; (with_reducible refine (impl_SwingShares.calls k t102 _ _ t103 t123 t169 _ ?side1 ?side2 A10.out).mono ?_); (case side1 => have hx_ := (Kd.R_reads' HO105.out).2.2; exact cC); (case side2 => exact (Kd.R_reads' HO105.out).2.1); rintro e w61 ⟨v124, rfl, ho0, hb⟩; refine ⟨_, rfl, ?_⟩; have HO125 := Aside0.mk (Kd.R_lower (Kd.R_new' (Kd.R_new' ho0 (Kd.R_lt (rQ HO117))) (Kd.R_lt (rQ HO121))) (below_size (by repeat (first | exact HB.out | apply ba | apply bd | apply be | refine bs ?_ GE106.out)))); replace HO105 := rP HO105 hb; replace HO109 := rP HO109 hb; replace HO113 := rP HO113 hb; replace HO117 := rE HO117 (Kd.R_base ho0) hb; replace HO121 := rE HO121 (Kd.R_base ho0) hb; replace BK106 := bP BK106 hb; replace HB := sQ hb; (try clear hb); (try clear ho0); (try clear hcz60_0 hcz60_1 hfz60_0 hfz60_1); obtain ⟨hcz62_0, hcz62_1, hfz62_0, hfz62_1⟩ := zZ BK106))
 go_upto_region 10 with (first | ((with_reducible refine gate_callee (f := 61) rfl ?_); refine gL 96 Tryz.func61 #[.agg #[.int .i64 t102, .slice Ao52 t103.length co52]] ?_; (with_reducible refine (spec_SwingShares.calls k t102 _ _ t103 t127 t169 _ ?side1 ?side2 A11.out).mono ?_); (case side1 => have hx_ := (Kd.R_reads' HO105.out).2.2; exact cC); (case side2 => exact (Kd.R_reads' HO105.out).2.1); rintro e w63 ⟨v128, rfl, ho0, hb⟩; refine ⟨_, rfl, ?_⟩; have HO129 := Aside0.mk (Kd.R_lower (Kd.R_new' (Kd.R_new' (Kd.R_new' ho0 (Kd.R_lt (rQ HO117))) (Kd.R_lt (rQ HO121))) (Kd.R_lt (rQ HO125))) (below_size (by repeat (first | exact HB.out | apply ba | apply bd | apply be | refine bs ?_ GE106.out)))); replace HO105 := rP HO105 hb; replace HO109 := rP HO109 hb; replace HO113 := rP HO113 hb; replace HO117 := rE HO117 (Kd.R_base ho0) hb; replace HO121 := rE HO121 (Kd.R_base ho0) hb; replace HO125 := rE HO125 (Kd.R_base ho0) hb; replace BK106 := bP BK106 hb; replace HB := sQ hb; (try clear hb); (try clear ho0); (try clear hcz62_0 hcz62_1 hfz62_0 hfz62_1); obtain ⟨hcz64_0, hcz64_1, hfz64_0, hfz64_1⟩ := zZ BK106))
 go_upto_region 11 with (first | ((with_reducible refine gate_callee (f := 62) rfl ?_); refine gL 101 Tryz.func62 #[.agg #[.int .i64 t102, .slice Ao52 t103.length co52]] ?_; (with_reducible refine (impl_DecidePower.calls k t102 _ _ t103 t131 t132 t169 _ ?side1 ?side2 A12.out).mono ?_); (case side1 => have hx_ := (Kd.R_reads' HO105.out).2.2; exact cC); (case side2 => exact (Kd.R_reads' HO105.out).2.1); rintro e w65 ⟨rfl, hb⟩; refine ⟨_, rfl, ?_⟩; replace HO105 := rP HO105 hb; replace HO109 := rP HO109 hb; replace HO113 := rP HO113 hb; replace HO117 := rP HO117 hb; replace HO121 := rP HO121 hb; replace HO125 := rP HO125 hb; replace HO129 := rP HO129 hb; replace BK106 := bP BK106 hb; replace HB := sQ hb; (try clear hb)) | ((with_reducible refine gate_dst (N := 18) rfl ?_); (try (refine gate_guard (by rfl) ?_; dsimp only)); refine xE (N := 18) (cs := #[.int .i64 0, .int .i64 0]) (t := 60) ?_; intro gb134 hg w66 BK134 hb; have GW134 := Aside0.mk ((by rw [hg]; exact (below_size (by repeat (first | exact HB.out | apply ba | apply bd | apply be | refine bs ?_ GE106.out))) : w.heap.size ≤ gb134)); have GE134 := Aside0.mk ((by rw [hg]; exact (below_size (by repeat (first | exact HB.out | apply ba | apply bd | apply be | refine bs ?_ GE106.out))) : w.heap.size ≤ gb134)); have NB106_134 := Aside0.mk ((by rw [hg]; exact Nat.ne_of_lt (blk_lt (g := gb106) (o := .cells #[.int .i64 t102, .slice Ao52 t103.length co52] 26 (0, 0)) (bQ BK106)) : gb106 ≠ gb134)); have NB134_106 := Aside0.mk ((by rw [hg]; exact Nat.ne_of_gt (blk_lt (g := gb106) (o := .cells #[.int .i64 t102, .slice Ao52 t103.length co52] 26 (0, 0)) (bQ BK106)) : gb134 ≠ gb106)); replace HO105 := rP HO105 hb; replace HO109 := rP HO109 hb; replace HO113 := rP HO113 hb; replace HO117 := Aside0.mk (Kd.R_below (Kd.R_elderB (rQ HO117) gb134 (Nat.le_of_eq hg.symm)) hb); replace HO121 := Aside0.mk (Kd.R_below (Kd.R_elderB (rQ HO121) gb134 (Nat.le_of_eq hg.symm)) hb); replace HO125 := Aside0.mk (Kd.R_below (Kd.R_elderB (rQ HO125) gb134 (Nat.le_of_eq hg.symm)) hb); replace HO129 := Aside0.mk (Kd.R_below (Kd.R_elderB (rQ HO129) gb134 (Nat.le_of_eq hg.symm)) hb); replace BK106 := bP BK106 hb; replace HB := sQ hb; clear hb hg; have hnb67 := NB134_106.out; have hnc67 := NB106_134.out; (try clear hcz64_0 hcz64_1 hfz64_0 hfz64_1); obtain ⟨hcz68_0, hcz68_1, hfz68_0, hfz68_1⟩ := zZ BK134; obtain ⟨hcz69_0, hcz69_1, hfz69_0, hfz69_1⟩ := zZ BK106))
 go_upto_region 12 with (first | ((with_reducible refine gate_callee (f := 63) rfl ?_); refine gL 106 Tryz.func63 #[.agg #[.int .i64 t102, .slice Ao52 t103.length co52]] ?_; (with_reducible refine (spec_DecidePower.calls k t102 _ _ t103 t135 t136 t169 _ ?side1 ?side2 A13.out).mono ?_); (case side1 => refine (Kd.R_reads' (e := 3) (base := w.heap.size) (ok := fun k_ => ((True ∧ nb v108 k_) ∧ nb v112 k_)) (n := t103.length) (c := co52) ?_).2.2; exact (by (with_reducible repeat (first | apply qA | apply qN | apply qD)); exact (Kd.R_mono (Kd.R_far (p := ⟨gb134, 1, none⟩) (Kd.R_far (p := ⟨gb134, 0, none⟩) (Kd.R_types HO105.out BK134.out (by decide)) (fun _ hk => hk.2) (.int .i64 t131)) (fun _ hk => hk.2) (.int .i64 t132)) (fun _ h_ => h_.1)))); (case side2 => exact (Kd.R_reads' HO105.out).2.1); rintro e w70 ⟨rfl, hb⟩; refine ⟨_, rfl, ?_⟩; replace HO105 := Aside0.mk (Kd.R_below (by (with_reducible repeat (first | apply qA | apply qN | apply qD)); exact (Kd.R_mono (Kd.R_far (p := ⟨gb134, 1, none⟩) (Kd.R_far (p := ⟨gb134, 0, none⟩) (Kd.R_types HO105.out BK134.out (by decide)) (fun _ hk => hk.2) (.int .i64 t131)) (fun _ hk => hk.2) (.int .i64 t132)) (fun _ h_ => h_.1))) hb); replace HO109 := Aside0.mk (Kd.R_below (by (with_reducible repeat (first | apply qA | apply qN | apply qD)); exact (Kd.R_mono (Kd.R_far (p := ⟨gb134, 1, none⟩) (Kd.R_far (p := ⟨gb134, 0, none⟩) (Kd.R_types HO109.out BK134.out (by decide)) (fun _ hk => hk.2) (.int .i64 t131)) (fun _ hk => hk.2) (.int .i64 t132)) (fun _ h_ => h_.1))) hb); replace HO113 := Aside0.mk (Kd.R_below (by (with_reducible repeat (first | apply qA | apply qN | apply qD)); exact (Kd.R_mono (Kd.R_far (p := ⟨gb134, 1, none⟩) (Kd.R_far (p := ⟨gb134, 0, none⟩) (Kd.R_types HO113.out BK134.out (by decide)) (fun _ hk => hk.2) (.int .i64 t131)) (fun _ hk => hk.2) (.int .i64 t132)) (fun _ h_ => h_.1))) hb); replace HO117 := Aside0.mk (Kd.R_below (by (with_reducible repeat (first | apply qA | apply qN | apply qD)); exact (Kd.R_mono (Kd.R_far (p := ⟨gb134, 1, none⟩) (Kd.R_far (p := ⟨gb134, 0, none⟩) (Kd.R_mono HO117.out (fun k_ hk => (⟨hk, hk.2⟩ : _ ∧ k_ ≠ gb134))) (fun _ hk => hk.2) (.int .i64 t131)) (fun _ hk => hk.2) (.int .i64 t132)) (fun _ h_ => h_.1))) hb); replace HO121 := Aside0.mk (Kd.R_below (by (with_reducible repeat (first | apply qA | apply qN | apply qD)); exact (Kd.R_mono (Kd.R_far (p := ⟨gb134, 1, none⟩) (Kd.R_far (p := ⟨gb134, 0, none⟩) (Kd.R_mono HO121.out (fun k_ hk => (⟨hk, hk.2⟩ : _ ∧ k_ ≠ gb134))) (fun _ hk => hk.2) (.int .i64 t131)) (fun _ hk => hk.2) (.int .i64 t132)) (fun _ h_ => h_.1))) hb); replace HO125 := Aside0.mk (Kd.R_below (by (with_reducible repeat (first | apply qA | apply qN | apply qD)); exact (Kd.R_mono (Kd.R_far (p := ⟨gb134, 1, none⟩) (Kd.R_far (p := ⟨gb134, 0, none⟩) (Kd.R_mono HO125.out (fun k_ hk => (⟨hk, hk.2⟩ : _ ∧ k_ ≠ gb134))) (fun _ hk => hk.2) (.int .i64 t131)) (fun _ hk => hk.2) (.int .i64 t132)) (fun _ h_ => h_.1))) hb); replace HO129 := Aside0.mk (Kd.R_below (by (with_reducible repeat (first | apply qA | apply qN | apply qD)); exact (Kd.R_mono (Kd.R_far (p := ⟨gb134, 1, none⟩) (Kd.R_far (p := ⟨gb134, 0, none⟩) (Kd.R_mono HO129.out (fun k_ hk => (⟨hk, hk.2⟩ : _ ∧ k_ ≠ gb134))) (fun _ hk => hk.2) (.int .i64 t131)) (fun _ hk => hk.2) (.int .i64 t132)) (fun _ h_ => h_.1))) hb); replace BK106 := Aside0.mk (blk_below (g := gb106) (o := .cells #[.int .i64 t102, .slice Ao52 t103.length co52] 26 (0, 0)) (by (with_reducible repeat (first | refine kN ?_ _ | refine kD ?_ | refine kA ?_ _)); refine blk_far ?_ NB106_134.out _; (with_reducible repeat (first | refine kN ?_ _ | refine kD ?_ | refine kA ?_ _)); refine blk_far ?_ NB106_134.out _; (with_reducible repeat (first | refine kN ?_ _ | refine kD ?_ | refine kA ?_ _)); exact BK106.out) hb); replace BK134 := Aside0.mk (blk_below (g := gb134) (o := .cells #[.int .i64 t131, .int .i64 t132] 60 (0, 0)) (by (with_reducible repeat (first | refine kN ?_ _ | refine kD ?_ | refine kA ?_ _)); refine blk_put (cs := #[.int .i64 t131, .int .i64 0]) ?_ 1 _ rfl; (with_reducible repeat (first | refine kN ?_ _ | refine kD ?_ | refine kA ?_ _)); refine blk_put (cs := #[.int .i64 0, .int .i64 0]) ?_ 0 _ rfl; (with_reducible repeat (first | refine kN ?_ _ | refine kD ?_ | refine kA ?_ _)); exact BK134.out) hb); replace HB := sQ hb; (try clear hb)) | ((with_reducible refine gate_dst (N := 20) rfl ?_); (try (refine gate_guard (by rfl) ?_; dsimp only)); refine xE (N := 20) (cs := #[.int .i64 0, .int .i64 0]) (t := 60) ?_; intro gb138 hg w71 BK138 hb; have GW138 := Aside0.mk ((by rw [hg]; exact (below_size (by repeat (first | exact HB.out | apply ba | apply bd | apply be | refine bs ?_ GE106.out | refine bs ?_ GE134.out))) : w.heap.size ≤ gb138)); have GE138 := Aside0.mk ((by rw [hg]; exact (below_size (by repeat (first | exact HB.out | apply ba | apply bd | apply be | refine bs ?_ GE106.out | refine bs ?_ GE134.out))) : w.heap.size ≤ gb138)); have NB106_138 := Aside0.mk ((by rw [hg]; exact Nat.ne_of_lt (blk_lt (g := gb106) (o := .cells #[.int .i64 t102, .slice Ao52 t103.length co52] 26 (0, 0)) (bQ BK106)) : gb106 ≠ gb138)); have NB138_106 := Aside0.mk ((by rw [hg]; exact Nat.ne_of_gt (blk_lt (g := gb106) (o := .cells #[.int .i64 t102, .slice Ao52 t103.length co52] 26 (0, 0)) (bQ BK106)) : gb138 ≠ gb106)); have NB134_138 := Aside0.mk ((by rw [hg]; exact Nat.ne_of_lt (blk_lt (g := gb134) (o := .cells #[.int .i64 t131, .int .i64 t132] 60 (0, 0)) (bQ BK134)) : gb134 ≠ gb138)); have NB138_134 := Aside0.mk ((by rw [hg]; exact Nat.ne_of_gt (blk_lt (g := gb134) (o := .cells #[.int .i64 t131, .int .i64 t132] 60 (0, 0)) (bQ BK134)) : gb138 ≠ gb134)); replace HO105 := rP HO105 hb; replace HO109 := rP HO109 hb; replace HO113 := rP HO113 hb; replace HO117 := Aside0.mk (Kd.R_below (Kd.R_elderB (rQ HO117) gb138 (Nat.le_of_eq hg.symm)) hb); replace HO121 := Aside0.mk (Kd.R_below (Kd.R_elderB (rQ HO121) gb138 (Nat.le_of_eq hg.symm)) hb); replace HO125 := Aside0.mk (Kd.R_below (Kd.R_elderB (rQ HO125) gb138 (Nat.le_of_eq hg.symm)) hb); replace HO129 := Aside0.mk (Kd.R_below (Kd.R_elderB (rQ HO129) gb138 (Nat.le_of_eq hg.symm)) hb); replace BK106 := bP BK106 hb; replace BK134 := bP BK134 hb; replace HB := sQ hb; clear hb hg; have hnb72 := NB138_106.out; have hnc72 := NB106_138.out; have hnb73 := NB138_134.out; have hnc73 := NB134_138.out; (try clear hcz68_0 hcz68_1 hfz68_0 hfz68_1 hcz69_0 hcz69_1 hfz69_0 hfz69_1); obtain ⟨hcz74_0, hcz74_1, hfz74_0, hfz74_1⟩ := zZ BK138; obtain ⟨hcz75_0, hcz75_1, hfz75_0, hfz75_1⟩ := zZ BK106))
 go_upto_region 13 with (first | ((with_reducible refine gate_callee (f := 64) rfl ?_); refine gL 111 Tryz.func64 #[.agg #[.int .i64 t102, .slice Ao52 t103.length co52]] ?_; (with_reducible refine (impl_BlockPowers.calls k t102 _ _ t103 t139 t169 _ ?side1 ?side2 A14.out).mono ?_); (case side1 => refine (Kd.R_reads' (e := 3) (base := w.heap.size) (ok := fun k_ => ((True ∧ nb v108 k_) ∧ nb v112 k_)) (n := t103.length) (c := co52) ?_).2.2; exact (by (with_reducible repeat (first | apply qA | apply qN | apply qD)); exact (Kd.R_mono (Kd.R_far (p := ⟨gb138, 1, none⟩) (Kd.R_far (p := ⟨gb138, 0, none⟩) (Kd.R_types HO105.out BK138.out (by decide)) (fun _ hk => hk.2) (.int .i64 t135)) (fun _ hk => hk.2) (.int .i64 t136)) (fun _ h_ => h_.1)))); (case side2 => exact (Kd.R_reads' HO105.out).2.1); rintro e w76 ⟨v140, rfl, ho0, hb⟩; refine ⟨_, rfl, ?_⟩; have HO141 := Aside0.mk (Kd.R_lower (Kd.R_newB (Kd.R_newB (Kd.R_new' (Kd.R_new' (Kd.R_new' (Kd.R_new' ho0 (Kd.R_lt (by (with_reducible repeat (first | apply qA | apply qN | apply qD)); exact (Kd.R_mono (Kd.R_far (p := ⟨gb138, 1, none⟩) (Kd.R_far (p := ⟨gb138, 0, none⟩) (Kd.R_mono HO117.out (fun k_ hk => (⟨hk, hk.2⟩ : _ ∧ k_ ≠ gb138))) (fun _ hk => hk.2) (.int .i64 t135)) (fun _ hk => hk.2) (.int .i64 t136)) (fun _ h_ => h_.1))))) (Kd.R_lt (by (with_reducible repeat (first | apply qA | apply qN | apply qD)); exact (Kd.R_mono (Kd.R_far (p := ⟨gb138, 1, none⟩) (Kd.R_far (p := ⟨gb138, 0, none⟩) (Kd.R_mono HO121.out (fun k_ hk => (⟨hk, hk.2⟩ : _ ∧ k_ ≠ gb138))) (fun _ hk => hk.2) (.int .i64 t135)) (fun _ hk => hk.2) (.int .i64 t136)) (fun _ h_ => h_.1))))) (Kd.R_lt (by (with_reducible repeat (first | apply qA | apply qN | apply qD)); exact (Kd.R_mono (Kd.R_far (p := ⟨gb138, 1, none⟩) (Kd.R_far (p := ⟨gb138, 0, none⟩) (Kd.R_mono HO125.out (fun k_ hk => (⟨hk, hk.2⟩ : _ ∧ k_ ≠ gb138))) (fun _ hk => hk.2) (.int .i64 t135)) (fun _ hk => hk.2) (.int .i64 t136)) (fun _ h_ => h_.1))))) (Kd.R_lt (by (with_reducible repeat (first | apply qA | apply qN | apply qD)); exact (Kd.R_mono (Kd.R_far (p := ⟨gb138, 1, none⟩) (Kd.R_far (p := ⟨gb138, 0, none⟩) (Kd.R_mono HO129.out (fun k_ hk => (⟨hk, hk.2⟩ : _ ∧ k_ ≠ gb138))) (fun _ hk => hk.2) (.int .i64 t135)) (fun _ hk => hk.2) (.int .i64 t136)) (fun _ h_ => h_.1))))) (g := gb134) (o := .cells #[.int .i64 t131, .int .i64 t132] 60 (0, 0)) (by (with_reducible repeat (first | refine kN ?_ _ | refine kD ?_ | refine kA ?_ _)); refine blk_far ?_ NB134_138.out _; (with_reducible repeat (first | refine kN ?_ _ | refine kD ?_ | refine kA ?_ _)); refine blk_far ?_ NB134_138.out _; (with_reducible repeat (first | refine kN ?_ _ | refine kD ?_ | refine kA ?_ _)); exact BK134.out)) (g := gb138) (o := .cells #[.int .i64 t135, .int .i64 t136] 60 (0, 0)) (by (with_reducible repeat (first | refine kN ?_ _ | refine kD ?_ | refine kA ?_ _)); refine blk_put (cs := #[.int .i64 t135, .int .i64 0]) ?_ 1 _ rfl; (with_reducible repeat (first | refine kN ?_ _ | refine kD ?_ | refine kA ?_ _)); refine blk_put (cs := #[.int .i64 0, .int .i64 0]) ?_ 0 _ rfl; (with_reducible repeat (first | refine kN ?_ _ | refine kD ?_ | refine kA ?_ _)); exact BK138.out)) (below_size (by repeat (first | exact HB.out | apply ba | apply bd | apply be | refine bs ?_ GE138.out)))); replace HO105 := Aside0.mk (Kd.R_below (by (with_reducible repeat (first | apply qA | apply qN | apply qD)); exact (Kd.R_mono (Kd.R_far (p := ⟨gb138, 1, none⟩) (Kd.R_far (p := ⟨gb138, 0, none⟩) (Kd.R_types HO105.out BK138.out (by decide)) (fun _ hk => hk.2) (.int .i64 t135)) (fun _ hk => hk.2) (.int .i64 t136)) (fun _ h_ => h_.1))) hb); replace HO109 := Aside0.mk (Kd.R_below (by (with_reducible repeat (first | apply qA | apply qN | apply qD)); exact (Kd.R_mono (Kd.R_far (p := ⟨gb138, 1, none⟩) (Kd.R_far (p := ⟨gb138, 0, none⟩) (Kd.R_types HO109.out BK138.out (by decide)) (fun _ hk => hk.2) (.int .i64 t135)) (fun _ hk => hk.2) (.int .i64 t136)) (fun _ h_ => h_.1))) hb); replace HO113 := Aside0.mk (Kd.R_below (by (with_reducible repeat (first | apply qA | apply qN | apply qD)); exact (Kd.R_mono (Kd.R_far (p := ⟨gb138, 1, none⟩) (Kd.R_far (p := ⟨gb138, 0, none⟩) (Kd.R_types HO113.out BK138.out (by decide)) (fun _ hk => hk.2) (.int .i64 t135)) (fun _ hk => hk.2) (.int .i64 t136)) (fun _ h_ => h_.1))) hb); replace HO117 := Aside0.mk (Kd.R_elder' (by (with_reducible repeat (first | apply qA | apply qN | apply qD)); exact (Kd.R_mono (Kd.R_far (p := ⟨gb138, 1, none⟩) (Kd.R_far (p := ⟨gb138, 0, none⟩) (Kd.R_mono HO117.out (fun k_ hk => (⟨hk, hk.2⟩ : _ ∧ k_ ≠ gb138))) (fun _ hk => hk.2) (.int .i64 t135)) (fun _ hk => hk.2) (.int .i64 t136)) (fun _ h_ => h_.1))) (Kd.R_base ho0) hb); replace HO121 := Aside0.mk (Kd.R_elder' (by (with_reducible repeat (first | apply qA | apply qN | apply qD)); exact (Kd.R_mono (Kd.R_far (p := ⟨gb138, 1, none⟩) (Kd.R_far (p := ⟨gb138, 0, none⟩) (Kd.R_mono HO121.out (fun k_ hk => (⟨hk, hk.2⟩ : _ ∧ k_ ≠ gb138))) (fun _ hk => hk.2) (.int .i64 t135)) (fun _ hk => hk.2) (.int .i64 t136)) (fun _ h_ => h_.1))) (Kd.R_base ho0) hb); replace HO125 := Aside0.mk (Kd.R_elder' (by (with_reducible repeat (first | apply qA | apply qN | apply qD)); exact (Kd.R_mono (Kd.R_far (p := ⟨gb138, 1, none⟩) (Kd.R_far (p := ⟨gb138, 0, none⟩) (Kd.R_mono HO125.out (fun k_ hk => (⟨hk, hk.2⟩ : _ ∧ k_ ≠ gb138))) (fun _ hk => hk.2) (.int .i64 t135)) (fun _ hk => hk.2) (.int .i64 t136)) (fun _ h_ => h_.1))) (Kd.R_base ho0) hb); replace HO129 := Aside0.mk (Kd.R_elder' (by (with_reducible repeat (first | apply qA | apply qN | apply qD)); exact (Kd.R_mono (Kd.R_far (p := ⟨gb138, 1, none⟩) (Kd.R_far (p := ⟨gb138, 0, none⟩) (Kd.R_mono HO129.out (fun k_ hk => (⟨hk, hk.2⟩ : _ ∧ k_ ≠ gb138))) (fun _ hk => hk.2) (.int .i64 t135)) (fun _ hk => hk.2) (.int .i64 t136)) (fun _ h_ => h_.1))) (Kd.R_base ho0) hb); replace BK106 := Aside0.mk (blk_below (g := gb106) (o := .cells #[.int .i64 t102, .slice Ao52 t103.length co52] 26 (0, 0)) (by (with_reducible repeat (first | refine kN ?_ _ | refine kD ?_ | refine kA ?_ _)); refine blk_far ?_ NB106_138.out _; (with_reducible repeat (first | refine kN ?_ _ | refine kD ?_ | refine kA ?_ _)); refine blk_far ?_ NB106_138.out _; (with_reducible repeat (first | refine kN ?_ _ | refine kD ?_ | refine kA ?_ _)); exact BK106.out) hb); replace BK134 := Aside0.mk (blk_below (g := gb134) (o := .cells #[.int .i64 t131, .int .i64 t132] 60 (0, 0)) (by (with_reducible repeat (first | refine kN ?_ _ | refine kD ?_ | refine kA ?_ _)); refine blk_far ?_ NB134_138.out _; (with_reducible repeat (first | refine kN ?_ _ | refine kD ?_ | refine kA ?_ _)); refine blk_far ?_ NB134_138.out _; (with_reducible repeat (first | refine kN ?_ _ | refine kD ?_ | refine kA ?_ _)); exact BK134.out) hb); replace BK138 := Aside0.mk (blk_below (g := gb138) (o := .cells #[.int .i64 t135, .int .i64 t136] 60 (0, 0)) (by (with_reducible repeat (first | refine kN ?_ _ | refine kD ?_ | refine kA ?_ _)); refine blk_put (cs := #[.int .i64 t135, .int .i64 0]) ?_ 1 _ rfl; (with_reducible repeat (first | refine kN ?_ _ | refine kD ?_ | refine kA ?_ _)); refine blk_put (cs := #[.int .i64 0, .int .i64 0]) ?_ 0 _ rfl; (with_reducible repeat (first | refine kN ?_ _ | refine kD ?_ | refine kA ?_ _)); exact BK138.out) hb); replace HB := sQ hb; (try clear hb); (try clear ho0); (try clear hcz74_0 hcz74_1 hfz74_0 hfz74_1 hcz75_0 hcz75_1 hfz75_0 hfz75_1); obtain ⟨hcz77_0, hcz77_1, hfz77_0, hfz77_1⟩ := zZ BK106))
 go_upto_region 14 with (first | ((with_reducible refine gate_callee (f := 65) rfl ?_); refine gL 116 Tryz.func65 #[.agg #[.int .i64 t102, .slice Ao52 t103.length co52]] ?_; (with_reducible refine (spec_BlockPowers.calls k t102 _ _ t103 t143 t169 _ ?side1 ?side2 A15.out).mono ?_); (case side1 => have hx_ := (Kd.R_reads' HO105.out).2.2; exact cC); (case side2 => exact (Kd.R_reads' HO105.out).2.1); rintro e w78 ⟨v144, rfl, ho0, hb⟩; refine ⟨_, rfl, ?_⟩; have HO145 := Aside0.mk (Kd.R_lower (Kd.R_newB (Kd.R_newB (Kd.R_new' (Kd.R_new' (Kd.R_new' (Kd.R_new' (Kd.R_new' ho0 (Kd.R_lt (rQ HO117))) (Kd.R_lt (rQ HO121))) (Kd.R_lt (rQ HO125))) (Kd.R_lt (rQ HO129))) (Kd.R_lt (rQ HO141))) (g := gb134) (o := .cells #[.int .i64 t131, .int .i64 t132] 60 (0, 0)) (bQ BK134)) (g := gb138) (o := .cells #[.int .i64 t135, .int .i64 t136] 60 (0, 0)) (bQ BK138)) (below_size (by repeat (first | exact HB.out | apply ba | apply bd | apply be | refine bs ?_ GE106.out | refine bs ?_ GE134.out | refine bs ?_ GE138.out)))); replace HO105 := rP HO105 hb; replace HO109 := rP HO109 hb; replace HO113 := rP HO113 hb; replace HO117 := rE HO117 (Kd.R_base ho0) hb; replace HO121 := rE HO121 (Kd.R_base ho0) hb; replace HO125 := rE HO125 (Kd.R_base ho0) hb; replace HO129 := rE HO129 (Kd.R_base ho0) hb; replace HO141 := rE HO141 (Kd.R_base ho0) hb; replace BK106 := bP BK106 hb; replace BK134 := bP BK134 hb; replace BK138 := bP BK138 hb; replace HB := sQ hb; (try clear hb); (try clear ho0); (try clear hcz77_0 hcz77_1 hfz77_0 hfz77_1); obtain ⟨hcz79_0, hcz79_1, hfz79_0, hfz79_1⟩ := zZ BK106))
 go_upto_region 15 with (first | ((with_reducible refine gate_callee (f := 66) rfl ?_); refine gL 121 Tryz.func66 #[.agg #[.int .i64 t102, .slice Ao52 t103.length co52]] ?_; (with_reducible refine (impl_StartPowers.calls k t102 _ _ t103 t147 t169 _ ?side1 ?side2 A16.out).mono ?_); (case side1 => have hx_ := (Kd.R_reads' HO105.out).2.2; exact cC); (case side2 => exact (Kd.R_reads' HO105.out).2.1); rintro e w80 ⟨v148, rfl, ho0, hb⟩; refine ⟨_, rfl, ?_⟩; have HO149 := Aside0.mk (Kd.R_lower (Kd.R_newB (Kd.R_newB (Kd.R_new' (Kd.R_new' (Kd.R_new' (Kd.R_new' (Kd.R_new' (Kd.R_new' ho0 (Kd.R_lt (rQ HO117))) (Kd.R_lt (rQ HO121))) (Kd.R_lt (rQ HO125))) (Kd.R_lt (rQ HO129))) (Kd.R_lt (rQ HO141))) (Kd.R_lt (rQ HO145))) (g := gb134) (o := .cells #[.int .i64 t131, .int .i64 t132] 60 (0, 0)) (bQ BK134)) (g := gb138) (o := .cells #[.int .i64 t135, .int .i64 t136] 60 (0, 0)) (bQ BK138)) (below_size (by repeat (first | exact HB.out | apply ba | apply bd | apply be | refine bs ?_ GE106.out | refine bs ?_ GE134.out | refine bs ?_ GE138.out)))); replace HO105 := rP HO105 hb; replace HO109 := rP HO109 hb; replace HO113 := rP HO113 hb; replace HO117 := rE HO117 (Kd.R_base ho0) hb; replace HO121 := rE HO121 (Kd.R_base ho0) hb; replace HO125 := rE HO125 (Kd.R_base ho0) hb; replace HO129 := rE HO129 (Kd.R_base ho0) hb; replace HO141 := rE HO141 (Kd.R_base ho0) hb; replace HO145 := rE HO145 (Kd.R_base ho0) hb; replace BK106 := bP BK106 hb; replace BK134 := bP BK134 hb; replace BK138 := bP BK138 hb; replace HB := sQ hb; (try clear hb); (try clear ho0); (try clear hcz79_0 hcz79_1 hfz79_0 hfz79_1); obtain ⟨hcz81_0, hcz81_1, hfz81_0, hfz81_1⟩ := zZ BK106))
 go_upto_region 16 with (first | ((with_reducible refine gate_callee (f := 67) rfl ?_); refine gL 126 Tryz.func67 #[.agg #[.int .i64 t102, .slice Ao52 t103.length co52]] ?_; (with_reducible refine (spec_StartPowers.calls k t102 _ _ t103 t151 t169 _ ?side1 ?side2 A17.out).mono ?_); (case side1 => have hx_ := (Kd.R_reads' HO105.out).2.2; exact cC); (case side2 => exact (Kd.R_reads' HO105.out).2.1); rintro e w82 ⟨v152, rfl, ho0, hb⟩; refine ⟨_, rfl, ?_⟩; have HO153 := Aside0.mk (Kd.R_lower (Kd.R_newB (Kd.R_newB (Kd.R_new' (Kd.R_new' (Kd.R_new' (Kd.R_new' (Kd.R_new' (Kd.R_new' (Kd.R_new' ho0 (Kd.R_lt (rQ HO117))) (Kd.R_lt (rQ HO121))) (Kd.R_lt (rQ HO125))) (Kd.R_lt (rQ HO129))) (Kd.R_lt (rQ HO141))) (Kd.R_lt (rQ HO145))) (Kd.R_lt (rQ HO149))) (g := gb134) (o := .cells #[.int .i64 t131, .int .i64 t132] 60 (0, 0)) (bQ BK134)) (g := gb138) (o := .cells #[.int .i64 t135, .int .i64 t136] 60 (0, 0)) (bQ BK138)) (below_size (by repeat (first | exact HB.out | apply ba | apply bd | apply be | refine bs ?_ GE106.out | refine bs ?_ GE134.out | refine bs ?_ GE138.out)))); replace HO105 := rP HO105 hb; replace HO109 := rP HO109 hb; replace HO113 := rP HO113 hb; replace HO117 := rE HO117 (Kd.R_base ho0) hb; replace HO121 := rE HO121 (Kd.R_base ho0) hb; replace HO125 := rE HO125 (Kd.R_base ho0) hb; replace HO129 := rE HO129 (Kd.R_base ho0) hb; replace HO141 := rE HO141 (Kd.R_base ho0) hb; replace HO145 := rE HO145 (Kd.R_base ho0) hb; replace HO149 := rE HO149 (Kd.R_base ho0) hb; replace BK106 := bP BK106 hb; replace BK134 := bP BK134 hb; replace BK138 := bP BK138 hb; replace HB := sQ hb; (try clear hb); (try clear ho0); (try clear hcz81_0 hcz81_1 hfz81_0 hfz81_1); obtain ⟨hcz83_0, hcz83_1, hfz83_0, hfz83_1⟩ := zZ BK106))
 go_upto_region 17 with (first | ((with_reducible refine gate_callee (f := 68) rfl ?_); refine gL 131 Tryz.func68 #[.agg #[.int .i64 t102, .slice Ao52 t103.length co52]] ?_; (with_reducible refine (impl_AgreeChances.calls k t102 _ _ t103 t155 t169 _ ?side1 ?side2 A18.out).mono ?_); (case side1 => have hx_ := (Kd.R_reads' HO105.out).2.2; exact cC); (case side2 => exact (Kd.R_reads' HO105.out).2.1); rintro e w84 ⟨v156, rfl, ho0, hb⟩; refine ⟨_, rfl, ?_⟩; have HO157 := Aside0.mk (Kd.R_lower (Kd.R_newB (Kd.R_newB (Kd.R_new' (Kd.R_new' (Kd.R_new' (Kd.R_new' (Kd.R_new' (Kd.R_new' (Kd.R_new' (Kd.R_new' ho0 (Kd.R_lt (rQ HO117))) (Kd.R_lt (rQ HO121))) (Kd.R_lt (rQ HO125))) (Kd.R_lt (rQ HO129))) (Kd.R_lt (rQ HO141))) (Kd.R_lt (rQ HO145))) (Kd.R_lt (rQ HO149))) (Kd.R_lt (rQ HO153))) (g := gb134) (o := .cells #[.int .i64 t131, .int .i64 t132] 60 (0, 0)) (bQ BK134)) (g := gb138) (o := .cells #[.int .i64 t135, .int .i64 t136] 60 (0, 0)) (bQ BK138)) (below_size (by repeat (first | exact HB.out | apply ba | apply bd | apply be | refine bs ?_ GE106.out | refine bs ?_ GE134.out | refine bs ?_ GE138.out)))); replace HO105 := rP HO105 hb; replace HO109 := rP HO109 hb; replace HO113 := rP HO113 hb; replace HO117 := rE HO117 (Kd.R_base ho0) hb; replace HO121 := rE HO121 (Kd.R_base ho0) hb; replace HO125 := rE HO125 (Kd.R_base ho0) hb; replace HO129 := rE HO129 (Kd.R_base ho0) hb; replace HO141 := rE HO141 (Kd.R_base ho0) hb; replace HO145 := rE HO145 (Kd.R_base ho0) hb; replace HO149 := rE HO149 (Kd.R_base ho0) hb; replace HO153 := rE HO153 (Kd.R_base ho0) hb; replace BK106 := bP BK106 hb; replace BK134 := bP BK134 hb; replace BK138 := bP BK138 hb; replace HB := sQ hb; (try clear hb); (try clear ho0); (try clear hcz83_0 hcz83_1 hfz83_0 hfz83_1); obtain ⟨hcz85_0, hcz85_1, hfz85_0, hfz85_1⟩ := zZ BK106))
 go_upto_region 18 with (first | ((with_reducible refine gate_callee (f := 69) rfl ?_); refine gL 136 Tryz.func69 #[.agg #[.int .i64 t102, .slice Ao52 t103.length co52]] ?_; (with_reducible refine (spec_AgreeChances.calls k t102 _ _ t103 t159 t169 _ ?side1 ?side2 A19.out).mono ?_); (case side1 => have hx_ := (Kd.R_reads' HO105.out).2.2; exact cC); (case side2 => exact (Kd.R_reads' HO105.out).2.1); rintro e w86 ⟨v160, rfl, ho0, hb⟩; refine ⟨_, rfl, ?_⟩; have HO161 := Aside0.mk (Kd.R_lower (Kd.R_newB (Kd.R_newB (Kd.R_new' (Kd.R_new' (Kd.R_new' (Kd.R_new' (Kd.R_new' (Kd.R_new' (Kd.R_new' (Kd.R_new' (Kd.R_new' ho0 (Kd.R_lt (rQ HO117))) (Kd.R_lt (rQ HO121))) (Kd.R_lt (rQ HO125))) (Kd.R_lt (rQ HO129))) (Kd.R_lt (rQ HO141))) (Kd.R_lt (rQ HO145))) (Kd.R_lt (rQ HO149))) (Kd.R_lt (rQ HO153))) (Kd.R_lt (rQ HO157))) (g := gb134) (o := .cells #[.int .i64 t131, .int .i64 t132] 60 (0, 0)) (bQ BK134)) (g := gb138) (o := .cells #[.int .i64 t135, .int .i64 t136] 60 (0, 0)) (bQ BK138)) (below_size (by repeat (first | exact HB.out | apply ba | apply bd | apply be | refine bs ?_ GE106.out | refine bs ?_ GE134.out | refine bs ?_ GE138.out)))); replace HO105 := rP HO105 hb; replace HO109 := rP HO109 hb; replace HO113 := rP HO113 hb; replace HO117 := rE HO117 (Kd.R_base ho0) hb; replace HO121 := rE HO121 (Kd.R_base ho0) hb; replace HO125 := rE HO125 (Kd.R_base ho0) hb; replace HO129 := rE HO129 (Kd.R_base ho0) hb; replace HO141 := rE HO141 (Kd.R_base ho0) hb; replace HO145 := rE HO145 (Kd.R_base ho0) hb; replace HO149 := rE HO149 (Kd.R_base ho0) hb; replace HO153 := rE HO153 (Kd.R_base ho0) hb; replace HO157 := rE HO157 (Kd.R_base ho0) hb; replace BK106 := bP BK106 hb; replace BK134 := bP BK134 hb; replace BK138 := bP BK138 hb; replace HB := sQ hb; (try clear hb); (try clear ho0); obtain ⟨Ao87, co87, eo87⟩ := Kd.R_slice HO109.out; subst eo87; obtain ⟨Ao88, co88, eo88⟩ := Kd.R_slice HO113.out; subst eo88))
 go_upto_if 249 with (first | (go_at_call 70; (with_reducible refine (laws_zSame.calls k _ _ t107 _ _ t111 true _ ?side1 ?side2 ?side3 ?side4 A21.out).mono ?_); (case side1 => have hx_ := (Kd.R_reads' HO109.out).2.2; exact cC); (case side2 => exact (Kd.R_reads' HO109.out).2.1); (case side3 => have hx_ := (Kd.R_reads' HO113.out).2.2; exact cC); (case side4 => exact (Kd.R_reads' HO113.out).2.1); rintro e w' ⟨rfl, ⟨nd, rfl⟩⟩; obtain ⟨Ao89, co89, eo89⟩ := Kd.R_slice HO117.out; subst eo89; obtain ⟨Ao90, co90, eo90⟩ := Kd.R_slice HO121.out; subst eo90) | (go_at_call 71; (with_reducible refine (laws_zShares.calls k _ _ t115 _ _ t119 true _ ?side1 ?side2 ?side3 ?side4 A24.out).mono ?_); (case side1 => have hx_ := (Kd.R_reads' HO117.out).2.2; exact cC); (case side2 => exact (Kd.R_reads' HO117.out).2.1); (case side3 => have hx_ := (Kd.R_reads' HO121.out).2.2; exact cC); (case side4 => exact (Kd.R_reads' HO121.out).2.1); rintro e w' ⟨rfl, ⟨nd, rfl⟩⟩; obtain ⟨Ao91, co91, eo91⟩ := Kd.R_slice HO125.out; subst eo91; obtain ⟨Ao92, co92, eo92⟩ := Kd.R_slice HO129.out; subst eo92) | (go_at_call 71; (with_reducible refine (laws_zShares.calls k _ _ t123 _ _ t127 true _ ?side1 ?side2 ?side3 ?side4 A27.out).mono ?_); (case side1 => have hx_ := (Kd.R_reads' HO125.out).2.2; exact cC); (case side2 => exact (Kd.R_reads' HO125.out).2.1); (case side3 => have hx_ := (Kd.R_reads' HO129.out).2.2; exact cC); (case side4 => exact (Kd.R_reads' HO129.out).2.1); rintro e w' ⟨rfl, ⟨nd, rfl⟩⟩; (try clear hcz85_0 hcz85_1 hfz85_0 hfz85_1); obtain ⟨hcz93_0, hcz93_1, hfz93_0, hfz93_1⟩ := zZ BK134; obtain ⟨hcz94_0, hcz94_1, hfz94_0, hfz94_1⟩ := zZ BK138; obtain ⟨Ao95, co95, eo95⟩ := Kd.R_slice HO141.out; subst eo95; obtain ⟨Ao96, co96, eo96⟩ := Kd.R_slice HO145.out; subst eo96) | (go_at_call 71; (with_reducible refine (laws_zShares.calls k _ _ t139 _ _ t143 true _ ?side1 ?side2 ?side3 ?side4 A32.out).mono ?_); (case side1 => have hx_ := (Kd.R_reads' HO141.out).2.2; exact cC); (case side2 => exact (Kd.R_reads' HO141.out).2.1); (case side3 => have hx_ := (Kd.R_reads' HO145.out).2.2; exact cC); (case side4 => exact (Kd.R_reads' HO145.out).2.1); rintro e w' ⟨rfl, ⟨nd, rfl⟩⟩; obtain ⟨Ao97, co97, eo97⟩ := Kd.R_slice HO149.out; subst eo97; obtain ⟨Ao98, co98, eo98⟩ := Kd.R_slice HO153.out; subst eo98) | (go_at_call 71; (with_reducible refine (laws_zShares.calls k _ _ t147 _ _ t151 true _ ?side1 ?side2 ?side3 ?side4 A35.out).mono ?_); (case side1 => have hx_ := (Kd.R_reads' HO149.out).2.2; exact cC); (case side2 => exact (Kd.R_reads' HO149.out).2.1); (case side3 => have hx_ := (Kd.R_reads' HO153.out).2.2; exact cC); (case side4 => exact (Kd.R_reads' HO153.out).2.1); rintro e w' ⟨rfl, ⟨nd, rfl⟩⟩; obtain ⟨Ao99, co99, eo99⟩ := Kd.R_slice HO157.out; subst eo99; obtain ⟨Ao100, co100, eo100⟩ := Kd.R_slice HO161.out; subst eo100) | (go_at_call 71; (with_reducible refine (laws_zShares.calls k _ _ t155 _ _ t159 true _ ?side1 ?side2 ?side3 ?side4 A38.out).mono ?_); (case side1 => have hx_ := (Kd.R_reads' HO157.out).2.2; exact cC); (case side2 => exact (Kd.R_reads' HO157.out).2.1); (case side3 => have hx_ := (Kd.R_reads' HO161.out).2.2; exact cC); (case side4 => exact (Kd.R_reads' HO161.out).2.1); rintro e w' ⟨rfl, ⟨nd, rfl⟩⟩; obtain ⟨hcz101_0, hcz101_1, hfz101_0, hfz101_1⟩ := zZ BK106) | (go_at_call 20; (with_reducible refine (impl_IsCommittee.calls k t102 _ _ t103 t169 _ ?side1 ?side2 A40.out).mono ?_); (case side1 => have hx_ := (Kd.R_reads' HO105.out).2.2; exact cC); (case side2 => exact (Kd.R_reads' HO105.out).2.1); rintro e w102 ⟨rfl, hb⟩; replace HO105 := rP HO105 hb; replace HO109 := rP HO109 hb; replace HO113 := rP HO113 hb; replace HO117 := rP HO117 hb; replace HO121 := rP HO121 hb; replace HO125 := rP HO125 hb; replace HO129 := rP HO129 hb; replace HO141 := rP HO141 hb; replace HO145 := rP HO145 hb; replace HO149 := rP HO149 hb; replace HO153 := rP HO153 hb; replace HO157 := rP HO157 hb; replace HO161 := rP HO161 hb; replace BK106 := bP BK106 hb; replace BK134 := bP BK134 hb; replace BK138 := bP BK138 hb; replace HB := sQ hb; (try clear hb)))
 (try simp only [Act.put, sA, sZ, sS])
 refine cutT_ [F,F,F,F,T,F,F,F,F,F,F,F,F,F,F,F,F,F,F,F,F,F,F,F,F,F,F,F,F,F,F,F,F,F,T,T,T,T,T,T,T,T,T,T,T,T,T,T,T,T,T,T,T,T,F,F,F,F,F,F,F,F,F,F,F,F,F,F,F,F,F,F,F,F,F,F,F,F,F,F,F,F,F,F,F,F,F,F,F,F,F,F,F,F,F,F,F,F,F,F,F,F,F,F,F,F,F,F,F,F,F,F,F,F,F,F,F,F,F,F,F,F,F,F,F,F,F,F,F,F,F,F,F,F,F,F,F,F,F,F,F,F,F,F,F,F,F,F,F,F,F,F,F,F,F,F,F,F,F,F,F,F,F,F,F,F,F,F,F,F,F,F,F,F,F,F,F,F,F,F,F,F,F,F,F,F,F,F,F,F,F,F,F,F,F,F,F,F,F,F,F,F,F,F,F,F,F,F,F,F,F,F,F,F,F,F,F,F,F,F,F,F,F,F,F,F,F,F,F,F,F,F,F,F,F,F,F,F,F,F,F,F,F,F,F,F,F,F,F,T,T,T,T,T,T,T,T,T,T,T,T,T,T,T,T,T,T,T,T,T,T,T,T,T,T,T,T,T,T,T,T,T,T,T,T,T,T,T,T,T,T,T,T,T,T,T,T,T,T,T,T,T,T,T,T,T,T,T,T,T,T,T,T,T,T,T,T,T,T,T,T,T,T,T,T,T,T,T,T,T,T,T,T,T,T,T,T,T,T,T,T,T,T,T,T,T,T,T,T,T,T,T,T,T,T,T,T,T,T,T,T,T,T,T,T,T,T,T,T,T,T,T,T,T,T,T,T,T,T,T,T,T,T,T,T,T,T,T,T,T,T,T,T,T,T,T,T,T,T,T,T,T,T,T,T,T,T,T,T,T,T,T,T,T,T,T,T,T,T,T,T,T,T,T,T,T,T,T,T,T,T,T,T,T,T,T,T,T,T,T,T,T,T,T,T,T,T,T,T,T,T,T,T,T,T,T,T,T,T,T,T,T,T,T,T,T,T,T,T,T,T,T,T,T,T,T,T,T,T,T,T,T,T,T,T,T,T,T,T,T,T,T,T,T,T,T,T,T,T,T,T,T,T,T,T,T,T,T,T,T,T,T,T,T,T] (fun T_ wc_ => (fun wc => ∃ (kq : Nat), Aside0 (laws_FnSwingsTold.j5 kq l1 = some r) ∧ Aside0 (kq ≤ k) ∧ Aside0 (Kd.R (Kd.int .i64) 3 wc w.heap.size (fun _ => True) (.slice Ao52 t103.length co52) t103) ∧ Aside0 (wc.heap[gb106]? = some (.cells #[.int .i64 t102, (.slice Ao52 t103.length co52)] 26 (0, 0))) ∧ Aside0 (wc.heap[gb134]? = some (.cells #[.int .i64 t131, .int .i64 t132] 60 (0, 0))) ∧ Aside0 (wc.heap[gb138]? = some (.cells #[.int .i64 t135, .int .i64 t136] 60 (0, 0))) ∧ Aside0 (Below w.heap.size w wc))  wc_) ?restj5 ?firstj5
 case firstj5 => as_aux_lemma =>
  intro J_ K_ hJ_j5 hM_
  have H := HC48.out
  clear HC48
  by_cases c103 : t169 = true
  rotate_left
  ·replace c103 := Bool.eq_false_iff.mpr c103
   subst c103
   replace H := iF H
   as_aux_lemma =>
    have H' := Aside0.mk H
    clear H
    go_wp2
    refine meetT_ hJ_j5 (by kernel_rfl) ?rel
    case rel => exact ⟨_, H', ⟨by first | omega | exact Nat.le_refl _⟩, ⟨by exact Kd.R_mono HO105.out (fun _ hk => trivial)⟩, ⟨by exact BK106.out⟩, ⟨by exact BK134.out⟩, ⟨by exact BK138.out⟩, ⟨wB⟩⟩
  subst c103
  replace H := iT H
  obtain ⟨ji104, hji104⟩ : ∃ j_ : Int, (shl .i64 1 (t103.length : Int)) = j_ := ⟨_, rfl⟩
  replace H : ((impl_CountWinning.f k t102 t103).bind fun bt170 => ((impl_DummiesOf.f k t102 t103).bind fun bt172 => (if (t107.length : Int) = (t103.length : Int) then (if (t115.length : Int) = (t103.length : Int) then (if (t123.length : Int) = (t103.length : Int) then (if (t139.length : Int) = (t103.length : Int) then (if (t147.length : Int) = (t103.length : Int) then (if (t155.length : Int) = (t103.length : Int) then (if bt170.2 = true then ((laws_zIs.f t131 t132 bt170.1 (ji104)).bind fun t176 => (if t176 = true then (if bt172.2 = true then ((laws_zSum.f k t107).bind fun t177 => (if t177 < 1 then (none) else (laws_FnSwingsTold.l0 k l1 t107 t115 t123 t139 t147 t155 (t103.length : Int) ji104 bt170.1 bt172.1 t107 (t107.length : Int) 0 t102 t103))) else (none)) else (none))) else (none)) else (none)) else (none)) else (none)) else (none)) else (none)) else (none)))) = some r := by first | (rw [hji104] at H; exact H) | (simp only [hji104] at H ⊢; exact H)
  have hji104_ : (IntKind.i64.wrap (1 * 2 ^ min (t103.length : Int).toNat 64)) = ji104 := hji104
  have hji104z : (t103.length : Int) ≤ 64 → (IntKind.i64.wrap (1 * 2 ^ (t103.length : Int).toNat)) = ji104 := shl_small hji104
  have hji104p : (IntKind.i64.wrap (1 * 2 ^ min t103.length 64)) = ji104 := hji104_
  have hji104q : (t103.length : Int) ≤ 64 → (IntKind.i64.wrap (1 * 2 ^ t103.length)) = ji104 := hji104z
  have hji104r : (IntKind.i64.wrap (2 ^ min t103.length 64)) = ji104 := by have h_ := hji104p; rw [Int.one_mul] at h_; exact h_
  have hji104s : (t103.length : Int) ≤ 64 → (IntKind.i64.wrap (2 ^ t103.length)) = ji104 := fun hle_ => by have h_ := hji104q hle_; rw [Int.one_mul] at h_; exact h_
  have hji104u : (IntKind.i64.wrap (2 ^ min (t103.length : Int).toNat 64)) = ji104 := by have h_ := hji104_; rw [Int.one_mul] at h_; exact h_
  have hji104v : (t103.length : Int) ≤ 64 → (IntKind.i64.wrap (2 ^ (t103.length : Int).toNat)) = ji104 := fun hle_ => by have h_ := hji104z hle_; rw [Int.one_mul] at h_; exact h_
  have hji104y : (wrap64 (1 * 2 ^ min (t103.length : Int).toNat 64)) = ji104 := (i64_w _).symm.trans hji104_
  have hji104x : (t103.length : Int) ≤ 64 → (wrap64 (1 * 2 ^ (t103.length : Int).toNat)) = ji104 := fun h_ => (i64_w _).symm.trans (hji104z h_)
  replace H := oB H
  obtain ⟨⟨t170, t171⟩, A1050, H⟩ := H
  (try dsimp only at H)
  have A105 := Aside0.mk A1050
  clear A1050
  replace H := oB H
  obtain ⟨⟨t172, t175⟩, A1060, H⟩ := H
  (try dsimp only at H)
  have A106 := Aside0.mk A1060
  clear A1060
  replace H := ite_yes H
  obtain ⟨c107, H⟩ := H
  have c107b0 : ((t107.length : Int) == (t103.length : Int)) = true := beq_iff_eq.mpr c107
  have c107b1 : ((t107.length : Int) != (t103.length : Int)) = false := bne_eq_false_iff_eq.mpr c107
  have c107b2 : (t107.length == t103.length) = true := by first | simpa using c107 | (simp at c107 ⊢; omega)
  clear c107
  (first | rw [c107b0] | (simp only [i64_w, i32_w]; rw [c107b0]) | skip)
  replace H := ite_yes H
  obtain ⟨c108, H⟩ := H
  have c108b0 : ((t115.length : Int) == (t103.length : Int)) = true := beq_iff_eq.mpr c108
  have c108b1 : ((t115.length : Int) != (t103.length : Int)) = false := bne_eq_false_iff_eq.mpr c108
  have c108b2 : (t115.length == t103.length) = true := by first | simpa using c108 | (simp at c108 ⊢; omega)
  clear c108
  replace H := ite_yes H
  obtain ⟨c109, H⟩ := H
  have c109b0 : ((t123.length : Int) == (t103.length : Int)) = true := beq_iff_eq.mpr c109
  have c109b1 : ((t123.length : Int) != (t103.length : Int)) = false := bne_eq_false_iff_eq.mpr c109
  have c109b2 : (t123.length == t103.length) = true := by first | simpa using c109 | (simp at c109 ⊢; omega)
  clear c109
  replace H := ite_yes H
  obtain ⟨c110, H⟩ := H
  have c110b0 : ((t139.length : Int) == (t103.length : Int)) = true := beq_iff_eq.mpr c110
  have c110b1 : ((t139.length : Int) != (t103.length : Int)) = false := bne_eq_false_iff_eq.mpr c110
  have c110b2 : (t139.length == t103.length) = true := by first | simpa using c110 | (simp at c110 ⊢; omega)
  clear c110
  replace H := ite_yes H
  obtain ⟨c111, H⟩ := H
  have c111b0 : ((t147.length : Int) == (t103.length : Int)) = true := beq_iff_eq.mpr c111
  have c111b1 : ((t147.length : Int) != (t103.length : Int)) = false := bne_eq_false_iff_eq.mpr c111
  have c111b2 : (t147.length == t103.length) = true := by first | simpa using c111 | (simp at c111 ⊢; omega)
  clear c111
  replace H := ite_yes H
  obtain ⟨c112, H⟩ := H
  have c112b0 : ((t155.length : Int) == (t103.length : Int)) = true := beq_iff_eq.mpr c112
  have c112b1 : ((t155.length : Int) != (t103.length : Int)) = false := bne_eq_false_iff_eq.mpr c112
  have c112b2 : (t155.length == t103.length) = true := by first | simpa using c112 | (simp at c112 ⊢; omega)
  clear c112
  replace H := ite_yes H
  obtain ⟨c113, H⟩ := H
  subst c113
  replace H := oA H
  obtain ⟨t176, A114, H⟩ := H
  (try dsimp only at H)
  replace H := ite_yes H
  obtain ⟨c115, H⟩ := H
  subst c115
  replace H := ite_yes H
  obtain ⟨c116, H⟩ := H
  subst c116
  replace H := oA H
  obtain ⟨t177, A117, H⟩ := H
  (try dsimp only at H)
  replace H := ite_no H
  obtain ⟨c118, H⟩ := H
  have c118b0 : decide (t177 < 1) = false := decide_eq_false c118
  clear c118
  have H' := Aside0.mk H
  clear H
  have hnb119 := NB106_134.out
  have hnc119 := NB134_106.out
  have hnb120 := NB106_138.out
  have hnc120 := NB138_106.out
  obtain ⟨hcz121_0, hcz121_1, hfz121_0, hfz121_1⟩ := zZ BK106
  go_upto_region 24 with (first | ((with_reducible refine gate_callee (f := 42) rfl ?_); refine gL 257 Tryz.func42 #[.agg #[.int .i64 t102, .slice Ao52 t103.length co52]] ?_; (with_reducible refine (impl_CountWinning.calls k t102 _ _ t103 t170 true _ ?side1 ?side2 A105.out).mono ?_); (case side1 => have hx_ := (Kd.R_reads' HO105.out).2.2; exact cC); (case side2 => exact (Kd.R_reads' HO105.out).2.1); rintro e w122 ⟨rfl, hb⟩; refine ⟨_, rfl, ?_⟩; replace HO105 := rB HO105 hb; replace HO109 := rB HO109 hb; replace HO113 := rB HO113 hb; replace HO117 := rB HO117 hb; replace HO121 := rB HO121 hb; replace HO125 := rB HO125 hb; replace HO129 := rB HO129 hb; replace HO141 := rB HO141 hb; replace HO145 := rB HO145 hb; replace HO149 := rB HO149 hb; replace HO153 := rB HO153 hb; replace HO157 := rB HO157 hb; replace HO161 := rB HO161 hb; replace BK106 := bB BK106 hb; replace BK134 := bB BK134 hb; replace BK138 := bB BK138 hb; replace HB := sB HB hb; (try clear hb); (try clear hcz121_0 hcz121_1 hfz121_0 hfz121_1); obtain ⟨hcz123_0, hcz123_1, hfz123_0, hfz123_1⟩ := zZ BK106))
  go_upto_region 25 with (first | ((with_reducible refine gate_callee (f := 30) rfl ?_); refine gL 262 Tryz.func30 #[.agg #[.int .i64 t102, .slice Ao52 t103.length co52]] ?_; (with_reducible refine (impl_DummiesOf.calls k t102 _ _ t103 t172 true _ ?side1 ?side2 A106.out).mono ?_); (case side1 => have hx_ := (Kd.R_reads' HO105.out).2.2; exact cC); (case side2 => exact (Kd.R_reads' HO105.out).2.1); rintro e w124 ⟨v173, rfl, ho0, hb⟩; refine ⟨_, rfl, ?_⟩; have HO174 := Aside0.mk (Kd.R_lower (Kd.R_new' (Kd.R_new' (Kd.R_new' ho0 (Kd.R_lt HO105.out)) (Kd.R_lt HO109.out)) (Kd.R_lt HO113.out)) (below_size HB.out)); replace HO105 := rE HO105 (Kd.R_base ho0) hb; replace HO109 := rE HO109 (Kd.R_base ho0) hb; replace HO113 := rE HO113 (Kd.R_base ho0) hb; replace HO117 := rB HO117 hb; replace HO121 := rB HO121 hb; replace HO125 := rB HO125 hb; replace HO129 := rB HO129 hb; replace HO141 := rB HO141 hb; replace HO145 := rB HO145 hb; replace HO149 := rB HO149 hb; replace HO153 := rB HO153 hb; replace HO157 := rB HO157 hb; replace HO161 := rB HO161 hb; replace BK106 := bB BK106 hb; replace BK134 := bB BK134 hb; replace BK138 := bB BK138 hb; replace HB := sB HB hb; (try clear hb); (try clear ho0); have hnb125 := NB134_138.out; have hnc125 := NB138_134.out; (try clear hcz123_0 hcz123_1 hfz123_0 hfz123_1); obtain ⟨hcz126_0, hcz126_1, hfz126_0, hfz126_1⟩ := zZ BK134))
  go_wp2_with (first | (go_at_call 72; (with_reducible refine (laws_zIs.calls t131 t132 t170 ji104 true _ A114.out).mono ?_); rintro e w127 ⟨rfl, hb⟩; replace HO105 := rB HO105 hb; replace HO109 := rB HO109 hb; replace HO113 := rB HO113 hb; replace HO117 := rB HO117 hb; replace HO121 := rB HO121 hb; replace HO125 := rB HO125 hb; replace HO129 := rB HO129 hb; replace HO141 := rB HO141 hb; replace HO145 := rB HO145 hb; replace HO149 := rB HO149 hb; replace HO153 := rB HO153 hb; replace HO157 := rB HO157 hb; replace HO161 := rB HO161 hb; replace HO174 := rB HO174 hb; replace BK106 := bB BK106 hb; replace BK134 := bB BK134 hb; replace BK138 := bB BK138 hb; replace HB := sB HB hb; (try clear hb)) | (go_at_call 73; (with_reducible refine (laws_zSum.calls k _ _ t107 t177 _ ?side1 ?side2 A117.out).mono ?_); (case side1 => have hx_ := (Kd.R_reads' HO109.out).2.2; exact cC); (case side2 => exact (Kd.R_reads' HO109.out).2.1); rintro e w' ⟨rfl, ⟨nd, rfl⟩⟩))
  refine loopT_ [F,F,F,F,T,F,F,F,F,F,F,F,F,F,F,F,F,F,F,F,F,F,F,F,F,F,F,F,F,F,F,F,F,F,F,F,F,F,F,F,T,T,T,T,T,T,T,T,T,T,T,T,T,T,F,F,F,F,F,F,F,F,F,F,F,F,F,F,F,F,F,F,F,F,F,F,F,F,F,F,F,F,F,F,F,F,F,F,F,F,F,F,F,F,F,F,F,F,F,F,F,F,F,F,F,F,F,F,F,F,F,F,F,F,F,F,F,F,F,F,F,F,F,F,F,F,F,F,F,F,F,F,F,F,F,F,F,F,F,F,F,F,F,F,F,F,F,F,F,F,F,F,F,F,F,F,F,F,F,F,F,F,F,F,F,F,F,F,F,F,F,F,F,F,F,F,F,F,F,F,F,F,F,F,F,F,F,F,F,F,F,F,F,F,F,F,F,F,F,F,F,F,F,F,F,F,F,F,F,F,F,F,F,F,F,F,F,F,F,F,F,F,F,F,F,F,F,F,F,F,F,F,F,F,F,F,F,F,F,F,F,F,F,F,F,F,F,F,F,F,F,F,F,F,F,F,F,F,F,F,F,F,F,F,F,F,F,F,F,F,F,F,F,F,F,F,F,F,F,F,F,F,F,F,F,F,F,F,F,F,F,F,F,F,F,F,F,F,F,F,F,F,F,F,F,F,F,F,F,F,F,F,F,F,F,F,F,F,F,F,F,T,T,T,T,T,T,T,T,T,T,T,T,T,T,T,T,T,T,T,T,T,T,T,T,T,T,T,T,T,T,T,T,T,T,T,T,T,T,T,T,T,T,T,T,T,T,T,T,T,T,T,T,T,T,T,T,T,T,T,T,T,T,T,T,T,T,T,T,T,T,T,T,T,T,T,T,T,T,T,T,T,T,T,T,T,T,T,T,T,T,T,T,T,T,T,T,T,T,T,T,T,T,T,T,T,T,T,T,T,T,T,T,T,T,T,T,T,T,T,T,T,T,T,T,T,T,T,T,T,T,T,T,T,T,T,T,T,T,T,T,T,T,T,T,T,T,T,T,T,T,T,T,T,T,T,T,T,T,T,T,T,T,T,T,T,T,T,T,T,T,T,T,T,T,T,T,T,T,T,T,T,T,T,T,T,T,T,T,T,T,T,T,T,T] k (fun kq_ T_ w_ => (fun kq v321 w' => ∃ (x321_1 : Int), v321 = .int .i64 x321_1 ∧ Aside0 (laws_FnSwingsTold.l0 kq l1 t107 t115 t123 t139 t147 t155 (t103.length : Int) ji104 t170 t172 t107 (t107.length : Int) x321_1 t102 t103 = some r) ∧ Aside0 (kq ≤ k) ∧ Aside0 (Kd.R (Kd.int .i64) 3 w' w.heap.size (fun k_ => nb v173 k_ ∧ nb (.slice Ao52 t103.length co52) k_) (.slice Ao87 t107.length co87) t107) ∧ Aside0 (Kd.R k60 60 w' w.heap.size (fun k_ => nb (.slice Ao91 t123.length co91) k_ ∧ nb (.slice Ao95 t139.length co95) k_ ∧ nb (.slice Ao97 t147.length co97) k_ ∧ nb (.slice Ao99 t155.length co99) k_ ∧ k_ ≠ gb134 ∧ k_ ≠ gb138) (.slice Ao89 t115.length co89) t115) ∧ Aside0 (Kd.R k60 60 w' w.heap.size (fun k_ => nb (.slice Ao89 t115.length co89) k_ ∧ nb (.slice Ao95 t139.length co95) k_ ∧ nb (.slice Ao97 t147.length co97) k_ ∧ nb (.slice Ao99 t155.length co99) k_ ∧ k_ ≠ gb134 ∧ k_ ≠ gb138) (.slice Ao91 t123.length co91) t123) ∧ Aside0 (Kd.R k60 60 w' w.heap.size (fun k_ => nb (.slice Ao89 t115.length co89) k_ ∧ nb (.slice Ao91 t123.length co91) k_ ∧ nb (.slice Ao97 t147.length co97) k_ ∧ nb (.slice Ao99 t155.length co99) k_ ∧ k_ ≠ gb134 ∧ k_ ≠ gb138) (.slice Ao95 t139.length co95) t139) ∧ Aside0 (Kd.R k60 60 w' w.heap.size (fun k_ => nb (.slice Ao89 t115.length co89) k_ ∧ nb (.slice Ao91 t123.length co91) k_ ∧ nb (.slice Ao95 t139.length co95) k_ ∧ nb (.slice Ao99 t155.length co99) k_ ∧ k_ ≠ gb134 ∧ k_ ≠ gb138) (.slice Ao97 t147.length co97) t147) ∧ Aside0 (Kd.R k60 60 w' w.heap.size (fun k_ => nb (.slice Ao89 t115.length co89) k_ ∧ nb (.slice Ao91 t123.length co91) k_ ∧ nb (.slice Ao95 t139.length co95) k_ ∧ nb (.slice Ao97 t147.length co97) k_ ∧ k_ ≠ gb134 ∧ k_ ≠ gb138) (.slice Ao99 t155.length co99) t155) ∧ Aside0 (Kd.R (Kd.int .i64) 3 w' w.heap.size (fun k_ => nb (.slice Ao87 t107.length co87) k_ ∧ nb (.slice Ao87 t107.length co87) k_ ∧ nb (.slice Ao52 t103.length co52) k_) v173 t172) ∧ Aside0 (Kd.R (Kd.int .i64) 3 w' w.heap.size (fun k_ => nb v173 k_ ∧ nb (.slice Ao52 t103.length co52) k_) (.slice Ao87 t107.length co87) t107) ∧ Aside0 (Kd.R (Kd.int .i64) 3 w' w.heap.size (fun k_ => nb (.slice Ao87 t107.length co87) k_ ∧ nb v173 k_ ∧ nb (.slice Ao87 t107.length co87) k_) (.slice Ao52 t103.length co52) t103) ∧ Aside0 (w'.heap[gb106]? = some (.cells #[.int .i64 t102, (.slice Ao52 t103.length co52)] 26 (0, 0))) ∧ Aside0 (w'.heap[gb134]? = some (.cells #[.int .i64 t131, .int .i64 t132] 60 (0, 0))) ∧ Aside0 (w'.heap[gb138]? = some (.cells #[.int .i64 t135, .int .i64 t136] 60 (0, 0))) ∧ Aside0 (Below w.heap.size w w')) kq_ (T_ 321) w_) (by kernel_rfl) ?atStart ?round
  case atStart => exact ⟨(0), gR, H', ⟨Nat.le_refl _⟩, ⟨by (with_reducible repeat (first | apply qA | apply qN | apply qD)); exact Kd.R_mono HO109.out (fun _ hk => by first | exact ⟨hk.2, hk.1.1.2⟩ | simp_all)⟩, ⟨by (with_reducible repeat (first | apply qA | apply qN | apply qD)); exact Kd.R_mono HO117.out (fun _ hk => by first | exact ⟨hk.1.1.1.1.1.1.1.1.1.2, ⟨hk.1.1.1.1.1.2, ⟨hk.1.1.1.2, ⟨hk.1.2, ⟨hk.1.1.1.1.1.1.1.2, hk.1.1.1.1.1.1.2⟩⟩⟩⟩⟩ | simp_all)⟩, ⟨by (with_reducible repeat (first | apply qA | apply qN | apply qD)); exact Kd.R_mono HO125.out (fun _ hk => by first | exact ⟨hk.1.1.1.1.1.1.1.1.1.1.2, ⟨hk.1.1.1.1.1.2, ⟨hk.1.1.1.2, ⟨hk.1.2, ⟨hk.1.1.1.1.1.1.1.2, hk.1.1.1.1.1.1.2⟩⟩⟩⟩⟩ | simp_all)⟩, ⟨by (with_reducible repeat (first | apply qA | apply qN | apply qD)); exact Kd.R_mono HO141.out (fun _ hk => by first | exact ⟨hk.1.1.1.1.1.1.1.1.1.1.2, ⟨hk.1.1.1.1.1.1.1.1.2, ⟨hk.1.1.1.2, ⟨hk.1.2, ⟨hk.1.1.1.1.1.1.2, hk.1.1.1.1.1.2⟩⟩⟩⟩⟩ | simp_all)⟩, ⟨by (with_reducible repeat (first | apply qA | apply qN | apply qD)); exact Kd.R_mono HO149.out (fun _ hk => by first | exact ⟨hk.1.1.1.1.1.1.1.1.1.1.2, ⟨hk.1.1.1.1.1.1.1.1.2, ⟨hk.1.1.1.1.1.1.2, ⟨hk.1.2, ⟨hk.1.1.1.1.2, hk.1.1.1.2⟩⟩⟩⟩⟩ | simp_all)⟩, ⟨by (with_reducible repeat (first | apply qA | apply qN | apply qD)); exact Kd.R_mono HO157.out (fun _ hk => by first | exact ⟨hk.1.1.1.1.1.1.1.1.1.1.2, ⟨hk.1.1.1.1.1.1.1.1.2, ⟨hk.1.1.1.1.1.1.2, ⟨hk.1.1.1.1.2, ⟨hk.1.1.2, hk.1.2⟩⟩⟩⟩⟩ | simp_all)⟩, ⟨by (with_reducible repeat (first | apply qA | apply qN | apply qD)); exact Kd.R_mono HO174.out (fun _ hk => by first | exact ⟨hk.1.2, ⟨hk.1.2, hk.1.1.2⟩⟩ | simp_all)⟩, ⟨by (with_reducible repeat (first | apply qA | apply qN | apply qD)); exact Kd.R_mono HO109.out (fun _ hk => by first | exact ⟨hk.2, hk.1.1.2⟩ | simp_all)⟩, ⟨by (with_reducible repeat (first | apply qA | apply qN | apply qD)); exact Kd.R_mono HO105.out (fun _ hk => by first | exact ⟨hk.1.1.2, ⟨hk.2, hk.1.1.2⟩⟩ | simp_all)⟩, ⟨bQ BK106⟩, ⟨bQ BK134⟩, ⟨bQ BK138⟩, ⟨wB⟩⟩
  case round => as_aux_lemma =>
   intro gk T_ wr hrel J_ K_ hJ_l0 hM_
   (try clear hji104 hji104_ hji104z hji104p hji104q hji104r hji104s hji104u hji104v hji104y hji104x)
   simp only [putT, putM, T, F, Nat.reduceAdd]
   (try dsimp only at hrel)
   generalize T_ 321 = u321 at hrel ⊢
   clear H'
   (try clear c1); (try clear c2); (try clear p2); (try clear c3); (try clear c4); (try clear c5); (try clear c6); (try clear p6); (try clear c7); (try clear c8); (try clear c10); (try clear c11); (try clear c12); (try clear c20); (try clear c22); (try clear c23); (try clear c25); (try clear c26); (try clear c28); (try clear c29); (try clear c30); (try clear c30b0); (try clear c31); (try clear c33); (try clear c34); (try clear c36); (try clear c37); (try clear c39); (try clear c41); (try clear c42); (try clear c43); (try clear c44); (try clear c45); (try clear c46); (try clear c47); (try clear c56); (try clear c57); (try clear c58); (try clear c59); (try clear c60); (try clear c61); (try clear c62); (try clear c63); (try clear c64); (try clear p64); (try clear c65); (try clear c66); (try clear c67); (try clear c68); (try clear c69); (try clear c72); (try clear c73); (try clear c81); (try clear c103); (try clear c107); (try clear c107b0); (try clear c107b1); (try clear c107b2); (try clear c108); (try clear c108b0); (try clear c108b1); (try clear c108b2); (try clear c109); (try clear c109b0); (try clear c109b1); (try clear c109b2); (try clear c110); (try clear c110b0); (try clear c110b1); (try clear c110b2); (try clear c111); (try clear c111b0); (try clear c111b1); (try clear c111b2); (try clear c112); (try clear c112b0); (try clear c112b1); (try clear c112b2); (try clear c113); (try clear c115); (try clear c116); (try clear c118); (try clear c118b0); (try clear c119); (try clear c120); (try clear c125); (try clear hcz101_0); (try clear hcz101_1); (try clear hcz126_0); (try clear hcz126_1); (try clear hcz93_0); (try clear hcz93_1); (try clear hcz94_0); (try clear hcz94_1); (try clear hfz101_0); (try clear hfz101_1); (try clear hfz126_0); (try clear hfz126_1); (try clear hfz93_0); (try clear hfz93_1); (try clear hfz94_0); (try clear hfz94_1)
   obtain ⟨x321_1, rfl, HA, HK1, HO_6, HO_10, HO_14, HO_22, HO_26, HO_30, HO_38, HO_319, HO_107001, BK106, BK134, BK138, HB⟩ := hrel
   cases gk with
   | zero => exact absurd HA.out (by simp [laws_FnSwingsTold.l0])
   | succ k1 =>
    have H := HA.out
    clear HA
    simp only [laws_FnSwingsTold.l0] at H
    by_cases c128 : x321_1 < (t107.length : Int)
    rotate_left
    ·rw [if_neg c128] at H
     have c128b0 : decide (x321_1 < (t107.length : Int)) = false := decide_eq_false c128
     clear c128
     as_aux_lemma =>
      have H' := Aside0.mk H
      clear H
      go_wp2
      refine meetT_ hJ_j5 (by kernel_rfl) ?rel
      case rel => exact ⟨_, H', ⟨oN'⟩, ⟨by exact Kd.R_mono HO_107001.out (fun _ hk => trivial)⟩, ⟨by exact BK106.out⟩, ⟨by exact BK134.out⟩, ⟨by exact BK138.out⟩, ⟨wB⟩⟩
    rw [if_pos c128] at H
    have c128b0 := decide_eq_true c128
    clear c128
    replace H := ite_yes H
    obtain ⟨c129, H⟩ := H
    have c129b0 : decide (0 ≤ x321_1) = true := decide_eq_true c129
    clear c129
    replace H := ite_yes H
    obtain ⟨c130, H⟩ := H
    have c130b0 : decide (x321_1 < (t107.length : Int)) = true := decide_eq_true c130
    clear c130
    replace H := ite_yes H
    obtain ⟨c131, H⟩ := H
    have c131b0 : decide (x321_1 < (t115.length : Int)) = true := decide_eq_true c131
    clear c131
    replace H := oA H
    obtain ⟨t180, A132, H⟩ := H
    (try dsimp only at H)
    replace H := ite_yes H
    obtain ⟨c133, H⟩ := H
    subst c133
    replace H := ite_yes H
    obtain ⟨c134, H⟩ := H
    have c134b0 : decide (x321_1 < (t123.length : Int)) = true := decide_eq_true c134
    clear c134
    replace H := oA H
    obtain ⟨t182, A135, H⟩ := H
    (try dsimp only at H)
    replace H := oA H
    obtain ⟨t183, A136, H⟩ := H
    (try dsimp only at H)
    replace H := ite_yes H
    obtain ⟨c137, H⟩ := H
    subst c137
    replace H := ite_yes H
    obtain ⟨c138, H⟩ := H
    have c138b0 : decide (x321_1 < (t139.length : Int)) = true := decide_eq_true c138
    clear c138
    replace H := oA H
    obtain ⟨t185, A139, H⟩ := H
    (try dsimp only at H)
    replace H := ite_yes H
    obtain ⟨c140, H⟩ := H
    subst c140
    replace H := ite_yes H
    obtain ⟨c141, H⟩ := H
    have c141b0 : decide (x321_1 < (t147.length : Int)) = true := decide_eq_true c141
    clear c141
    replace H := oA H
    obtain ⟨t187, A142, H⟩ := H
    (try dsimp only at H)
    replace H := ite_yes H
    obtain ⟨c143, H⟩ := H
    subst c143
    replace H := ite_yes H
    obtain ⟨c144, H⟩ := H
    have c144b0 : decide (x321_1 < (t155.length : Int)) = true := decide_eq_true c144
    clear c144
    replace H := oA H
    obtain ⟨t189, A145, H⟩ := H
    (try dsimp only at H)
    replace H := ite_yes H
    obtain ⟨c146, H⟩ := H
    subst c146
    replace H := oA H
    obtain ⟨t190, A147, H⟩ := H
    (try dsimp only at H)
    replace H := ite_no H
    obtain ⟨c148, H⟩ := H
    have c148b0 : (((rd t107 x321_1) == 0) != t190) = false := by simpa using c148
    (try (have c148b1 : decide (((rd t107 x321_1) == 0) = t190) = true := by simpa using c148))
    (try (have c148b2 : (((rd t107 x321_1) == 0) == t190) = true := by simpa using c148))
    clear c148
    replace H := oB H
    obtain ⟨⟨t191, t194⟩, A1490, H⟩ := H
    (try dsimp only at H)
    have A149 := Aside0.mk A1490
    clear A1490
    replace H := oB H
    obtain ⟨⟨t195, t198⟩, A1500, H⟩ := H
    (try dsimp only at H)
    have A150 := Aside0.mk A1500
    clear A1500
    replace H := ite_yes H
    obtain ⟨c151, H⟩ := H
    subst c151
    replace H := ite_yes H
    obtain ⟨c152, H⟩ := H
    have c152b0 : ((t191.length : Int) == (rd t107 x321_1)) = true := beq_iff_eq.mpr c152
    have c152b1 : ((t191.length : Int) != (rd t107 x321_1)) = false := bne_eq_false_iff_eq.mpr c152
    clear c152
    replace H := ite_yes H
    obtain ⟨c153, H⟩ := H
    subst c153
    replace H := ite_yes H
    obtain ⟨c154, H⟩ := H
    have c154b0 : ((t195.length : Int) == (t103.length : Int)) = true := beq_iff_eq.mpr c154
    have c154b1 : ((t195.length : Int) != (t103.length : Int)) = false := bne_eq_false_iff_eq.mpr c154
    have c154b2 : (t195.length == t103.length) = true := by first | simpa using c154 | (simp at c154 ⊢; omega)
    clear c154
    replace H := oA H
    obtain ⟨t199, A155, H⟩ := H
    (try dsimp only at H)
    replace H := ite_yes H
    obtain ⟨c156, H⟩ := H
    have c156b0 : (t199 == (rd t107 x321_1)) = true := beq_iff_eq.mpr c156
    have c156b1 : (t199 != (rd t107 x321_1)) = false := bne_eq_false_iff_eq.mpr c156
    clear c156
    have H' := Aside0.mk H
    clear H
    have p178 : 0 ≤ (x321_1 : Int) := oD
    have q178 : x321_1 < (t107.length : Int) := oD
    obtain ⟨ad178, e178, hx178_0⟩ := Kd.at_int (Kd.R_reads' HO_319.out).2.2 x321_1 p178 q178
    cases e178
    replace p178 := eq_true p178
    replace q178 := eq_true q178
    try go_wp2
    replace HO_6 := rD HO_6
    replace HO_10 := rD HO_10
    replace HO_14 := rD HO_14
    replace HO_22 := rD HO_22
    replace HO_26 := rD HO_26
    replace HO_30 := rD HO_30
    replace HO_38 := rD HO_38
    replace HO_319 := rD HO_319
    replace HO_107001 := rD HO_107001
    replace BK106 := bD BK106
    replace BK134 := bD BK134
    replace BK138 := bD BK138
    replace HB := Aside0.mk (below_drew1 HB.out)
    have p179 : 0 ≤ (x321_1 : Int) := oD
    have q179 : x321_1 < (t115.length : Int) := oD
    obtain ⟨ad179, e179, hx179_0, hx179_1⟩ := at_T60 (Kd.R_reads' HO_10.out).2.2 x321_1 p179 q179
    cases e179
    replace p179 := eq_true p179
    replace q179 := eq_true q179
    have p181 : 0 ≤ (x321_1 : Int) := oD
    have q181 : x321_1 < (t123.length : Int) := oD
    obtain ⟨ad181, e181, hx181_0, hx181_1⟩ := at_T60 (Kd.R_reads' HO_14.out).2.2 x321_1 p181 q181
    cases e181
    replace p181 := eq_true p181
    replace q181 := eq_true q181
    have p184 : 0 ≤ (x321_1 : Int) := oD
    have q184 : x321_1 < (t139.length : Int) := oD
    obtain ⟨ad184, e184, hx184_0, hx184_1⟩ := at_T60 (Kd.R_reads' HO_22.out).2.2 x321_1 p184 q184
    cases e184
    replace p184 := eq_true p184
    replace q184 := eq_true q184
    have p186 : 0 ≤ (x321_1 : Int) := oD
    have q186 : x321_1 < (t147.length : Int) := oD
    obtain ⟨ad186, e186, hx186_0, hx186_1⟩ := at_T60 (Kd.R_reads' HO_26.out).2.2 x321_1 p186 q186
    cases e186
    replace p186 := eq_true p186
    replace q186 := eq_true q186
    have p188 : 0 ≤ (x321_1 : Int) := oD
    have q188 : x321_1 < (t155.length : Int) := oD
    obtain ⟨ad188, e188, hx188_0, hx188_1⟩ := at_T60 (Kd.R_reads' HO_30.out).2.2 x321_1 p188 q188
    cases e188
    replace p188 := eq_true p188
    replace q188 := eq_true q188
    refine start_ (n := 63) (S := fun w' => w'.cell? (ad179.add ((x321_1).toNat * 2)) = some (.int .i64 ((rd_T60 t115 x321_1).f0)) ∧ w'.cell? ⟨(ad179.add ((x321_1).toNat * 2)).block, (ad179.add ((x321_1).toNat * 2)).off + 1, none⟩ = some (.int .i64 ((rd_T60 t115 x321_1).f1)) ∧ w'.cell? (ad181.add ((x321_1).toNat * 2)) = some (.int .i64 ((rd_T60 t123 x321_1).f0)) ∧ w'.cell? ⟨(ad181.add ((x321_1).toNat * 2)).block, (ad181.add ((x321_1).toNat * 2)).off + 1, none⟩ = some (.int .i64 ((rd_T60 t123 x321_1).f1)) ∧ w'.cell? (ad184.add ((x321_1).toNat * 2)) = some (.int .i64 ((rd_T60 t139 x321_1).f0)) ∧ w'.cell? ⟨(ad184.add ((x321_1).toNat * 2)).block, (ad184.add ((x321_1).toNat * 2)).off + 1, none⟩ = some (.int .i64 ((rd_T60 t139 x321_1).f1)) ∧ w'.cell? (ad186.add ((x321_1).toNat * 2)) = some (.int .i64 ((rd_T60 t147 x321_1).f0)) ∧ w'.cell? ⟨(ad186.add ((x321_1).toNat * 2)).block, (ad186.add ((x321_1).toNat * 2)).off + 1, none⟩ = some (.int .i64 ((rd_T60 t147 x321_1).f1)) ∧ w'.cell? (ad188.add ((x321_1).toNat * 2)) = some (.int .i64 ((rd_T60 t155 x321_1).f0)) ∧ w'.cell? ⟨(ad188.add ((x321_1).toNat * 2)).block, (ad188.add ((x321_1).toNat * 2)).off + 1, none⟩ = some (.int .i64 ((rd_T60 t155 x321_1).f1))) (ds := []) #[F,F,F,F,F,F,F,F,F,F,F,F,F,F,F,F,F,F,F,F,F,F,F,F,F,F,F,F,F,F,F,F,F,F,F,F,F,F,F,F,F,F,F,F,F,F,F,F,F,F,F,F,F,F,F,F,F,F,F,F,F,F,F] (by kernel_rfl) rfl rfl ⟨hx179_0, hx179_1, hx181_0, hx181_1, hx184_0, hx184_1, hx186_0, hx186_1, hx188_0, hx188_1⟩ (fun hHeld => ?_); refine with_tabW laws_FnSwingsTold.tab30 laws_FnSwingsTold.bits30 (fun HT_ HW_ => ?_)
    generalize wr.drew = w157 at HO_6 HO_10 HO_14 HO_22 HO_26 HO_30 HO_38 HO_319 HO_107001 BK106 BK134 BK138 HB hx179_0 hx179_1 hx181_0 hx181_1 hx184_0 hx184_1 hx186_0 hx186_1 hx188_0 hx188_1 hHeld ⊢
    refine pU 0 HT_ ?_
    refine pU 1 HT_ ?_
    refine pU 2 HT_ ?_
    refine pU 4 HT_ ?_
    refine pU 5 HT_ ?_
    refine pU 6 HT_ ?_
    refine tK 3 HT_ HW_ hHeld (hy := by rintro w' ⟨s0, s1, s2, s3, s4, s5, s6, s7, s8, s9⟩; go_simp; with_reducible rfl) ?_
    refine oN 7 HT_ (fun K hK => ?_)
    refine goes_ Tryz.func72 (by kernel_rfl) rfl #[.agg #[.int .i64 ((rd_T60 t115 x321_1).f0), .int .i64 ((rd_T60 t115 x321_1).f1)], .int .i64 (rd t107 x321_1), .int .i64 (wrap64 (Int.tdiv ji104 2))] (by rfl) rfl rfl (by (try simp only [mA, mC, mN]); first | done | (simp only [hji104]; rfl) | rfl | (simp only [List.length_drop, List.length_take]; rfl)) ?_
    with_reducible refine (laws_zIs.calls ((rd_T60 t115 x321_1).f0) ((rd_T60 t115 x321_1).f1) (rd t107 x321_1) (wrap64 (Int.tdiv ji104 2)) true _ A132.out).mono ?_
    rintro e w158 ⟨rfl, hb⟩
    have HS0_ := (hb.cell (World.block_lt_of_cell? _ _ (hHeld.1))).trans (hHeld.1)
    have HS1_ := (hb.cell (World.block_lt_of_cell? _ _ (hHeld.2.1))).trans (hHeld.2.1)
    have HS2_ := (hb.cell (World.block_lt_of_cell? _ _ (hHeld.2.2.1))).trans (hHeld.2.2.1)
    have HS3_ := (hb.cell (World.block_lt_of_cell? _ _ (hHeld.2.2.2.1))).trans (hHeld.2.2.2.1)
    have HS4_ := (hb.cell (World.block_lt_of_cell? _ _ (hHeld.2.2.2.2.1))).trans (hHeld.2.2.2.2.1)
    have HS5_ := (hb.cell (World.block_lt_of_cell? _ _ (hHeld.2.2.2.2.2.1))).trans (hHeld.2.2.2.2.2.1)
    have HS6_ := (hb.cell (World.block_lt_of_cell? _ _ (hHeld.2.2.2.2.2.2.1))).trans (hHeld.2.2.2.2.2.2.1)
    have HS7_ := (hb.cell (World.block_lt_of_cell? _ _ (hHeld.2.2.2.2.2.2.2.1))).trans (hHeld.2.2.2.2.2.2.2.1)
    have HS8_ := (hb.cell (World.block_lt_of_cell? _ _ (hHeld.2.2.2.2.2.2.2.2.1))).trans (hHeld.2.2.2.2.2.2.2.2.1)
    have HS9_ := (hb.cell (World.block_lt_of_cell? _ _ (hHeld.2.2.2.2.2.2.2.2.2))).trans (hHeld.2.2.2.2.2.2.2.2.2)
    refine ⟨_, rfl, ?_⟩
    replace HO_6 := rB HO_6 hb
    replace HO_10 := rB HO_10 hb
    replace HO_14 := rB HO_14 hb
    replace HO_22 := rB HO_22 hb
    replace HO_26 := rB HO_26 hb
    replace HO_30 := rB HO_30 hb
    replace HO_38 := rB HO_38 hb
    replace HO_319 := rB HO_319 hb
    replace HO_107001 := rB HO_107001 hb
    replace BK106 := bB BK106 hb
    replace BK134 := bB BK134 hb
    replace BK138 := bB BK138 hb
    replace HB := sB HB hb
    (try clear hb)
    (try clear hb2)
    (try clear hk)
    (try clear hi)
    refine hK.out _ _ ⟨HS0_, HS1_, HS2_, HS3_, HS4_, HS5_, HS6_, HS7_, HS8_, HS9_⟩ (fun hHeld => ?_)
    clear hK K
    refine nM ?_
    refine pU 8 HT_ ?_
    refine pU 9 HT_ ?_
    refine pU 10 HT_ ?_
    refine pU 11 HT_ ?_
    refine pU 12 HT_ ?_
    refine pU 14 HT_ ?_
    refine pU 15 HT_ ?_
    refine tK 13 HT_ HW_ hHeld (hy := by rintro w' ⟨s0, s1, s2, s3, s4, s5, s6, s7, s8, s9⟩; go_simp; with_reducible rfl) ?_
    refine oN 16 HT_ (fun K hK => ?_)
    refine gE Tryz.func73 #[.slice (some ad178) t107.length co87] ?_
    with_reducible refine (laws_zSum.calls k1 _ _ t107 t182 _ ?side1 ?side2 A135.out).mono ?_
    (case side1 => have hx_ := (Kd.R_reads' HO_6.out).2.2; exact cC)
    (case side2 => exact (Kd.R_reads' HO_6.out).2.1)
    rintro e w' ⟨rfl, ⟨nd, rfl⟩⟩
    refine ⟨_, rfl, ?_⟩
    refine hK.out _ _ ⟨hHeld.1, hHeld.2.1, hHeld.2.2.1, hHeld.2.2.2.1, hHeld.2.2.2.2.1, hHeld.2.2.2.2.2.1, hHeld.2.2.2.2.2.2.1, hHeld.2.2.2.2.2.2.2.1, hHeld.2.2.2.2.2.2.2.2.1, hHeld.2.2.2.2.2.2.2.2.2⟩ (fun hHeld => ?_)
    clear hK K
    refine nM ?_
    refine oN 17 HT_ (fun K hK => ?_)
    refine gE Tryz.func72 #[.agg #[.int .i64 ((rd_T60 t123 x321_1).f0), .int .i64 ((rd_T60 t123 x321_1).f1)], .int .i64 (rd t107 x321_1), .int .i64 t182] ?_
    with_reducible refine (laws_zIs.calls ((rd_T60 t123 x321_1).f0) ((rd_T60 t123 x321_1).f1) (rd t107 x321_1) t182 true _ A136.out).mono ?_
    rintro e w159 ⟨rfl, hb⟩
    have HS0_ := (hb.cell (World.block_lt_of_cell? _ _ (hHeld.1))).trans (hHeld.1)
    have HS1_ := (hb.cell (World.block_lt_of_cell? _ _ (hHeld.2.1))).trans (hHeld.2.1)
    have HS2_ := (hb.cell (World.block_lt_of_cell? _ _ (hHeld.2.2.1))).trans (hHeld.2.2.1)
    have HS3_ := (hb.cell (World.block_lt_of_cell? _ _ (hHeld.2.2.2.1))).trans (hHeld.2.2.2.1)
    have HS4_ := (hb.cell (World.block_lt_of_cell? _ _ (hHeld.2.2.2.2.1))).trans (hHeld.2.2.2.2.1)
    have HS5_ := (hb.cell (World.block_lt_of_cell? _ _ (hHeld.2.2.2.2.2.1))).trans (hHeld.2.2.2.2.2.1)
    have HS6_ := (hb.cell (World.block_lt_of_cell? _ _ (hHeld.2.2.2.2.2.2.1))).trans (hHeld.2.2.2.2.2.2.1)
    have HS7_ := (hb.cell (World.block_lt_of_cell? _ _ (hHeld.2.2.2.2.2.2.2.1))).trans (hHeld.2.2.2.2.2.2.2.1)
    have HS8_ := (hb.cell (World.block_lt_of_cell? _ _ (hHeld.2.2.2.2.2.2.2.2.1))).trans (hHeld.2.2.2.2.2.2.2.2.1)
    have HS9_ := (hb.cell (World.block_lt_of_cell? _ _ (hHeld.2.2.2.2.2.2.2.2.2))).trans (hHeld.2.2.2.2.2.2.2.2.2)
    refine ⟨_, rfl, ?_⟩
    replace HO_6 := rP HO_6 hb
    replace HO_10 := rP HO_10 hb
    replace HO_14 := rP HO_14 hb
    replace HO_22 := rP HO_22 hb
    replace HO_26 := rP HO_26 hb
    replace HO_30 := rP HO_30 hb
    replace HO_38 := rP HO_38 hb
    replace HO_319 := rP HO_319 hb
    replace HO_107001 := rP HO_107001 hb
    replace BK106 := bP BK106 hb
    replace BK134 := bP BK134 hb
    replace BK138 := bP BK138 hb
    replace HB := sQ hb
    (try clear hb)
    (try clear hb2)
    (try clear hk)
    (try clear hi)
    refine hK.out _ _ ⟨HS0_, HS1_, HS2_, HS3_, HS4_, HS5_, HS6_, HS7_, HS8_, HS9_⟩ (fun hHeld => ?_)
    clear hK K
    refine nM ?_
    refine pU 18 HT_ ?_
    refine pU 19 HT_ ?_
    refine pU 20 HT_ ?_
    refine pU 21 HT_ ?_
    refine pU 22 HT_ ?_
    refine pU 23 HT_ ?_
    refine pU 25 HT_ ?_
    refine pU 26 HT_ ?_
    refine tK 24 HT_ HW_ hHeld (hy := by rintro w' ⟨s0, s1, s2, s3, s4, s5, s6, s7, s8, s9⟩; go_simp; with_reducible rfl) ?_
    refine oN 27 HT_ (fun K hK => ?_)
    refine gE Tryz.func72 #[.agg #[.int .i64 ((rd_T60 t139 x321_1).f0), .int .i64 ((rd_T60 t139 x321_1).f1)], .int .i64 (rd t107 x321_1), .int .i64 t170] ?_
    with_reducible refine (laws_zIs.calls ((rd_T60 t139 x321_1).f0) ((rd_T60 t139 x321_1).f1) (rd t107 x321_1) t170 true _ A139.out).mono ?_
    rintro e w160 ⟨rfl, hb⟩
    have HS0_ := (hb.cell (World.block_lt_of_cell? _ _ (hHeld.1))).trans (hHeld.1)
    have HS1_ := (hb.cell (World.block_lt_of_cell? _ _ (hHeld.2.1))).trans (hHeld.2.1)
    have HS2_ := (hb.cell (World.block_lt_of_cell? _ _ (hHeld.2.2.1))).trans (hHeld.2.2.1)
    have HS3_ := (hb.cell (World.block_lt_of_cell? _ _ (hHeld.2.2.2.1))).trans (hHeld.2.2.2.1)
    have HS4_ := (hb.cell (World.block_lt_of_cell? _ _ (hHeld.2.2.2.2.1))).trans (hHeld.2.2.2.2.1)
    have HS5_ := (hb.cell (World.block_lt_of_cell? _ _ (hHeld.2.2.2.2.2.1))).trans (hHeld.2.2.2.2.2.1)
    have HS6_ := (hb.cell (World.block_lt_of_cell? _ _ (hHeld.2.2.2.2.2.2.1))).trans (hHeld.2.2.2.2.2.2.1)
    have HS7_ := (hb.cell (World.block_lt_of_cell? _ _ (hHeld.2.2.2.2.2.2.2.1))).trans (hHeld.2.2.2.2.2.2.2.1)
    have HS8_ := (hb.cell (World.block_lt_of_cell? _ _ (hHeld.2.2.2.2.2.2.2.2.1))).trans (hHeld.2.2.2.2.2.2.2.2.1)
    have HS9_ := (hb.cell (World.block_lt_of_cell? _ _ (hHeld.2.2.2.2.2.2.2.2.2))).trans (hHeld.2.2.2.2.2.2.2.2.2)
    refine ⟨_, rfl, ?_⟩
    replace HO_6 := rP HO_6 hb
    replace HO_10 := rP HO_10 hb
    replace HO_14 := rP HO_14 hb
    replace HO_22 := rP HO_22 hb
    replace HO_26 := rP HO_26 hb
    replace HO_30 := rP HO_30 hb
    replace HO_38 := rP HO_38 hb
    replace HO_319 := rP HO_319 hb
    replace HO_107001 := rP HO_107001 hb
    replace BK106 := bP BK106 hb
    replace BK134 := bP BK134 hb
    replace BK138 := bP BK138 hb
    replace HB := sQ hb
    (try clear hb)
    (try clear hb2)
    (try clear hk)
    (try clear hi)
    refine hK.out _ _ ⟨HS0_, HS1_, HS2_, HS3_, HS4_, HS5_, HS6_, HS7_, HS8_, HS9_⟩ (fun hHeld => ?_)
    clear hK K
    refine nM ?_
    refine pU 28 HT_ ?_
    refine pU 29 HT_ ?_
    refine pU 30 HT_ ?_
    refine pU 31 HT_ ?_
    refine pU 32 HT_ ?_
    refine pU 33 HT_ ?_
    refine pU 35 HT_ ?_
    refine pU 36 HT_ ?_
    refine pU 37 HT_ ?_
    refine pU 38 HT_ ?_
    refine tK 34 HT_ HW_ hHeld (hy := by rintro w' ⟨s0, s1, s2, s3, s4, s5, s6, s7, s8, s9⟩; go_simp; with_reducible rfl) ?_
    refine oN 39 HT_ (fun K hK => ?_)
    refine goes_ Tryz.func72 (by kernel_rfl) rfl #[.agg #[.int .i64 ((rd_T60 t147 x321_1).f0), .int .i64 ((rd_T60 t147 x321_1).f1)], .int .i64 (rd t107 x321_1), .int .i64 (wrap64 (ji104 - t170))] (by rfl) rfl rfl (by (try simp only [mA, mC, mN]); first | done | (simp only [hji104]; rfl) | rfl | (simp only [List.length_drop, List.length_take]; rfl)) ?_
    with_reducible refine (laws_zIs.calls ((rd_T60 t147 x321_1).f0) ((rd_T60 t147 x321_1).f1) (rd t107 x321_1) (wrap64 (ji104 - t170)) true _ A142.out).mono ?_
    rintro e w161 ⟨rfl, hb⟩
    have HS0_ := (hb.cell (World.block_lt_of_cell? _ _ (hHeld.1))).trans (hHeld.1)
    have HS1_ := (hb.cell (World.block_lt_of_cell? _ _ (hHeld.2.1))).trans (hHeld.2.1)
    have HS2_ := (hb.cell (World.block_lt_of_cell? _ _ (hHeld.2.2.1))).trans (hHeld.2.2.1)
    have HS3_ := (hb.cell (World.block_lt_of_cell? _ _ (hHeld.2.2.2.1))).trans (hHeld.2.2.2.1)
    have HS4_ := (hb.cell (World.block_lt_of_cell? _ _ (hHeld.2.2.2.2.1))).trans (hHeld.2.2.2.2.1)
    have HS5_ := (hb.cell (World.block_lt_of_cell? _ _ (hHeld.2.2.2.2.2.1))).trans (hHeld.2.2.2.2.2.1)
    have HS6_ := (hb.cell (World.block_lt_of_cell? _ _ (hHeld.2.2.2.2.2.2.1))).trans (hHeld.2.2.2.2.2.2.1)
    have HS7_ := (hb.cell (World.block_lt_of_cell? _ _ (hHeld.2.2.2.2.2.2.2.1))).trans (hHeld.2.2.2.2.2.2.2.1)
    have HS8_ := (hb.cell (World.block_lt_of_cell? _ _ (hHeld.2.2.2.2.2.2.2.2.1))).trans (hHeld.2.2.2.2.2.2.2.2.1)
    have HS9_ := (hb.cell (World.block_lt_of_cell? _ _ (hHeld.2.2.2.2.2.2.2.2.2))).trans (hHeld.2.2.2.2.2.2.2.2.2)
    refine ⟨_, rfl, ?_⟩
    replace HO_6 := rP HO_6 hb
    replace HO_10 := rP HO_10 hb
    replace HO_14 := rP HO_14 hb
    replace HO_22 := rP HO_22 hb
    replace HO_26 := rP HO_26 hb
    replace HO_30 := rP HO_30 hb
    replace HO_38 := rP HO_38 hb
    replace HO_319 := rP HO_319 hb
    replace HO_107001 := rP HO_107001 hb
    replace BK106 := bP BK106 hb
    replace BK134 := bP BK134 hb
    replace BK138 := bP BK138 hb
    replace HB := sQ hb
    (try clear hb)
    (try clear hb2)
    (try clear hk)
    (try clear hi)
    refine hK.out _ _ ⟨HS0_, HS1_, HS2_, HS3_, HS4_, HS5_, HS6_, HS7_, HS8_, HS9_⟩ (fun hHeld => ?_)
    clear hK K
    refine nM ?_
    refine pU 40 HT_ ?_
    refine pU 41 HT_ ?_
    refine pU 42 HT_ ?_
    refine pU 43 HT_ ?_
    refine pU 44 HT_ ?_
    refine pU 45 HT_ ?_
    refine pU 47 HT_ ?_
    refine pU 48 HT_ ?_
    refine pU 49 HT_ ?_
    refine pU 50 HT_ ?_
    refine pU 51 HT_ ?_
    refine tK 46 HT_ HW_ hHeld (hy := by rintro w' ⟨s0, s1, s2, s3, s4, s5, s6, s7, s8, s9⟩; go_simp; with_reducible rfl) ?_
    refine oN 52 HT_ (fun K hK => ?_)
    refine goes_ Tryz.func72 (by kernel_rfl) rfl #[.agg #[.int .i64 ((rd_T60 t155 x321_1).f0), .int .i64 ((rd_T60 t155 x321_1).f1)], .int .i64 (wrap64 ((wrap64 (Int.tdiv ji104 2)) + (rd t107 x321_1))), .int .i64 ji104] (by rfl) rfl rfl (by (try simp only [mA, mC, mN]); first | done | (simp only [hji104]; rfl) | rfl | (simp only [List.length_drop, List.length_take]; rfl)) ?_
    with_reducible refine (laws_zIs.calls ((rd_T60 t155 x321_1).f0) ((rd_T60 t155 x321_1).f1) (wrap64 ((wrap64 (Int.tdiv ji104 2)) + (rd t107 x321_1))) ji104 true _ A145.out).mono ?_
    rintro e w162 ⟨rfl, hb⟩
    have HS0_ := (hb.cell (World.block_lt_of_cell? _ _ (hHeld.1))).trans (hHeld.1)
    have HS1_ := (hb.cell (World.block_lt_of_cell? _ _ (hHeld.2.1))).trans (hHeld.2.1)
    have HS2_ := (hb.cell (World.block_lt_of_cell? _ _ (hHeld.2.2.1))).trans (hHeld.2.2.1)
    have HS3_ := (hb.cell (World.block_lt_of_cell? _ _ (hHeld.2.2.2.1))).trans (hHeld.2.2.2.1)
    have HS4_ := (hb.cell (World.block_lt_of_cell? _ _ (hHeld.2.2.2.2.1))).trans (hHeld.2.2.2.2.1)
    have HS5_ := (hb.cell (World.block_lt_of_cell? _ _ (hHeld.2.2.2.2.2.1))).trans (hHeld.2.2.2.2.2.1)
    have HS6_ := (hb.cell (World.block_lt_of_cell? _ _ (hHeld.2.2.2.2.2.2.1))).trans (hHeld.2.2.2.2.2.2.1)
    have HS7_ := (hb.cell (World.block_lt_of_cell? _ _ (hHeld.2.2.2.2.2.2.2.1))).trans (hHeld.2.2.2.2.2.2.2.1)
    have HS8_ := (hb.cell (World.block_lt_of_cell? _ _ (hHeld.2.2.2.2.2.2.2.2.1))).trans (hHeld.2.2.2.2.2.2.2.2.1)
    have HS9_ := (hb.cell (World.block_lt_of_cell? _ _ (hHeld.2.2.2.2.2.2.2.2.2))).trans (hHeld.2.2.2.2.2.2.2.2.2)
    refine ⟨_, rfl, ?_⟩
    replace HO_6 := rP HO_6 hb
    replace HO_10 := rP HO_10 hb
    replace HO_14 := rP HO_14 hb
    replace HO_22 := rP HO_22 hb
    replace HO_26 := rP HO_26 hb
    replace HO_30 := rP HO_30 hb
    replace HO_38 := rP HO_38 hb
    replace HO_319 := rP HO_319 hb
    replace HO_107001 := rP HO_107001 hb
    replace BK106 := bP BK106 hb
    replace BK134 := bP BK134 hb
    replace BK138 := bP BK138 hb
    replace HB := sQ hb
    (try clear hb)
    (try clear hb2)
    (try clear hk)
    (try clear hi)
    obtain ⟨Ao163, co163, eo163⟩ := Kd.R_slice HO_38.out
    (first | subst eo163 | (injection eo163 with f1_ f2_ f3_; have f4_ := f1_.symm; have f5_ := f3_.symm; clear f1_ f2_ f3_; subst f4_; subst f5_))
    refine hK.out _ _ ⟨HS0_, HS1_, HS2_, HS3_, HS4_, HS5_, HS6_, HS7_, HS8_, HS9_⟩ (fun hHeld => ?_)
    clear hK K
    refine nM ?_
    refine pU 53 HT_ ?_
    refine pU 54 HT_ ?_
    refine pU 55 HT_ ?_
    refine pU 56 HT_ ?_
    refine pU 57 HT_ ?_
    refine pU 58 HT_ ?_
    refine pU 59 HT_ ?_
    refine oN 60 HT_ (fun K hK => ?_)
    refine gE Tryz.func74 #[.slice Ao163 t172.length co163, .int .i64 x321_1] ?_
    with_reducible refine (laws_zHas.calls k1 _ _ t172 x321_1 t190 _ ?side1 ?side2 A147.out).mono ?_
    (case side1 => have hx_ := (Kd.R_reads' HO_38.out).2.2; exact cC)
    (case side2 => exact (Kd.R_reads' HO_38.out).2.1)
    rintro e w' ⟨rfl, ⟨nd, rfl⟩⟩
    refine ⟨_, rfl, ?_⟩
    refine hK.out _ _ ⟨hHeld.1, hHeld.2.1, hHeld.2.2.1, hHeld.2.2.2.1, hHeld.2.2.2.2.1, hHeld.2.2.2.2.2.1, hHeld.2.2.2.2.2.2.1, hHeld.2.2.2.2.2.2.2.1, hHeld.2.2.2.2.2.2.2.2.1, hHeld.2.2.2.2.2.2.2.2.2⟩ (fun hHeld => ?_)
    clear hK K
    refine nM ?_
    refine pU 61 HT_ ?_
    refine pU 62 HT_ ?_
    refine done_ (done_of HT_.out (by kernel_rfl)) ?_
    have hnb164 := NB106_134.out
    have hnc164 := NB134_106.out
    have hnb165 := NB106_138.out
    have hnc165 := NB138_106.out
    obtain ⟨hcz166_0, hcz166_1, hfz166_0, hfz166_1⟩ := zZ BK106
    go_upto_region 33 with (first | ((with_reducible refine gate_callee (f := 75) rfl ?_); refine gL 392 Tryz.func75 #[.agg #[.int .i64 t102, .slice Ao52 t103.length co52], .int .i64 x321_1] ?_; (with_reducible refine (impl_SwingSets.calls k1 t102 _ _ t103 x321_1 t191 true _ ?side1 ?side2 A149.out).mono ?_); (case side1 => have hx_ := (Kd.R_reads' HO_107001.out).2.2; exact cC); (case side2 => exact (Kd.R_reads' HO_107001.out).2.1); rintro e w167 ⟨v192, rfl, ho0, hb⟩; refine ⟨_, rfl, ?_⟩; have HO193 := Aside0.mk (Kd.S_lower (Kd.S_new' (Kd.S_new' (Kd.S_new' (Kd.S_new' ho0 (Kd.R_lt (rQ HO_6))) (Kd.R_lt (rQ HO_38))) (Kd.R_lt (rQ HO_319))) (Kd.R_lt (rQ HO_107001))) (below_size (by repeat (first | exact HB.out | apply ba | apply bd | apply be | refine bs ?_ GE106.out | refine bs ?_ GE134.out | refine bs ?_ GE138.out)))); replace HO_6 := rP HO_6 hb; replace HO_10 := rP HO_10 hb; replace HO_14 := rP HO_14 hb; replace HO_22 := rP HO_22 hb; replace HO_26 := rP HO_26 hb; replace HO_30 := rP HO_30 hb; replace HO_38 := rP HO_38 hb; replace HO_319 := rP HO_319 hb; replace HO_107001 := rP HO_107001 hb; replace BK106 := bP BK106 hb; replace BK134 := bP BK134 hb; replace BK138 := bP BK138 hb; replace HB := sQ hb; (try clear hb); (try clear ho0); (try clear hcz166_0 hcz166_1 hfz166_0 hfz166_1); obtain ⟨hcz168_0, hcz168_1, hfz168_0, hfz168_1⟩ := zZ BK106))
    go_upto_region 34 with (first | ((with_reducible refine gate_callee (f := 76) rfl ?_); refine gL 398 Tryz.func76 #[.agg #[.int .i64 t102, .slice Ao52 t103.length co52], .int .i64 x321_1] ?_; (with_reducible refine (impl_SwingsBySize.calls k1 t102 _ _ t103 x321_1 t195 true _ ?side1 ?side2 A150.out).mono ?_); (case side1 => have hx_ := (Kd.R_reads' HO_107001.out).2.2; exact cC); (case side2 => exact (Kd.R_reads' HO_107001.out).2.1); rintro e w169 ⟨v196, rfl, ho0, hb⟩; refine ⟨_, rfl, ?_⟩; have HO197 := Aside0.mk (Kd.R_lower (Kd.R_new' (Kd.R_new' (Kd.R_new' (Kd.R_new' ho0 (Kd.R_lt (rQ HO_6))) (Kd.R_lt (rQ HO_38))) (Kd.R_lt (rQ HO_319))) (Kd.R_lt (rQ HO_107001))) (below_size (by repeat (first | exact HB.out | apply ba | apply bd | apply be | refine bs ?_ GE106.out | refine bs ?_ GE134.out | refine bs ?_ GE138.out)))); replace HO_6 := rE HO_6 (Kd.R_base ho0) hb; replace HO_10 := rP HO_10 hb; replace HO_14 := rP HO_14 hb; replace HO_22 := rP HO_22 hb; replace HO_26 := rP HO_26 hb; replace HO_30 := rP HO_30 hb; replace HO_38 := rE HO_38 (Kd.R_base ho0) hb; replace HO_319 := rE HO_319 (Kd.R_base ho0) hb; replace HO_107001 := rE HO_107001 (Kd.R_base ho0) hb; replace HO193 := tE HO193 (Kd.R_base ho0) hb; replace BK106 := bP BK106 hb; replace BK134 := bP BK134 hb; replace BK138 := bP BK138 hb; replace HB := sQ hb; (try clear hb); (try clear ho0); obtain ⟨Ao170, co170, eo170⟩ := Kd.S_slice HO193.out; subst eo170; obtain ⟨Ao171, co171, eo171⟩ := Kd.R_slice HO197.out; subst eo171))
    try go_wp2_with (first | (go_at_call 73; (with_reducible refine (laws_zSum.calls k1 _ _ t195 t199 _ ?side1 ?side2 A155.out).mono ?_); (case side1 => have hx_ := (Kd.R_reads' HO197.out).2.2; exact cC); (case side2 => exact (Kd.R_reads' HO197.out).2.1); rintro e w' ⟨rfl, ⟨nd, rfl⟩⟩))
    refine loopT_ [F,F,F,F,T,F,F,F,F,F,F,F,F,F,F,F,F,F,F,F,F,F,F,F,F,F,F,F,F,F,F,F,F,F,F,F,F,F,F,F,F,F,F,F,F,F,T,T,T,T,T,T,T,T,F,F,F,F,F,F,F,F,F,F,F,F,F,F,F,F,F,F,F,F,F,F,F,F,F,F,F,F,F,F,F,F,F,F,F,F,F,F,F,F,F,F,F,F,F,F,F,F,F,F,F,F,F,F,F,F,F,F,F,F,F,F,F,F,F,F,F,F,F,F,F,F,F,F,F,F,F,F,F,F,F,F,F,F,F,F,F,F,F,F,F,F,F,F,F,F,F,F,F,F,F,F,F,F,F,F,F,F,F,F,F,F,F,F,F,F,F,F,F,F,F,F,F,F,F,F,F,F,F,F,F,F,F,F,F,F,F,F,F,F,F,F,F,F,F,F,F,F,F,F,F,F,F,F,F,F,F,F,F,F,F,F,F,F,F,F,F,F,F,F,F,F,F,F,F,F,F,F,F,F,F,F,F,F,F,F,F,F,F,F,F,F,F,F,F,F,F,F,F,F,F,F,F,F,F,F,F,F,F,F,F,F,F,F,F,F,F,F,F,F,F,F,F,F,F,F,F,F,F,F,F,F,F,F,F,F,F,F,F,F,F,F,F,F,F,F,F,F,F,F,F,F,F,F,F,F,F,F,F,F,F,F,F,F,F,F,F,F,F,F,F,F,F,F,F,F,F,F,F,F,F,F,F,F,F,F,F,F,F,F,F,F,F,F,F,F,F,F,F,F,F,F,F,F,F,F,F,F,F,F,F,F,F,F,F,F,F,F,F,F,F,F,F,F,F,F,F,F,F,F,F,F,F,F,F,F,F,F,F,F,F,F,F,F,F,F,F,F,F,F,F,F,F,F,F,F,F,F,F,F,F,F,F,F,F,F,F,F,F,F,F,F,F,T,T,T,T,T,T,T,T,T,T,T,T,T,T,T,T,T,T,T,T,T,T,T,T,T,T,T,T,T,T,T,T,T,T,T,T,T,T,T,T,T,T,T,T,T,T,T,T,T,T,T,T,T,T,T,T,T,T,T,T,T,T,T,T,T,T,T,T,T,T,T,T,T,T,T,T,T,T,T,T,T,T,T,T,T,T,T] k1 (fun kq_ T_ w_ => (fun kq v427 w' => ∃ (x427_2 : Int), v427 = .int .i64 x427_2 ∧ Aside0 (laws_FnSwingsTold.l1 kq l1 t107 t115 t123 t139 t147 t155 (t103.length : Int) ji104 t170 t172 x321_1 t191 t195 t107 (t107.length : Int) x321_1 t191 (t191.length : Int) x427_2 t102 t103 = some r) ∧ Aside0 (kq ≤ k1) ∧ Aside0 (Kd.R (Kd.int .i64) 3 w' w.heap.size (fun k_ => nb (.slice Ao163 t172.length co163) k_ ∧ nb (.slice Ao171 t195.length co171) k_ ∧ nb (.slice Ao52 t103.length co52) k_) (.slice (some ad178) t107.length co87) t107) ∧ Aside0 (Kd.R k60 60 w' w.heap.size (fun k_ => nb (.slice (some ad181) t123.length co91) k_ ∧ nb (.slice (some ad184) t139.length co95) k_ ∧ nb (.slice (some ad186) t147.length co97) k_ ∧ nb (.slice (some ad188) t155.length co99) k_ ∧ k_ ≠ gb134 ∧ k_ ≠ gb138) (.slice (some ad179) t115.length co89) t115) ∧ Aside0 (Kd.R k60 60 w' w.heap.size (fun k_ => nb (.slice (some ad179) t115.length co89) k_ ∧ nb (.slice (some ad184) t139.length co95) k_ ∧ nb (.slice (some ad186) t147.length co97) k_ ∧ nb (.slice (some ad188) t155.length co99) k_ ∧ k_ ≠ gb134 ∧ k_ ≠ gb138) (.slice (some ad181) t123.length co91) t123) ∧ Aside0 (Kd.R k60 60 w' w.heap.size (fun k_ => nb (.slice (some ad179) t115.length co89) k_ ∧ nb (.slice (some ad181) t123.length co91) k_ ∧ nb (.slice (some ad186) t147.length co97) k_ ∧ nb (.slice (some ad188) t155.length co99) k_ ∧ k_ ≠ gb134 ∧ k_ ≠ gb138) (.slice (some ad184) t139.length co95) t139) ∧ Aside0 (Kd.R k60 60 w' w.heap.size (fun k_ => nb (.slice (some ad179) t115.length co89) k_ ∧ nb (.slice (some ad181) t123.length co91) k_ ∧ nb (.slice (some ad184) t139.length co95) k_ ∧ nb (.slice (some ad188) t155.length co99) k_ ∧ k_ ≠ gb134 ∧ k_ ≠ gb138) (.slice (some ad186) t147.length co97) t147) ∧ Aside0 (Kd.R k60 60 w' w.heap.size (fun k_ => nb (.slice (some ad179) t115.length co89) k_ ∧ nb (.slice (some ad181) t123.length co91) k_ ∧ nb (.slice (some ad184) t139.length co95) k_ ∧ nb (.slice (some ad186) t147.length co97) k_ ∧ k_ ≠ gb134 ∧ k_ ≠ gb138) (.slice (some ad188) t155.length co99) t155) ∧ Aside0 (Kd.R (Kd.int .i64) 3 w' w.heap.size (fun k_ => nb (.slice (some ad178) t107.length co87) k_ ∧ nb (.slice Ao171 t195.length co171) k_ ∧ nb (.slice (some ad178) t107.length co87) k_ ∧ nb (.slice Ao52 t103.length co52) k_) (.slice Ao163 t172.length co163) t172) ∧ Aside0 (Kd.S (Kd.slice 3 (Kd.int .i64)) 24 w' w.heap.size (fun k_ => nb (.slice (some ad178) t107.length co87) k_ ∧ nb (.slice Ao163 t172.length co163) k_ ∧ nb (.slice Ao171 t195.length co171) k_ ∧ nb (.slice (some ad178) t107.length co87) k_ ∧ nb (.slice Ao52 t103.length co52) k_) (.slice Ao170 t191.length co170) t191) ∧ Aside0 (Kd.R (Kd.int .i64) 3 w' w.heap.size (fun k_ => nb (.slice (some ad178) t107.length co87) k_ ∧ nb (.slice Ao163 t172.length co163) k_ ∧ nb (.slice (some ad178) t107.length co87) k_ ∧ nb (.slice Ao52 t103.length co52) k_) (.slice Ao171 t195.length co171) t195) ∧ Aside0 (Kd.R (Kd.int .i64) 3 w' w.heap.size (fun k_ => nb (.slice Ao163 t172.length co163) k_ ∧ nb (.slice Ao171 t195.length co171) k_ ∧ nb (.slice Ao52 t103.length co52) k_) (.slice (some ad178) t107.length co87) t107) ∧ Aside0 (Kd.S (Kd.slice 3 (Kd.int .i64)) 24 w' w.heap.size (fun k_ => nb (.slice (some ad178) t107.length co87) k_ ∧ nb (.slice Ao163 t172.length co163) k_ ∧ nb (.slice Ao171 t195.length co171) k_ ∧ nb (.slice (some ad178) t107.length co87) k_ ∧ nb (.slice Ao52 t103.length co52) k_) (.slice Ao170 t191.length co170) t191) ∧ Aside0 (Kd.R (Kd.int .i64) 3 w' w.heap.size (fun k_ => nb (.slice (some ad178) t107.length co87) k_ ∧ nb (.slice Ao163 t172.length co163) k_ ∧ nb (.slice Ao171 t195.length co171) k_ ∧ nb (.slice (some ad178) t107.length co87) k_) (.slice Ao52 t103.length co52) t103) ∧ Aside0 (w'.heap[gb106]? = some (.cells #[.int .i64 t102, (.slice Ao52 t103.length co52)] 26 (0, 0))) ∧ Aside0 (w'.heap[gb134]? = some (.cells #[.int .i64 t131, .int .i64 t132] 60 (0, 0))) ∧ Aside0 (w'.heap[gb138]? = some (.cells #[.int .i64 t135, .int .i64 t136] 60 (0, 0))) ∧ Aside0 (Below w.heap.size w w')) kq_ (T_ 427) w_) (by kernel_rfl) ?atStart ?round
    case atStart => exact ⟨(0), gR, H', ⟨Nat.le_refl _⟩, ⟨by (with_reducible repeat (first | apply qA | apply qN | apply qD)); exact Kd.R_mono HO_6.out (fun _ hk => by first | exact ⟨hk.1.1, ⟨hk.2, hk.1.2⟩⟩ | simp_all)⟩, ⟨rQ HO_10⟩, ⟨rQ HO_14⟩, ⟨rQ HO_22⟩, ⟨rQ HO_26⟩, ⟨rQ HO_30⟩, ⟨by (with_reducible repeat (first | apply qA | apply qN | apply qD)); exact Kd.R_mono HO_38.out (fun _ hk => by first | exact ⟨hk.1.1, ⟨hk.2, ⟨hk.1.2.1, hk.1.2.2⟩⟩⟩ | simp_all)⟩, ⟨by (with_reducible repeat (first | apply Kd.S_alloc | apply Kd.S_drewN | apply Kd.S_drew)); exact Kd.S_mono HO193.out (fun _ hk => by first | exact ⟨hk.1.1.1.1.2, ⟨hk.1.1.1.2, ⟨hk.2, ⟨hk.1.1.2, hk.1.2⟩⟩⟩⟩ | simp_all)⟩, ⟨by (with_reducible repeat (first | apply qA | apply qN | apply qD)); exact Kd.R_mono HO197.out (fun _ hk => by first | exact ⟨hk.1.1.1.2, ⟨hk.1.1.2, ⟨hk.1.2, hk.2⟩⟩⟩ | simp_all)⟩, ⟨by (with_reducible repeat (first | apply qA | apply qN | apply qD)); exact Kd.R_mono HO_319.out (fun _ hk => by first | exact ⟨hk.1.1, ⟨hk.2, hk.1.2⟩⟩ | simp_all)⟩, ⟨by (with_reducible repeat (first | apply Kd.S_alloc | apply Kd.S_drewN | apply Kd.S_drew)); exact Kd.S_mono HO193.out (fun _ hk => by first | exact ⟨hk.1.1.1.1.2, ⟨hk.1.1.1.2, ⟨hk.2, ⟨hk.1.1.2, hk.1.2⟩⟩⟩⟩ | simp_all)⟩, ⟨by (with_reducible repeat (first | apply qA | apply qN | apply qD)); exact Kd.R_mono HO_107001.out (fun _ hk => by first | exact ⟨hk.1.1, ⟨hk.1.2.1, ⟨hk.2, hk.1.2.2⟩⟩⟩ | simp_all)⟩, ⟨bQ BK106⟩, ⟨bQ BK134⟩, ⟨bQ BK138⟩, ⟨wB⟩⟩
    case round => as_aux_lemma =>
     intro gk T_ wr hrel J_ K_ hJ_l1 hM_
     simp only [putT, putM, T, F, Nat.reduceAdd]
     (try dsimp only at hrel)
     generalize T_ 427 = u427 at hrel ⊢
     clear H'
     (try clear c1); (try clear p2); (try clear p6); (try clear c7); (try clear c16); (try clear p64); (try clear c72); (try clear c74); (try clear c75); (try clear c76); (try clear c164); (try clear c165); (try clear hcz168_0); (try clear hcz168_1); (try clear hfz168_0); (try clear hfz168_1)
     obtain ⟨x427_2, rfl, HA, HK2, HO_6, HO_10, HO_14, HO_22, HO_26, HO_30, HO_38, HO_42, HO_44, HO_319, HO_425, HO_107001, BK106, BK134, BK138, HB⟩ := hrel
     cases gk with
     | zero => exact absurd HA.out (by simp [laws_FnSwingsTold.l1])
     | succ k2 =>
      have H := HA.out
      clear HA
      simp only [laws_FnSwingsTold.l1] at H
      by_cases c172 : x427_2 < (t191.length : Int)
      rotate_left
      ·rw [if_neg c172] at H
       have c172b0 : decide (x427_2 < (t191.length : Int)) = false := decide_eq_false c172
       clear c172
       as_aux_lemma =>
        have H' := Aside0.mk H
        clear H
        go_wp2
        refine roundT_ k2 ?measure hJ_l0 (by kernel_rfl) ?rel
        case measure => have := HK1.out; have := HK2.out; omega
        case rel => exact ⟨(wrap64 (x321_1 + 1)), gR, H', ⟨by have := HK1.out; have := HK2.out; omega⟩, ⟨by exact Kd.R_mono HO_6.out (fun _ hk => by first | exact ⟨hk.1, hk.2.2⟩ | simp_all)⟩, ⟨by exact HO_10.out⟩, ⟨by exact HO_14.out⟩, ⟨by exact HO_22.out⟩, ⟨by exact HO_26.out⟩, ⟨by exact HO_30.out⟩, ⟨by exact Kd.R_mono HO_38.out (fun _ hk => by first | exact ⟨hk.1, ⟨hk.2.2.1, hk.2.2.2⟩⟩ | simp_all)⟩, ⟨by exact Kd.R_mono HO_319.out (fun _ hk => by first | exact ⟨hk.1, hk.2.2⟩ | simp_all)⟩, ⟨by exact Kd.R_mono HO_107001.out (fun _ hk => by first | exact ⟨hk.1, ⟨hk.2.1, hk.2.2.2⟩⟩ | simp_all)⟩, ⟨by exact BK106.out⟩, ⟨by exact BK134.out⟩, ⟨by exact BK138.out⟩, ⟨wB⟩⟩
      rw [if_pos c172] at H
      have c172b0 := decide_eq_true c172
      clear c172
      replace H := ite_yes H
      obtain ⟨c173, H⟩ := H
      have c173b0 : decide (0 ≤ x427_2) = true := decide_eq_true c173
      clear c173
      replace H := ite_yes H
      obtain ⟨c174, H⟩ := H
      have c174b0 : decide (x427_2 < (t191.length : Int)) = true := decide_eq_true c174
      clear c174
      replace H := oB H
      obtain ⟨⟨t201, t202⟩, A1750, H⟩ := H
      (try dsimp only at H)
      have A175 := Aside0.mk A1750
      clear A1750
      obtain ⟨y203, hy203⟩ : ∃ y_ : List Int, y_ = (([] : List Int)) := ⟨_, rfl⟩
      replace H : (if y203.length + (rd_L2 t191 x427_2).length < 17592186044416 then (laws_FnSwingsTold.l2 k2 l1 t107 t115 t123 t139 t147 t155 (t103.length : Int) ji104 t170 t172 x321_1 t191 t195 x427_2 (rd_L2 t191 x427_2) t201 t202 (y203 ++ (rd_L2 t191 x427_2)) 0 t107 (t107.length : Int) x321_1 t191 (t191.length : Int) x427_2 t102 t103) else (none)) = some r := by first | (rw [hy203]; with_reducible exact H) | (have H2_ := (Option.bind_some _ _).symm.trans H; rw [hy203]; with_reducible exact H2_) | (have H2_ := (Option.bind_some _ _).symm.trans H; with_reducible exact H2_) | with_reducible exact H | (rw [hy203]; exact H) | exact H
      have Ny203 := Aside0.mk hy203
      clear hy203
      replace H := ite_yes H
      obtain ⟨c176, H⟩ := H
      have LMc176 := Aside0.mk c176
      clear c176
      obtain ⟨y206, hy206⟩ : ∃ y_ : List Int, y_ = (y203 ++ (rd_L2 t191 x427_2)) := ⟨_, rfl⟩
      replace H : (laws_FnSwingsTold.l2 k2 l1 t107 t115 t123 t139 t147 t155 (t103.length : Int) ji104 t170 t172 x321_1 t191 t195 x427_2 (rd_L2 t191 x427_2) t201 t202 y206 0 t107 (t107.length : Int) x321_1 t191 (t191.length : Int) x427_2 t102 t103) = some r := by first | (rw [hy206]; with_reducible exact H) | (have H2_ := (Option.bind_some _ _).symm.trans H; rw [hy206]; with_reducible exact H2_) | (have H2_ := (Option.bind_some _ _).symm.trans H; with_reducible exact H2_) | with_reducible exact H | (rw [hy206]; exact H) | exact H
      have Ny206 := Aside0.mk hy206
      clear hy206
      have H' := Aside0.mk H
      clear H
      have p200 : 0 ≤ (x427_2 : Int) := oD
      have q200 : x427_2 < (t191.length : Int) := oD
      obtain ⟨ad200, A200_0, c200_0, e200, hx200_0, hl200_0, hi200_0⟩ := at_L2 (Kd.S_reads' HO_425.out).2.2 x427_2 p200 q200
      cases e200
      obtain ⟨ce200, hce200, hMe200, hcc200⟩ := Kd.S_get HO_425.out [] x427_2 p200 (by first | exact q200 | exact oD | (have e_ := (Kd.S_reads' HO_425.out).1; omega))
      obtain ⟨ve200_0, rfl, ge200_0⟩ := hMe200
      have hv200_0 := hcc200 0 _ rfl
      rw [Nat.add_zero, show ((Kd.slice 3 (Kd.int .i64))).sz = 1 from rfl, Nat.mul_one] at hv200_0
      replace hv200_0 := Option.some.inj (hv200_0.symm.trans hx200_0)
      rw [hv200_0] at ge200_0
      have HL200_0 := Aside0.mk (show Kd.R (Kd.int .i64) 3 _ _ _ _ (rd_L2 t191 x427_2) from ge200_0)
      clear hv200_0 ge200_0
      clear hcc200 hce200
      have HR200_0 := Aside0.mk hi200_0
      have HC200_0 := Aside0.mk hl200_0
      clear hi200_0 hl200_0
      replace p200 := eq_true p200
      replace q200 := eq_true q200
      have hnb177 := NB106_134.out
      have hnc177 := NB134_106.out
      have hnb178 := NB106_138.out
      have hnc178 := NB138_106.out
      obtain ⟨hcz179_0, hcz179_1, hfz179_0, hfz179_1⟩ := zZ BK106
      go_wp2_with (first | ((with_reducible refine gate_callee (f := 12) rfl ?_); refine gL 435 Tryz.func12 #[.agg #[.int .i64 t102, .slice Ao52 t103.length co52], .slice A200_0 (rd_L2 t191 x427_2).length c200_0] ?_; (with_reducible refine (impl_IsWinning.calls k2 t102 _ _ t103 _ _ (rd_L2 t191 x427_2) t201 t202 _ ?side1 ?side2 ?side3 ?side4 A175.out).mono ?_); (case side1 => have hx_ := (Kd.R_reads' HO_107001.out).2.2; exact cC); (case side2 => exact (Kd.R_reads' HO_107001.out).2.1); (case side3 => repeat (first | exact (by repeat (first | (with_reducible exact HR200_0.out) | (with_reducible refine Kd.C_alloc ?_ _) | (with_reducible refine Kd.C_drewN ?_ _) | (with_reducible refine Kd.C_drew ?_) | exact HR200_0.out)) | (with_reducible refine Kd.C_alloc ?_ _) | (with_reducible refine Kd.C_drewN ?_ _) | (with_reducible refine Kd.C_drew ?_))); (case side4 => exact HC200_0.out); rintro e w180 ⟨rfl, hb⟩; refine ⟨_, rfl, ?_⟩; replace HO_6 := rB HO_6 hb; replace HO_10 := rB HO_10 hb; replace HO_14 := rB HO_14 hb; replace HO_22 := rB HO_22 hb; replace HO_26 := rB HO_26 hb; replace HO_30 := rB HO_30 hb; replace HO_38 := rB HO_38 hb; replace HO_42 := tB HO_42 hb; replace HO_44 := rB HO_44 hb; replace HO_319 := rB HO_319 hb; replace HO_425 := tB HO_425 hb; replace HO_107001 := rB HO_107001 hb; replace HL200_0 := rB HL200_0 hb; replace BK106 := bB BK106 hb; replace BK134 := bB BK134 hb; replace BK138 := bB BK138 hb; replace HR200_0 := Aside0.mk (Kd.C_below (by repeat (first | (with_reducible exact HR200_0.out) | (with_reducible refine Kd.C_alloc ?_ _) | (with_reducible refine Kd.C_drewN ?_ _) | (with_reducible refine Kd.C_drew ?_) | exact HR200_0.out)) hb); replace HB := sB HB hb; (try clear hb)) | ((with_reducible refine gate_dst (N := 438) rfl ?_); (try (refine gate_guard (by rfl) ?_; dsimp only)); refine Kd.R_lit (Kd.int .i64) _ 3 ?hg (N := 438) ?hd (xs := ([] : List Int)) (inner := []) (ok := fun _ => True) (okp := fun _ => True) ?hr ?hp (fun _ hk => hk) trivial (Below.refl _ _) (Nat.le_refl _) (by simp) ?_; (case hd => rfl); (case hg => rfl); (case hr => first | (go_simp; done) | (go_simp; rfl)); (case hp => exact (Reps.none _ _)); intro v204 w181 ho182 hb hg_ hnew_; clear hg_ hnew_; (first | rw [← Ny203.out] at ho182 | (simp only [Int.reduceToNat] at ho182; rw [← Ny203.out] at ho182)); have HO205 := Aside0.mk (Kd.R_lower (Kd.R_new' (Kd.R_new' (Kd.R_new' (Kd.R_new' (Kd.R_new' (Kd.R_new' ho182 (Kd.R_lt HO_6.out)) (Kd.R_lt HO_38.out)) (Kd.R_lt HO_44.out)) (Kd.R_lt HO_319.out)) (Kd.R_lt HO_107001.out)) (Kd.R_lt HL200_0.out)) (below_size HB.out)); replace HO_6 := rE HO_6 (Kd.R_base ho182) hb; replace HO_10 := rB HO_10 hb; replace HO_14 := rB HO_14 hb; replace HO_22 := rB HO_22 hb; replace HO_26 := rB HO_26 hb; replace HO_30 := rB HO_30 hb; replace HO_38 := rE HO_38 (Kd.R_base ho182) hb; replace HO_42 := tE HO_42 (Kd.R_base ho182) hb; replace HO_44 := rE HO_44 (Kd.R_base ho182) hb; replace HO_319 := rE HO_319 (Kd.R_base ho182) hb; replace HO_425 := tE HO_425 (Kd.R_base ho182) hb; replace HO_107001 := rE HO_107001 (Kd.R_base ho182) hb; replace HL200_0 := Aside0.mk (Kd.R_elder' HL200_0.out (Kd.R_base ho182) hb); replace BK106 := bB BK106 hb; replace BK134 := bB BK134 hb; replace BK138 := bB BK138 hb; replace HR200_0 := Aside0.mk (Kd.C_below (by repeat (first | (with_reducible exact HR200_0.out) | (with_reducible refine Kd.C_alloc ?_ _) | (with_reducible refine Kd.C_drewN ?_ _) | (with_reducible refine Kd.C_drew ?_) | exact HR200_0.out)) hb); replace HB := sB HB hb; clear hb ho182) | ((with_reducible refine gate_builtin (b := .append) (xs := #[.tmp 438, .tmp 439]) rfl ?_); (try (refine gate_guard (by rfl) ?_; dsimp only)); at_builtin; refine Kd.R_append_rows (Kd.int .i64) (w0 := w) w.heap.size rfl (.tmp 438) (.tmp 439) 24 3 (.int .i64 0) 8 rfl Tryz.underlying24 info3 rfl (by decide) (by omega) v204 y203 (rd_L2 t191 x427_2) _ _ _ (fun k_ => nb (.slice (some ad178) t107.length co87) k_ ∧ nb (.slice Ao163 t172.length co163) k_ ∧ nb (.slice Ao171 t195.length co171) k_ ∧ nb (.slice (some ad178) t107.length co87) k_ ∧ nb (.slice Ao52 t103.length co52) k_ ∧ some k_ ≠ (.slice A200_0 (rd_L2 t191 x427_2).length c200_0 : Value).ownBlock) (fun _ => False) rfl rfl ?aO ?aR (fun _ _ h => h) (fun _ h => h.elim) ?aF ?aB ?aS ?aL ?_; (case aR => repeat (first | exact (by repeat (first | (with_reducible exact HR200_0.out) | (with_reducible refine Kd.C_alloc ?_ _) | (with_reducible refine Kd.C_drewN ?_ _) | (with_reducible refine Kd.C_drew ?_) | exact HR200_0.out)) | (with_reducible refine Kd.C_alloc ?_ _) | (with_reducible refine Kd.C_drewN ?_ _) | (with_reducible refine Kd.C_drew ?_))); (case aB => exact HB.out); (case aF => exact (fun k_ hk => ⟨Kd.fresh' (Kd.R_lt HO_6.out) k_ hk, Kd.fresh' (Kd.R_lt HO_38.out) k_ hk, Kd.fresh' (Kd.R_lt HO_44.out) k_ hk, Kd.fresh' (Kd.R_lt HO_319.out) k_ hk, Kd.fresh' (Kd.R_lt HO_107001.out) k_ hk, Kd.fresh' (Kd.R_lt HL200_0.out) k_ hk⟩)); (case aO => exact (by exact Kd.R_mono HO205.out (fun _ hk => ⟨hk.1.1.1.1.1.2, ⟨hk.1.1.1.1.2, ⟨hk.1.1.1.2, ⟨hk.1.1.2, ⟨hk.1.2, hk.2⟩⟩⟩⟩⟩))); (case aS => exact (below_size HB.out)); (case aL => have := LMc176.out; omega); intro v207 w183 ho hb hg hat; rw [← Ny206.out] at ho; have HO208 := Aside0.mk (ho); replace HO_6 := Aside0.mk (Kd.R_after (ok := (fun k_ => nb (.slice Ao163 t172.length co163) k_ ∧ nb (.slice Ao171 t195.length co171) k_ ∧ nb (.slice Ao52 t103.length co52) k_)) HO_6.out hg hat); replace HO_10 := Aside0.mk (Kd.R_over' HO_10.out (Kd.R_typed HO205.out) (by decide) hg); replace HO_14 := Aside0.mk (Kd.R_over' HO_14.out (Kd.R_typed HO205.out) (by decide) hg); replace HO_22 := Aside0.mk (Kd.R_over' HO_22.out (Kd.R_typed HO205.out) (by decide) hg); replace HO_26 := Aside0.mk (Kd.R_over' HO_26.out (Kd.R_typed HO205.out) (by decide) hg); replace HO_30 := Aside0.mk (Kd.R_over' HO_30.out (Kd.R_typed HO205.out) (by decide) hg); replace HO_38 := Aside0.mk (Kd.R_after (ok := (fun k_ => nb (.slice (some ad178) t107.length co87) k_ ∧ nb (.slice Ao171 t195.length co171) k_ ∧ nb (.slice (some ad178) t107.length co87) k_ ∧ nb (.slice Ao52 t103.length co52) k_)) HO_38.out hg hat); replace HO_42 := Aside0.mk (Kd.S_after (ok := (fun k_ => nb (.slice (some ad178) t107.length co87) k_ ∧ nb (.slice Ao163 t172.length co163) k_ ∧ nb (.slice Ao171 t195.length co171) k_ ∧ nb (.slice (some ad178) t107.length co87) k_ ∧ nb (.slice Ao52 t103.length co52) k_)) HO_42.out hg hat); replace HO_44 := Aside0.mk (Kd.R_after (ok := (fun k_ => nb (.slice (some ad178) t107.length co87) k_ ∧ nb (.slice Ao163 t172.length co163) k_ ∧ nb (.slice (some ad178) t107.length co87) k_ ∧ nb (.slice Ao52 t103.length co52) k_)) HO_44.out hg hat); replace HO_319 := Aside0.mk (Kd.R_after (ok := (fun k_ => nb (.slice Ao163 t172.length co163) k_ ∧ nb (.slice Ao171 t195.length co171) k_ ∧ nb (.slice Ao52 t103.length co52) k_)) HO_319.out hg hat); replace HO_425 := Aside0.mk (Kd.S_after (ok := (fun k_ => nb (.slice (some ad178) t107.length co87) k_ ∧ nb (.slice Ao163 t172.length co163) k_ ∧ nb (.slice Ao171 t195.length co171) k_ ∧ nb (.slice (some ad178) t107.length co87) k_ ∧ nb (.slice Ao52 t103.length co52) k_)) HO_425.out hg hat); replace HO_107001 := Aside0.mk (Kd.R_after (ok := (fun k_ => nb (.slice (some ad178) t107.length co87) k_ ∧ nb (.slice Ao163 t172.length co163) k_ ∧ nb (.slice Ao171 t195.length co171) k_ ∧ nb (.slice (some ad178) t107.length co87) k_)) HO_107001.out hg hat); replace BK106 := Aside0.mk (blk_grown (g := gb106) (o := .cells #[.int .i64 t102, .slice Ao52 t103.length co52] 26 (0, 0)) BK106.out hg (Kd.R_ne HO205.out BK106.out (by decide))); replace BK134 := Aside0.mk (blk_grown (g := gb134) (o := .cells #[.int .i64 t131, .int .i64 t132] 60 (0, 0)) BK134.out hg (Kd.R_ne HO205.out BK134.out (by decide))); replace BK138 := Aside0.mk (blk_grown (g := gb138) (o := .cells #[.int .i64 t135, .int .i64 t136] 60 (0, 0)) BK138.out hg (Kd.R_ne HO205.out BK138.out (by decide))); replace HL200_0 := Aside0.mk (Kd.R_after (ok := (fun k_ => nb (.slice (some ad178) t107.length co87) k_ ∧ nb (.slice Ao163 t172.length co163) k_ ∧ nb (.slice Ao171 t195.length co171) k_ ∧ nb (.slice (some ad178) t107.length co87) k_ ∧ nb (.slice (some ad200) t191.length co170) k_ ∧ nb (.slice Ao52 t103.length co52) k_)) (by exact Kd.R_mono HL200_0.out (fun _ hk => ⟨⟨hk.1.1.1, ⟨hk.1.1.2.1, ⟨hk.1.1.2.2.1, ⟨hk.1.1.2.2.2.1, ⟨hk.1.2, hk.1.1.2.2.2.2⟩⟩⟩⟩⟩, hk.2⟩)) hg hat); replace HB := Aside0.mk (hb); clear ho hb hg hat))
      refine loopT_ [F,F,F,F,F,F,F,F,F,F,F,F,F,F,F,F,F,F,F,F,F,F,F,F,F,F,F,F,F,F,F,F,F,F,F,F,F,F,F,F,F,F,F,F,F,F,F,F,F,F,F,T,F,F,F,F,F,F,F,F,F,F,F,F,F,F,F,F,F,F,F,F,F,F,F,F,F,F,F,F,F,F,F,F,F,F,F,F,F,F,F,F,F,F,F,F,F,F,F,F,F,F,F,F,F,F,F,F,F,F,F,F,F,F,F,F,F,F,F,F,F,F,F,F,F,F,F,F,F,F,F,F,F,F,F,F,F,F,F,F,F,F,F,F,F,F,F,F,F,F,F,F,F,F,F,F,F,F,F,F,F,F,F,F,F,F,F,F,F,F,F,F,F,F,F,F,F,F,F,F,F,F,F,F,F,F,F,F,F,F,F,F,F,F,F,F,F,F,F,F,F,F,F,F,F,F,F,F,F,F,F,F,F,F,F,F,F,F,F,F,F,F,F,F,F,F,F,F,F,F,F,F,F,F,F,F,F,F,F,F,F,F,F,F,F,F,F,F,F,F,F,F,F,F,F,F,F,F,F,F,F,F,F,F,F,F,F,F,F,F,F,F,F,F,F,F,F,F,F,F,F,F,F,F,F,F,F,F,F,F,F,F,F,F,F,F,F,F,F,F,F,F,F,F,F,F,F,F,F,F,F,F,F,F,F,F,F,F,F,F,F,F,F,F,F,F,F,F,F,F,F,F,F,F,F,F,F,F,F,F,F,F,F,F,F,F,F,F,F,F,F,F,F,F,F,F,F,F,F,F,F,F,F,F,F,F,F,F,F,F,F,F,F,F,F,F,F,F,F,F,F,F,F,F,F,F,F,F,F,F,F,F,F,F,F,F,F,F,F,F,F,F,F,F,F,F,F,F,F,F,F,F,F,F,F,F,F,F,F,F,F,F,F,F,F,F,F,F,F,F,F,F,F,F,F,F,F,F,F,F,F,T,T,T,T,T,T,T,T,T,T,T,T,T,T] k2 (fun kq_ T_ w_ => (fun kq v51 w' => ∃ (x51_3 : Int), v51 = .int .i64 x51_3 ∧ Aside0 (laws_FnSwingsTold.l2 kq l1 t107 t115 t123 t139 t147 t155 (t103.length : Int) ji104 t170 t172 x321_1 t191 t195 x427_2 (rd_L2 t191 x427_2) t201 t202 y206 x51_3 t107 (t107.length : Int) x321_1 t191 (t191.length : Int) x427_2 t102 t103 = some r) ∧ Aside0 (kq ≤ k2) ∧ Aside0 (Kd.R (Kd.int .i64) 3 w' w.heap.size (fun k_ => nb (.slice Ao163 t172.length co163) k_ ∧ nb (.slice Ao171 t195.length co171) k_ ∧ nb v207 k_ ∧ nb (.slice Ao52 t103.length co52) k_) (.slice (some ad178) t107.length co87) t107) ∧ Aside0 (Kd.R k60 60 w' w.heap.size (fun k_ => nb (.slice (some ad181) t123.length co91) k_ ∧ nb (.slice (some ad184) t139.length co95) k_ ∧ nb (.slice (some ad186) t147.length co97) k_ ∧ nb (.slice (some ad188) t155.length co99) k_ ∧ k_ ≠ gb134 ∧ k_ ≠ gb138) (.slice (some ad179) t115.length co89) t115) ∧ Aside0 (Kd.R k60 60 w' w.heap.size (fun k_ => nb (.slice (some ad179) t115.length co89) k_ ∧ nb (.slice (some ad184) t139.length co95) k_ ∧ nb (.slice (some ad186) t147.length co97) k_ ∧ nb (.slice (some ad188) t155.length co99) k_ ∧ k_ ≠ gb134 ∧ k_ ≠ gb138) (.slice (some ad181) t123.length co91) t123) ∧ Aside0 (Kd.R k60 60 w' w.heap.size (fun k_ => nb (.slice (some ad179) t115.length co89) k_ ∧ nb (.slice (some ad181) t123.length co91) k_ ∧ nb (.slice (some ad186) t147.length co97) k_ ∧ nb (.slice (some ad188) t155.length co99) k_ ∧ k_ ≠ gb134 ∧ k_ ≠ gb138) (.slice (some ad184) t139.length co95) t139) ∧ Aside0 (Kd.R k60 60 w' w.heap.size (fun k_ => nb (.slice (some ad179) t115.length co89) k_ ∧ nb (.slice (some ad181) t123.length co91) k_ ∧ nb (.slice (some ad184) t139.length co95) k_ ∧ nb (.slice (some ad188) t155.length co99) k_ ∧ k_ ≠ gb134 ∧ k_ ≠ gb138) (.slice (some ad186) t147.length co97) t147) ∧ Aside0 (Kd.R k60 60 w' w.heap.size (fun k_ => nb (.slice (some ad179) t115.length co89) k_ ∧ nb (.slice (some ad181) t123.length co91) k_ ∧ nb (.slice (some ad184) t139.length co95) k_ ∧ nb (.slice (some ad186) t147.length co97) k_ ∧ k_ ≠ gb134 ∧ k_ ≠ gb138) (.slice (some ad188) t155.length co99) t155) ∧ Aside0 (Kd.R (Kd.int .i64) 3 w' w.heap.size (fun k_ => nb (.slice (some ad178) t107.length co87) k_ ∧ nb (.slice Ao171 t195.length co171) k_ ∧ nb v207 k_ ∧ nb (.slice (some ad178) t107.length co87) k_ ∧ nb (.slice Ao52 t103.length co52) k_) (.slice Ao163 t172.length co163) t172) ∧ Aside0 (Kd.S (Kd.slice 3 (Kd.int .i64)) 24 w' w.heap.size (fun k_ => nb (.slice (some ad178) t107.length co87) k_ ∧ nb (.slice Ao163 t172.length co163) k_ ∧ nb (.slice Ao171 t195.length co171) k_ ∧ nb v207 k_ ∧ nb (.slice (some ad178) t107.length co87) k_ ∧ nb (.slice Ao52 t103.length co52) k_) (.slice (some ad200) t191.length co170) t191) ∧ Aside0 (Kd.R (Kd.int .i64) 3 w' w.heap.size (fun k_ => nb (.slice (some ad178) t107.length co87) k_ ∧ nb (.slice Ao163 t172.length co163) k_ ∧ nb v207 k_ ∧ nb (.slice (some ad178) t107.length co87) k_ ∧ nb (.slice Ao52 t103.length co52) k_) (.slice Ao171 t195.length co171) t195) ∧ Aside0 (Kd.R (Kd.int .i64) 3 w' w.heap.size (fun k_ => nb (.slice (some ad178) t107.length co87) k_ ∧ nb (.slice Ao163 t172.length co163) k_ ∧ nb (.slice Ao171 t195.length co171) k_ ∧ nb (.slice (some ad178) t107.length co87) k_ ∧ nb (.slice Ao52 t103.length co52) k_) v207 y206) ∧ Aside0 (Kd.R (Kd.int .i64) 3 w' w.heap.size (fun k_ => nb (.slice Ao163 t172.length co163) k_ ∧ nb (.slice Ao171 t195.length co171) k_ ∧ nb v207 k_ ∧ nb (.slice Ao52 t103.length co52) k_) (.slice (some ad178) t107.length co87) t107) ∧ Aside0 (Kd.S (Kd.slice 3 (Kd.int .i64)) 24 w' w.heap.size (fun k_ => nb (.slice (some ad178) t107.length co87) k_ ∧ nb (.slice Ao163 t172.length co163) k_ ∧ nb (.slice Ao171 t195.length co171) k_ ∧ nb v207 k_ ∧ nb (.slice (some ad178) t107.length co87) k_ ∧ nb (.slice Ao52 t103.length co52) k_) (.slice (some ad200) t191.length co170) t191) ∧ Aside0 (Kd.R (Kd.int .i64) 3 w' w.heap.size (fun k_ => nb (.slice (some ad178) t107.length co87) k_ ∧ nb (.slice Ao163 t172.length co163) k_ ∧ nb (.slice Ao171 t195.length co171) k_ ∧ nb v207 k_ ∧ nb (.slice (some ad178) t107.length co87) k_ ∧ nb (.slice Ao52 t103.length co52) k_) (.slice A200_0 (rd_L2 t191 x427_2).length c200_0) (rd_L2 t191 x427_2)) ∧ Aside0 (Kd.R (Kd.int .i64) 3 w' w.heap.size (fun k_ => nb (.slice (some ad178) t107.length co87) k_ ∧ nb (.slice Ao163 t172.length co163) k_ ∧ nb (.slice Ao171 t195.length co171) k_ ∧ nb v207 k_ ∧ nb (.slice (some ad178) t107.length co87) k_) (.slice Ao52 t103.length co52) t103) ∧ Aside0 (w'.heap[gb106]? = some (.cells #[.int .i64 t102, (.slice Ao52 t103.length co52)] 26 (0, 0))) ∧ Aside0 (w'.heap[gb134]? = some (.cells #[.int .i64 t131, .int .i64 t132] 60 (0, 0))) ∧ Aside0 (w'.heap[gb138]? = some (.cells #[.int .i64 t135, .int .i64 t136] 60 (0, 0))) ∧ Aside0 (Below w.heap.size w w')) kq_ (T_ 51) w_) (by kernel_rfl) ?atStart ?round
      case atStart => exact ⟨(0), gR, H', ⟨Nat.le_refl _⟩, ⟨by exact Kd.R_mono HO_6.out (fun _ hk => by first | exact ⟨hk.1.1, ⟨hk.1.2.1, ⟨hk.2, hk.1.2.2⟩⟩⟩ | simp_all)⟩, ⟨by exact HO_10.out⟩, ⟨by exact HO_14.out⟩, ⟨by exact HO_22.out⟩, ⟨by exact HO_26.out⟩, ⟨by exact HO_30.out⟩, ⟨by exact Kd.R_mono HO_38.out (fun _ hk => by first | exact ⟨hk.1.1, ⟨hk.1.2.1, ⟨hk.2, ⟨hk.1.2.2.1, hk.1.2.2.2⟩⟩⟩⟩ | simp_all)⟩, ⟨by exact Kd.S_mono HO_42.out (fun _ hk => by first | exact ⟨hk.1.1, ⟨hk.1.2.1, ⟨hk.1.2.2.1, ⟨hk.2, ⟨hk.1.2.2.2.1, hk.1.2.2.2.2⟩⟩⟩⟩⟩ | simp_all)⟩, ⟨by exact Kd.R_mono HO_44.out (fun _ hk => by first | exact ⟨hk.1.1, ⟨hk.1.2.1, ⟨hk.2, ⟨hk.1.2.2.1, hk.1.2.2.2⟩⟩⟩⟩ | simp_all)⟩, ⟨by exact Kd.R_mono HO208.out (fun _ hk => by first | exact ⟨hk.1, ⟨hk.2.1, ⟨hk.2.2.1, ⟨hk.2.2.2.1, hk.2.2.2.2.1⟩⟩⟩⟩ | simp_all)⟩, ⟨by exact Kd.R_mono HO_319.out (fun _ hk => by first | exact ⟨hk.1.1, ⟨hk.1.2.1, ⟨hk.2, hk.1.2.2⟩⟩⟩ | simp_all)⟩, ⟨by exact Kd.S_mono HO_425.out (fun _ hk => by first | exact ⟨hk.1.1, ⟨hk.1.2.1, ⟨hk.1.2.2.1, ⟨hk.2, ⟨hk.1.2.2.2.1, hk.1.2.2.2.2⟩⟩⟩⟩⟩ | simp_all)⟩, ⟨by exact Kd.R_mono HL200_0.out (fun _ hk => by first | exact ⟨hk.1.1, ⟨hk.1.2.1, ⟨hk.1.2.2.1, ⟨hk.2, ⟨hk.1.2.2.2.1, hk.1.2.2.2.2⟩⟩⟩⟩⟩ | simp_all)⟩, ⟨by exact Kd.R_mono HO_107001.out (fun _ hk => by first | exact ⟨hk.1.1, ⟨hk.1.2.1, ⟨hk.1.2.2.1, ⟨hk.2, hk.1.2.2.2⟩⟩⟩⟩ | simp_all)⟩, ⟨by exact BK106.out⟩, ⟨by exact BK134.out⟩, ⟨by exact BK138.out⟩, ⟨wB⟩⟩
      case round => as_aux_lemma =>
       intro gk T_ wr hrel J_ K_ hJ_l2 hM_
       simp only [putT, putM, T, F, Nat.reduceAdd]
       (try dsimp only at hrel)
       generalize T_ 51 = u51 at hrel ⊢
       clear H'
       (try clear c1); (try clear c2); (try clear p2); (try clear q2); (try clear hx2); (try clear p6); (try clear c7); (try clear c12); (try clear c16); (try clear c17); (try clear c20); (try clear p20); (try clear q20); (try clear hx20); (try clear p64); (try clear c72); (try clear c74); (try clear c75); (try clear c76); (try clear c164); (try clear c165); (try clear c172); (try clear c172b0); (try clear c173); (try clear c173b0); (try clear c174); (try clear c174b0); (try clear c176); (try clear c177); (try clear c178); (try clear hcz168_0); (try clear hcz168_1); (try clear hcz179_0); (try clear hcz179_1); (try clear hfz168_0); (try clear hfz168_1); (try clear hfz179_0); (try clear hfz179_1); (try clear hx200_0); (try clear p2); (try clear p200); (try clear p6); (try clear p64); (try clear q200)
       obtain ⟨x51_3, rfl, HA, HK3, HO_6, HO_10, HO_14, HO_22, HO_26, HO_30, HO_38, HO_42, HO_44, HO_50, HO_319, HO_425, HL200_0, HO_107001, BK106, BK134, BK138, HB⟩ := hrel
       cases gk with
       | zero => exact absurd HA.out (by simp [laws_FnSwingsTold.l2])
       | succ k3 =>
        have H := HA.out
        clear HA
        simp only [laws_FnSwingsTold.l2] at H
        have HC184 := Aside0.mk H
        clear H
        go_upto_region 42 with (fail)
        refine cutT_ [F,F,F,F,F,F,F,F,F,F,F,F,F,F,F,F,F,F,F,F,F,F,F,F,F,F,F,F,F,F,F,F,F,F,F,F,F,F,F,F,F,F,F,F,F,F,F,F,F,F,F,F,F,F,F,F,F,F,F,F,F,F,F,F,F,F,F,F,F,F,F,F,F,F,F,F,F,F,F,F,F,F,F,F,F,F,F,F,F,F,F,F,F,F,F,F,F,F,F,F,F,F,F,F,F,F,F,F,F,F,F,F,F,F,F,F,F,F,F,F,F,F,F,F,F,F,F,F,F,F,F,F,F,F,F,F,F,F,F,F,F,F,F,F,F,F,F,F,F,F,F,F,F,F,F,F,F,F,F,F,F,F,F,F,F,F,F,F,F,F,F,F,F,F,F,F,F,F,F,F,F,F,F,F,F,F,F,F,F,F,F,F,F,F,F,F,F,F,F,F,F,F,F,F,F,F,F,F,F,F,F,F,F,F,F,F,F,F,F,F,F,F,F,F,F,F,F,F,F,F,F,F,F,F,F,F,F,F,F,F,F,F,F,F,F,F,F,F,F,F,F,F,F,F,F,F,F,F,F,F,F,F,F,F,F,F,F,F,F,F,F,F,F,F,F,F,F,F,F,F,F,F,F,F,F,F,F,F,F,F,F,F,F,F,F,F,F,F,F,F,F,F,F,F,F,F,F,F,F,F,F,F,F,F,F,F,F,F,F,F,F,F,F,F,F,F,F,F,F,F,F,F,F,F,F,F,F,F,F,F,F,F,F,F,F,F,F,F,F,F,F,F,F,F,F,F,F,F,F,F,F,F,F,F,F,F,F,F,F,F,F,F,F,F,F,F,F,F,F,F,F,F,F,F,F,F,F,F,F,F,F,F,F,F,F,F,F,F,F,F,F,F,F,F,F,F,F,F,F,F,F,F,F,F,F,F,F,F,F,F,F,F,F,F,F,F,F,F,F,F,F,F,F,F,F,F,F,F,F,F,F,T,T,T,T,T,T,T,T,T,T,T,T] (fun T_ wc_ => (fun v452 wc => ∃ (kq : Nat) (x452_183 : Bool), v452 = .bool x452_183 ∧ Aside0 (laws_FnSwingsTold.j3 kq l1 t107 t115 t123 t139 t147 t155 (t103.length : Int) ji104 t170 t172 x321_1 t191 t195 x427_2 (rd_L2 t191 x427_2) t201 t202 y206 x51_3 t107 (t107.length : Int) x321_1 t191 (t191.length : Int) x427_2 x452_183 t102 t103 = some r) ∧ Aside0 (kq ≤ k3) ∧ Aside0 (Kd.R (Kd.int .i64) 3 wc w.heap.size (fun k_ => nb (.slice Ao163 t172.length co163) k_ ∧ nb (.slice Ao171 t195.length co171) k_ ∧ nb v207 k_ ∧ nb (.slice Ao52 t103.length co52) k_) (.slice (some ad178) t107.length co87) t107) ∧ Aside0 (Kd.R k60 60 wc w.heap.size (fun k_ => nb (.slice (some ad181) t123.length co91) k_ ∧ nb (.slice (some ad184) t139.length co95) k_ ∧ nb (.slice (some ad186) t147.length co97) k_ ∧ nb (.slice (some ad188) t155.length co99) k_ ∧ k_ ≠ gb134 ∧ k_ ≠ gb138) (.slice (some ad179) t115.length co89) t115) ∧ Aside0 (Kd.R k60 60 wc w.heap.size (fun k_ => nb (.slice (some ad179) t115.length co89) k_ ∧ nb (.slice (some ad184) t139.length co95) k_ ∧ nb (.slice (some ad186) t147.length co97) k_ ∧ nb (.slice (some ad188) t155.length co99) k_ ∧ k_ ≠ gb134 ∧ k_ ≠ gb138) (.slice (some ad181) t123.length co91) t123) ∧ Aside0 (Kd.R k60 60 wc w.heap.size (fun k_ => nb (.slice (some ad179) t115.length co89) k_ ∧ nb (.slice (some ad181) t123.length co91) k_ ∧ nb (.slice (some ad186) t147.length co97) k_ ∧ nb (.slice (some ad188) t155.length co99) k_ ∧ k_ ≠ gb134 ∧ k_ ≠ gb138) (.slice (some ad184) t139.length co95) t139) ∧ Aside0 (Kd.R k60 60 wc w.heap.size (fun k_ => nb (.slice (some ad179) t115.length co89) k_ ∧ nb (.slice (some ad181) t123.length co91) k_ ∧ nb (.slice (some ad184) t139.length co95) k_ ∧ nb (.slice (some ad188) t155.length co99) k_ ∧ k_ ≠ gb134 ∧ k_ ≠ gb138) (.slice (some ad186) t147.length co97) t147) ∧ Aside0 (Kd.R k60 60 wc w.heap.size (fun k_ => nb (.slice (some ad179) t115.length co89) k_ ∧ nb (.slice (some ad181) t123.length co91) k_ ∧ nb (.slice (some ad184) t139.length co95) k_ ∧ nb (.slice (some ad186) t147.length co97) k_ ∧ k_ ≠ gb134 ∧ k_ ≠ gb138) (.slice (some ad188) t155.length co99) t155) ∧ Aside0 (Kd.R (Kd.int .i64) 3 wc w.heap.size (fun k_ => nb (.slice (some ad178) t107.length co87) k_ ∧ nb (.slice Ao171 t195.length co171) k_ ∧ nb v207 k_ ∧ nb (.slice (some ad178) t107.length co87) k_ ∧ nb (.slice Ao52 t103.length co52) k_) (.slice Ao163 t172.length co163) t172) ∧ Aside0 (Kd.S (Kd.slice 3 (Kd.int .i64)) 24 wc w.heap.size (fun k_ => nb (.slice (some ad178) t107.length co87) k_ ∧ nb (.slice Ao163 t172.length co163) k_ ∧ nb (.slice Ao171 t195.length co171) k_ ∧ nb v207 k_ ∧ nb (.slice (some ad178) t107.length co87) k_ ∧ nb (.slice Ao52 t103.length co52) k_) (.slice (some ad200) t191.length co170) t191) ∧ Aside0 (Kd.R (Kd.int .i64) 3 wc w.heap.size (fun k_ => nb (.slice (some ad178) t107.length co87) k_ ∧ nb (.slice Ao163 t172.length co163) k_ ∧ nb v207 k_ ∧ nb (.slice (some ad178) t107.length co87) k_ ∧ nb (.slice Ao52 t103.length co52) k_) (.slice Ao171 t195.length co171) t195) ∧ Aside0 (Kd.R (Kd.int .i64) 3 wc w.heap.size (fun k_ => nb (.slice (some ad178) t107.length co87) k_ ∧ nb (.slice Ao163 t172.length co163) k_ ∧ nb (.slice Ao171 t195.length co171) k_ ∧ nb (.slice (some ad178) t107.length co87) k_ ∧ nb (.slice Ao52 t103.length co52) k_) v207 y206) ∧ Aside0 (Kd.R (Kd.int .i64) 3 wc w.heap.size (fun k_ => nb (.slice Ao163 t172.length co163) k_ ∧ nb (.slice Ao171 t195.length co171) k_ ∧ nb v207 k_ ∧ nb (.slice Ao52 t103.length co52) k_) (.slice (some ad178) t107.length co87) t107) ∧ Aside0 (Kd.S (Kd.slice 3 (Kd.int .i64)) 24 wc w.heap.size (fun k_ => nb (.slice (some ad178) t107.length co87) k_ ∧ nb (.slice Ao163 t172.length co163) k_ ∧ nb (.slice Ao171 t195.length co171) k_ ∧ nb v207 k_ ∧ nb (.slice (some ad178) t107.length co87) k_ ∧ nb (.slice Ao52 t103.length co52) k_) (.slice (some ad200) t191.length co170) t191) ∧ Aside0 (Kd.R (Kd.int .i64) 3 wc w.heap.size (fun k_ => nb (.slice (some ad178) t107.length co87) k_ ∧ nb (.slice Ao163 t172.length co163) k_ ∧ nb (.slice Ao171 t195.length co171) k_ ∧ nb v207 k_ ∧ nb (.slice (some ad178) t107.length co87) k_ ∧ nb (.slice Ao52 t103.length co52) k_) (.slice A200_0 (rd_L2 t191 x427_2).length c200_0) (rd_L2 t191 x427_2)) ∧ Aside0 (Kd.R (Kd.int .i64) 3 wc w.heap.size (fun k_ => nb (.slice (some ad178) t107.length co87) k_ ∧ nb (.slice Ao163 t172.length co163) k_ ∧ nb (.slice Ao171 t195.length co171) k_ ∧ nb v207 k_ ∧ nb (.slice (some ad178) t107.length co87) k_) (.slice Ao52 t103.length co52) t103) ∧ Aside0 (wc.heap[gb106]? = some (.cells #[.int .i64 t102, (.slice Ao52 t103.length co52)] 26 (0, 0))) ∧ Aside0 (wc.heap[gb134]? = some (.cells #[.int .i64 t131, .int .i64 t132] 60 (0, 0))) ∧ Aside0 (wc.heap[gb138]? = some (.cells #[.int .i64 t135, .int .i64 t136] 60 (0, 0))) ∧ Aside0 (Below w.heap.size w wc)) (T_ 452) wc_) ?restj3 ?firstj3
        case firstj3 => as_aux_lemma =>
         intro J_ K_ hJ_j3 hM_
         have H := HC184.out
         clear HC184
         by_cases c185 : x51_3 < (y206.length : Int)
         rotate_left
         ·rw [if_neg c185] at H
          have c185b0 : decide (x51_3 < (y206.length : Int)) = false := decide_eq_false c185
          clear c185
          (first | rw [c185b0] | (simp only [i64_w, i32_w]; rw [c185b0]) | skip)
          as_aux_lemma =>
           have H' := Aside0.mk H
           clear H
           obtain ⟨Ao188, co188, eo188⟩ := Kd.R_slice HO_50.out
           subst eo188
           go_wp2
           refine meetT_ hJ_j3 (by kernel_rfl) ?rel
           case rel => exact ⟨_, (false), gR, H', ⟨by have := HK1.out; have := HK2.out; have := HK3.out; first | omega | exact Nat.le_refl _⟩, ⟨by exact HO_6.out⟩, ⟨by exact HO_10.out⟩, ⟨by exact HO_14.out⟩, ⟨by exact HO_22.out⟩, ⟨by exact HO_26.out⟩, ⟨by exact HO_30.out⟩, ⟨by exact HO_38.out⟩, ⟨by exact HO_42.out⟩, ⟨by exact HO_44.out⟩, ⟨by exact HO_50.out⟩, ⟨by exact HO_319.out⟩, ⟨by exact HO_425.out⟩, ⟨by exact HL200_0.out⟩, ⟨by exact HO_107001.out⟩, ⟨by exact BK106.out⟩, ⟨by exact BK134.out⟩, ⟨by exact BK138.out⟩, ⟨wB⟩⟩
         rw [if_pos c185] at H
         have c185b0 := decide_eq_true c185
         clear c185
         (first | rw [c185b0] | (simp only [i64_w, i32_w]; rw [c185b0]) | skip)
         replace H := ite_yes H
         obtain ⟨c186, H⟩ := H
         have c186b0 : decide (0 ≤ x51_3) = true := decide_eq_true c186
         clear c186
         as_aux_lemma =>
          have H' := Aside0.mk H
          clear H
          obtain ⟨Ao187, co187, eo187⟩ := Kd.R_slice HO_50.out
          subst eo187
          have p209 : 0 ≤ (x51_3 : Int) := oD
          have q209 : x51_3 < (y206.length : Int) := oD
          obtain ⟨ad209, e209, hx209_0⟩ := Kd.at_int (Kd.R_reads' HO_50.out).2.2 x51_3 p209 q209
          cases e209
          replace p209 := eq_true p209
          replace q209 := eq_true q209
          go_wp2
          refine meetT_ hJ_j3 (by kernel_rfl) ?rel
          case rel => exact ⟨_, (decide ((rd y206 x51_3) < x321_1)), gR, H', ⟨by have := HK1.out; have := HK2.out; have := HK3.out; first | omega | exact Nat.le_refl _⟩, ⟨by exact HO_6.out⟩, ⟨by exact HO_10.out⟩, ⟨by exact HO_14.out⟩, ⟨by exact HO_22.out⟩, ⟨by exact HO_26.out⟩, ⟨by exact HO_30.out⟩, ⟨by exact HO_38.out⟩, ⟨by exact HO_42.out⟩, ⟨by exact HO_44.out⟩, ⟨by exact HO_50.out⟩, ⟨by exact HO_319.out⟩, ⟨by exact HO_425.out⟩, ⟨by exact HL200_0.out⟩, ⟨by exact HO_107001.out⟩, ⟨by exact BK106.out⟩, ⟨by exact BK134.out⟩, ⟨by exact BK138.out⟩, ⟨wB⟩⟩
        case restj3 => as_aux_lemma =>
         intro T_ wc hcut
         simp only [putT, putM, T, F, Nat.reduceAdd]
         (try dsimp only at hcut)
         generalize T_ 452 = u452 at hcut ⊢
         clear HC184
         (try clear c1); (try clear c2); (try clear p2); (try clear q2); (try clear hx2); (try clear p6); (try clear c7); (try clear c12); (try clear c16); (try clear c17); (try clear c18); (try clear c20); (try clear p20); (try clear q20); (try clear hx20); (try clear p64); (try clear c72); (try clear c74); (try clear c75); (try clear c76); (try clear c164); (try clear c165); (try clear c172); (try clear c172b0); (try clear c173); (try clear c173b0); (try clear c174); (try clear c174b0); (try clear c176); (try clear c177); (try clear c178); (try clear c185); (try clear c185b0); (try clear c186); (try clear c186b0); (try clear hcz168_0); (try clear hcz168_1); (try clear hcz179_0); (try clear hcz179_1); (try clear hfz168_0); (try clear hfz168_1); (try clear hfz179_0); (try clear hfz179_1); (try clear hx200_0); (try clear hx209_0); (try clear p2); (try clear p20); (try clear p200); (try clear p209); (try clear p6); (try clear p64); (try clear q2); (try clear q20); (try clear q200); (try clear q209)
         obtain ⟨kq, x452_183, rfl, HA, HJ183, HO_6, HO_10, HO_14, HO_22, HO_26, HO_30, HO_38, HO_42, HO_44, HO_50, HO_319, HO_425, HL200_0, HO_107001, BK106, BK134, BK138, HB⟩ := hcut
         cases kq with
         | zero => exact absurd HA.out (by simp [laws_FnSwingsTold.j3])
         | succ kj183 =>
          have H := HA.out
          clear HA
          simp only [laws_FnSwingsTold.j3] at H
          by_cases c189 : x452_183 = true
          ·subst c189
           replace H := iT H
           as_aux_lemma =>
            have H' := Aside0.mk H
            clear H
            go_wp2
            refine roundT_ kj183 ?measure hJ_l2 (by kernel_rfl) ?rel
            case measure => have := HK1.out; have := HK2.out; have := HK3.out; have := HJ183.out; omega
            case rel => exact ⟨(wrap64 (x51_3 + 1)), gR, H', ⟨by have := HK1.out; have := HK2.out; have := HK3.out; have := HJ183.out; omega⟩, ⟨by exact HO_6.out⟩, ⟨by exact HO_10.out⟩, ⟨by exact HO_14.out⟩, ⟨by exact HO_22.out⟩, ⟨by exact HO_26.out⟩, ⟨by exact HO_30.out⟩, ⟨by exact HO_38.out⟩, ⟨by exact HO_42.out⟩, ⟨by exact HO_44.out⟩, ⟨by exact HO_50.out⟩, ⟨by exact HO_319.out⟩, ⟨by exact HO_425.out⟩, ⟨by exact HL200_0.out⟩, ⟨by exact HO_107001.out⟩, ⟨by exact BK106.out⟩, ⟨by exact BK134.out⟩, ⟨by exact BK138.out⟩, ⟨wB⟩⟩
          replace c189 := Bool.eq_false_iff.mpr c189
          subst c189
          replace H := iF H
          obtain ⟨y210, hy210⟩ : ∃ y_ : List Int, y_ = (([] : List Int)) := ⟨_, rfl⟩
          replace H : (if 0 ≤ x51_3 then (if x51_3 ≤ ((rd_L2 t191 x427_2).length : Int) then (if y210.length + ((rd_L2 t191 x427_2).take (x51_3 : Int).toNat).length < 17592186044416 then ((some (y210 ++ ((rd_L2 t191 x427_2).take (x51_3 : Int).toNat) : List Int)).bind fun y214 => ((some (([x321_1] : List Int) : List Int)).bind fun y217 => (if y214.length + y217.length < 17592186044416 then ((some (y214 ++ y217 : List Int)).bind fun y220 => (if y220.length + ((rd_L2 t191 x427_2).drop (x51_3 : Int).toNat).length < 17592186044416 then ((impl_IsWinning.f kj183 t102 t103 (y220 ++ ((rd_L2 t191 x427_2).drop (x51_3 : Int).toNat))).bind fun bt227 => (if t202 = true then (if t201 = true then (none) else ((laws_zHas.f kj183 (rd_L2 t191 x427_2) x321_1).bind fun t229 => (if t229 = true then (none) else (if bt227.2 = true then (if bt227.1 = true then (if 0 ≤ ((rd_L2 t191 x427_2).length : Int) then (if ((rd_L2 t191 x427_2).length : Int) < (t195.length : Int) then (if (rd t195 ((rd_L2 t191 x427_2).length : Int)) < 1 then (none) else (if x427_2 > 0 then (if 0 ≤ (wrap64 (x427_2 - 1)) then (if (wrap64 (x427_2 - 1)) < (t191.length : Int) then ((laws_zLess.f kj183 (rd_L2 t191 (wrap64 (x427_2 - 1))) (rd_L2 t191 x427_2)).bind fun t232 => (laws_FnSwingsTold.j4 kj183 l1 t107 t115 t123 t139 t147 t155 (t103.length : Int) ji104 t170 t172 x321_1 t191 t195 t107 (t107.length : Int) x321_1 t191 (t191.length : Int) x427_2 (!t232) t102 t103)) else (none)) else (none)) else (laws_FnSwingsTold.j4 kj183 l1 t107 t115 t123 t139 t147 t155 (t103.length : Int) ji104 t170 t172 x321_1 t191 t195 t107 (t107.length : Int) x321_1 t191 (t191.length : Int) x427_2 false t102 t103))) else (none)) else (none)) else (none)) else (none))))) else (none))) else (none))) else (none)))) else (none)) else (none)) else (none)) = some r := by first | (rw [hy210]; with_reducible exact H) | (have H2_ := (Option.bind_some _ _).symm.trans H; rw [hy210]; with_reducible exact H2_) | (have H2_ := (Option.bind_some _ _).symm.trans H; with_reducible exact H2_) | with_reducible exact H | (rw [hy210]; exact H) | exact H
          have Ny210 := Aside0.mk hy210
          clear hy210
          replace H := ite_yes H
          obtain ⟨c190, H⟩ := H
          have c190b0 := eq_true c190
          have c190b1 : decide (0 ≤ x51_3) = true := decide_eq_true c190
          clear c190
          replace H := ite_yes H
          obtain ⟨c191, H⟩ := H
          have c191b0 := eq_true c191
          have c191b1 : decide (x51_3 ≤ ((rd_L2 t191 x427_2).length : Int)) = true := decide_eq_true c191
          clear c191
          replace H := ite_yes H
          obtain ⟨c192, H⟩ := H
          have LMc192 := Aside0.mk c192
          clear c192
          obtain ⟨y214, hy214⟩ : ∃ y_ : List Int, y_ = (y210 ++ ((rd_L2 t191 x427_2).take (x51_3 : Int).toNat)) := ⟨_, rfl⟩
          replace H : ((some (([x321_1] : List Int) : List Int)).bind fun y217 => (if y214.length + y217.length < 17592186044416 then ((some (y214 ++ y217 : List Int)).bind fun y220 => (if y220.length + ((rd_L2 t191 x427_2).drop (x51_3 : Int).toNat).length < 17592186044416 then ((impl_IsWinning.f kj183 t102 t103 (y220 ++ ((rd_L2 t191 x427_2).drop (x51_3 : Int).toNat))).bind fun bt227 => (if t202 = true then (if t201 = true then (none) else ((laws_zHas.f kj183 (rd_L2 t191 x427_2) x321_1).bind fun t229 => (if t229 = true then (none) else (if bt227.2 = true then (if bt227.1 = true then (if 0 ≤ ((rd_L2 t191 x427_2).length : Int) then (if ((rd_L2 t191 x427_2).length : Int) < (t195.length : Int) then (if (rd t195 ((rd_L2 t191 x427_2).length : Int)) < 1 then (none) else (if x427_2 > 0 then (if 0 ≤ (wrap64 (x427_2 - 1)) then (if (wrap64 (x427_2 - 1)) < (t191.length : Int) then ((laws_zLess.f kj183 (rd_L2 t191 (wrap64 (x427_2 - 1))) (rd_L2 t191 x427_2)).bind fun t232 => (laws_FnSwingsTold.j4 kj183 l1 t107 t115 t123 t139 t147 t155 (t103.length : Int) ji104 t170 t172 x321_1 t191 t195 t107 (t107.length : Int) x321_1 t191 (t191.length : Int) x427_2 (!t232) t102 t103)) else (none)) else (none)) else (laws_FnSwingsTold.j4 kj183 l1 t107 t115 t123 t139 t147 t155 (t103.length : Int) ji104 t170 t172 x321_1 t191 t195 t107 (t107.length : Int) x321_1 t191 (t191.length : Int) x427_2 false t102 t103))) else (none)) else (none)) else (none)) else (none))))) else (none))) else (none))) else (none))) = some r := by first | (rw [hy214]; with_reducible exact H) | (have H2_ := (Option.bind_some _ _).symm.trans H; rw [hy214]; with_reducible exact H2_) | (have H2_ := (Option.bind_some _ _).symm.trans H; with_reducible exact H2_) | with_reducible exact H | (rw [hy214]; exact H) | exact H
          have Ny214 := Aside0.mk hy214
          clear hy214
          obtain ⟨y217, hy217⟩ : ∃ y_ : List Int, y_ = (([x321_1] : List Int)) := ⟨_, rfl⟩
          replace H : (if y214.length + y217.length < 17592186044416 then ((some (y214 ++ y217 : List Int)).bind fun y220 => (if y220.length + ((rd_L2 t191 x427_2).drop (x51_3 : Int).toNat).length < 17592186044416 then ((impl_IsWinning.f kj183 t102 t103 (y220 ++ ((rd_L2 t191 x427_2).drop (x51_3 : Int).toNat))).bind fun bt227 => (if t202 = true then (if t201 = true then (none) else ((laws_zHas.f kj183 (rd_L2 t191 x427_2) x321_1).bind fun t229 => (if t229 = true then (none) else (if bt227.2 = true then (if bt227.1 = true then (if 0 ≤ ((rd_L2 t191 x427_2).length : Int) then (if ((rd_L2 t191 x427_2).length : Int) < (t195.length : Int) then (if (rd t195 ((rd_L2 t191 x427_2).length : Int)) < 1 then (none) else (if x427_2 > 0 then (if 0 ≤ (wrap64 (x427_2 - 1)) then (if (wrap64 (x427_2 - 1)) < (t191.length : Int) then ((laws_zLess.f kj183 (rd_L2 t191 (wrap64 (x427_2 - 1))) (rd_L2 t191 x427_2)).bind fun t232 => (laws_FnSwingsTold.j4 kj183 l1 t107 t115 t123 t139 t147 t155 (t103.length : Int) ji104 t170 t172 x321_1 t191 t195 t107 (t107.length : Int) x321_1 t191 (t191.length : Int) x427_2 (!t232) t102 t103)) else (none)) else (none)) else (laws_FnSwingsTold.j4 kj183 l1 t107 t115 t123 t139 t147 t155 (t103.length : Int) ji104 t170 t172 x321_1 t191 t195 t107 (t107.length : Int) x321_1 t191 (t191.length : Int) x427_2 false t102 t103))) else (none)) else (none)) else (none)) else (none))))) else (none))) else (none))) else (none)) = some r := by first | (rw [hy217]; with_reducible exact H) | (have H2_ := (Option.bind_some _ _).symm.trans H; rw [hy217]; with_reducible exact H2_) | (have H2_ := (Option.bind_some _ _).symm.trans H; with_reducible exact H2_) | with_reducible exact H | (rw [hy217]; exact H) | exact H
          have Ny217 := Aside0.mk hy217
          clear hy217
          replace H := ite_yes H
          obtain ⟨c193, H⟩ := H
          have LMc193 := Aside0.mk c193
          clear c193
          obtain ⟨y220, hy220⟩ : ∃ y_ : List Int, y_ = (y214 ++ y217) := ⟨_, rfl⟩
          replace H : (if y220.length + ((rd_L2 t191 x427_2).drop (x51_3 : Int).toNat).length < 17592186044416 then ((impl_IsWinning.f kj183 t102 t103 (y220 ++ ((rd_L2 t191 x427_2).drop (x51_3 : Int).toNat))).bind fun bt227 => (if t202 = true then (if t201 = true then (none) else ((laws_zHas.f kj183 (rd_L2 t191 x427_2) x321_1).bind fun t229 => (if t229 = true then (none) else (if bt227.2 = true then (if bt227.1 = true then (if 0 ≤ ((rd_L2 t191 x427_2).length : Int) then (if ((rd_L2 t191 x427_2).length : Int) < (t195.length : Int) then (if (rd t195 ((rd_L2 t191 x427_2).length : Int)) < 1 then (none) else (if x427_2 > 0 then (if 0 ≤ (wrap64 (x427_2 - 1)) then (if (wrap64 (x427_2 - 1)) < (t191.length : Int) then ((laws_zLess.f kj183 (rd_L2 t191 (wrap64 (x427_2 - 1))) (rd_L2 t191 x427_2)).bind fun t232 => (laws_FnSwingsTold.j4 kj183 l1 t107 t115 t123 t139 t147 t155 (t103.length : Int) ji104 t170 t172 x321_1 t191 t195 t107 (t107.length : Int) x321_1 t191 (t191.length : Int) x427_2 (!t232) t102 t103)) else (none)) else (none)) else (laws_FnSwingsTold.j4 kj183 l1 t107 t115 t123 t139 t147 t155 (t103.length : Int) ji104 t170 t172 x321_1 t191 t195 t107 (t107.length : Int) x321_1 t191 (t191.length : Int) x427_2 false t102 t103))) else (none)) else (none)) else (none)) else (none))))) else (none))) else (none)) = some r := by first | (rw [hy220]; with_reducible exact H) | (have H2_ := (Option.bind_some _ _).symm.trans H; rw [hy220]; with_reducible exact H2_) | (have H2_ := (Option.bind_some _ _).symm.trans H; with_reducible exact H2_) | with_reducible exact H | (rw [hy220]; exact H) | exact H
          have Ny220 := Aside0.mk hy220
          clear hy220
          have c194b0 := eq_true (oD : 0 ≤ x51_3)
          have c195b0 := eq_true (oD : x51_3 ≤ ((rd_L2 t191 x427_2).length : Int))
          replace H := ite_yes H
          obtain ⟨c196, H⟩ := H
          have LMc196 := Aside0.mk c196
          clear c196
          obtain ⟨y224, hy224⟩ : ∃ y_ : List Int, y_ = (y220 ++ ((rd_L2 t191 x427_2).drop (x51_3 : Int).toNat)) := ⟨_, rfl⟩
          replace H : ((impl_IsWinning.f kj183 t102 t103 y224).bind fun bt227 => (if t202 = true then (if t201 = true then (none) else ((laws_zHas.f kj183 (rd_L2 t191 x427_2) x321_1).bind fun t229 => (if t229 = true then (none) else (if bt227.2 = true then (if bt227.1 = true then (if 0 ≤ ((rd_L2 t191 x427_2).length : Int) then (if ((rd_L2 t191 x427_2).length : Int) < (t195.length : Int) then (if (rd t195 ((rd_L2 t191 x427_2).length : Int)) < 1 then (none) else (if x427_2 > 0 then (if 0 ≤ (wrap64 (x427_2 - 1)) then (if (wrap64 (x427_2 - 1)) < (t191.length : Int) then ((laws_zLess.f kj183 (rd_L2 t191 (wrap64 (x427_2 - 1))) (rd_L2 t191 x427_2)).bind fun t232 => (laws_FnSwingsTold.j4 kj183 l1 t107 t115 t123 t139 t147 t155 (t103.length : Int) ji104 t170 t172 x321_1 t191 t195 t107 (t107.length : Int) x321_1 t191 (t191.length : Int) x427_2 (!t232) t102 t103)) else (none)) else (none)) else (laws_FnSwingsTold.j4 kj183 l1 t107 t115 t123 t139 t147 t155 (t103.length : Int) ji104 t170 t172 x321_1 t191 t195 t107 (t107.length : Int) x321_1 t191 (t191.length : Int) x427_2 false t102 t103))) else (none)) else (none)) else (none)) else (none))))) else (none))) = some r := by first | (rw [hy224]; with_reducible exact H) | (have H2_ := (Option.bind_some _ _).symm.trans H; rw [hy224]; with_reducible exact H2_) | (have H2_ := (Option.bind_some _ _).symm.trans H; with_reducible exact H2_) | with_reducible exact H | (rw [hy224]; exact H) | exact H
          have Ny224 := Aside0.mk hy224
          clear hy224
          replace H := oB H
          obtain ⟨⟨t227, t228⟩, A1970, H⟩ := H
          (try dsimp only at H)
          have A197 := Aside0.mk A1970
          clear A1970
          have HC198 := Aside0.mk H
          clear H
          try go_wp2
          replace HO_6 := rD HO_6
          replace HO_10 := rD HO_10
          replace HO_14 := rD HO_14
          replace HO_22 := rD HO_22
          replace HO_26 := rD HO_26
          replace HO_30 := rD HO_30
          replace HO_38 := rD HO_38
          replace HO_42 := Aside0.mk (Kd.S_drew HO_42.out)
          replace HO_44 := rD HO_44
          replace HO_50 := rD HO_50
          replace HO_319 := rD HO_319
          replace HO_425 := Aside0.mk (Kd.S_drew HO_425.out)
          replace HL200_0 := Aside0.mk (Kd.R_drew HL200_0.out)
          replace HO_107001 := rD HO_107001
          replace BK106 := bD BK106
          replace BK134 := bD BK134
          replace BK138 := bD BK138
          replace HB := Aside0.mk (below_drew1 HB.out)
          obtain ⟨i0200, hi0200, _, hsz200, _⟩ := info_parts info3
          obtain ⟨hcut200, hA200, hC200⟩ := print_take_of (P := Tryz.prog) (Value.int .i64) 0 24 3 .i64 Tryz.underlying24 hi0200 hsz200 A200_0 c200_0 (rd_L2 t191 x427_2) x51_3 (oD) (oD) HC200_0.out
          have HR213 := Aside0.mk (Kd.C_of_reads (h1 := fun _ => rfl) (hA200 _ (Kd.reads_of_C (Kd.R_reads' HL200_0.out).2.2)))
          have HC213 := Aside0.mk hC200
          clear hC200 hi0200 hsz200
          obtain ⟨i0201, hi0201, _, hsz201, _⟩ := info_parts info3
          obtain ⟨A201, hcut201, hA201, hC201⟩ := print_drop_of (P := Tryz.prog) (Value.int .i64) 0 24 3 .i64 Tryz.underlying24 hi0201 hsz201 A200_0 c200_0 (rd_L2 t191 x427_2) x51_3 (oD) (oD) HC200_0.out
          have HR223 := Aside0.mk (Kd.C_of_reads (h1 := fun _ => rfl) (hA201 _ (Kd.reads_of_C (Kd.R_reads' HL200_0.out).2.2)))
          have HC223 := Aside0.mk hC201
          clear hC201 hi0201 hsz201
          refine start_ (n := 13) (S := fun w' => True) (ds := []) #[F,F,F,F,F,F,F,F,F,F,F,F,F] (by kernel_rfl) rfl rfl trivial (fun hHeld => ?_); refine with_tabW laws_FnSwingsTold.tab44 laws_FnSwingsTold.bits44 (fun HT_ HW_ => ?_)
          generalize wc.drew = w199 at HO_6 HO_10 HO_14 HO_22 HO_26 HO_30 HO_38 HO_42 HO_44 HO_50 HO_319 HO_425 HL200_0 HO_107001 BK106 BK134 BK138 HB HR213 HR223 hHeld ⊢
          refine pU 1 HT_ ?_
          refine pU 2 HT_ ?_
          refine pU 3 HT_ ?_
          refine pU 5 HT_ ?_
          refine pU 8 HT_ ?_
          refine pU 9 HT_ ?_
          refine pU 10 HT_ ?_
          refine join_ (σ := Value × Value × Value) 3 #[T,T,T,T,T,T,T,F,T,T,T,F,F] (fun s_ => [(455, s_.1), (459, s_.2.1), (461, s_.2.2)]) (fun s_ w' => (Kd.R (Kd.int .i64) 3 w' w.heap.size (fun k_ => nb (s_.2.2) k_ ∧ nb (.slice Ao52 t103.length co52) k_ ∧ nb (.slice (some ad178) t107.length co87) k_ ∧ nb (.slice Ao163 t172.length co163) k_ ∧ nb (.slice Ao171 t195.length co171) k_ ∧ nb v207 k_ ∧ nb (.slice (some ad178) t107.length co87) k_) s_.2.1 y214) ∧ (Kd.R (Kd.int .i64) 3 w' w.heap.size (fun k_ => nb (s_.2.1) k_ ∧ nb (.slice Ao52 t103.length co52) k_ ∧ nb (.slice (some ad178) t107.length co87) k_ ∧ nb (.slice Ao163 t172.length co163) k_ ∧ nb (.slice Ao171 t195.length co171) k_ ∧ nb v207 k_ ∧ nb (.slice (some ad178) t107.length co87) k_) s_.2.2 y217) ∧ (Kd.R k60 60 w' w.heap.size (fun k_ => nb (.slice (some ad181) t123.length co91) k_ ∧ nb (.slice (some ad184) t139.length co95) k_ ∧ nb (.slice (some ad186) t147.length co97) k_ ∧ nb (.slice (some ad188) t155.length co99) k_ ∧ k_ ≠ gb134 ∧ k_ ≠ gb138) (.slice (some ad179) t115.length co89) t115) ∧ (Kd.R (Kd.int .i64) 3 w' w.heap.size (fun k_ => nb (s_.2.1) k_ ∧ nb (s_.2.2) k_ ∧ nb (.slice (some ad178) t107.length co87) k_ ∧ nb (.slice Ao163 t172.length co163) k_ ∧ nb (.slice Ao171 t195.length co171) k_ ∧ nb v207 k_ ∧ nb (.slice (some ad178) t107.length co87) k_) (.slice Ao52 t103.length co52) t103) ∧ (Kd.R k60 60 w' w.heap.size (fun k_ => nb (.slice (some ad179) t115.length co89) k_ ∧ nb (.slice (some ad184) t139.length co95) k_ ∧ nb (.slice (some ad186) t147.length co97) k_ ∧ nb (.slice (some ad188) t155.length co99) k_ ∧ k_ ≠ gb134 ∧ k_ ≠ gb138) (.slice (some ad181) t123.length co91) t123) ∧ (Kd.R k60 60 w' w.heap.size (fun k_ => nb (.slice (some ad179) t115.length co89) k_ ∧ nb (.slice (some ad181) t123.length co91) k_ ∧ nb (.slice (some ad186) t147.length co97) k_ ∧ nb (.slice (some ad188) t155.length co99) k_ ∧ k_ ≠ gb134 ∧ k_ ≠ gb138) (.slice (some ad184) t139.length co95) t139) ∧ (Kd.R k60 60 w' w.heap.size (fun k_ => nb (.slice (some ad179) t115.length co89) k_ ∧ nb (.slice (some ad181) t123.length co91) k_ ∧ nb (.slice (some ad184) t139.length co95) k_ ∧ nb (.slice (some ad188) t155.length co99) k_ ∧ k_ ≠ gb134 ∧ k_ ≠ gb138) (.slice (some ad186) t147.length co97) t147) ∧ (Kd.R k60 60 w' w.heap.size (fun k_ => nb (.slice (some ad179) t115.length co89) k_ ∧ nb (.slice (some ad181) t123.length co91) k_ ∧ nb (.slice (some ad184) t139.length co95) k_ ∧ nb (.slice (some ad186) t147.length co97) k_ ∧ k_ ≠ gb134 ∧ k_ ≠ gb138) (.slice (some ad188) t155.length co99) t155) ∧ (Kd.R (Kd.int .i64) 3 w' w.heap.size (fun k_ => nb (s_.2.1) k_ ∧ nb (s_.2.2) k_ ∧ nb (.slice Ao52 t103.length co52) k_ ∧ nb (.slice Ao163 t172.length co163) k_ ∧ nb (.slice Ao171 t195.length co171) k_ ∧ nb v207 k_) (.slice (some ad178) t107.length co87) t107) ∧ (Kd.R (Kd.int .i64) 3 w' w.heap.size (fun k_ => nb (s_.2.1) k_ ∧ nb (s_.2.2) k_ ∧ nb (.slice Ao52 t103.length co52) k_ ∧ nb (.slice (some ad178) t107.length co87) k_ ∧ nb (.slice Ao171 t195.length co171) k_ ∧ nb v207 k_ ∧ nb (.slice (some ad178) t107.length co87) k_) (.slice Ao163 t172.length co163) t172) ∧ (Kd.S (Kd.slice 3 (Kd.int .i64)) 24 w' w.heap.size (fun k_ => nb (s_.2.1) k_ ∧ nb (s_.2.2) k_ ∧ nb (.slice Ao52 t103.length co52) k_ ∧ nb (.slice (some ad178) t107.length co87) k_ ∧ nb (.slice Ao163 t172.length co163) k_ ∧ nb (.slice Ao171 t195.length co171) k_ ∧ nb v207 k_ ∧ nb (.slice (some ad178) t107.length co87) k_) (.slice (some ad200) t191.length co170) t191) ∧ (Kd.S (Kd.slice 3 (Kd.int .i64)) 24 w' w.heap.size (fun k_ => nb (s_.2.1) k_ ∧ nb (s_.2.2) k_ ∧ nb (.slice Ao52 t103.length co52) k_ ∧ nb (.slice (some ad178) t107.length co87) k_ ∧ nb (.slice Ao163 t172.length co163) k_ ∧ nb (.slice Ao171 t195.length co171) k_ ∧ nb v207 k_ ∧ nb (.slice (some ad178) t107.length co87) k_) (.slice (some ad200) t191.length co170) t191) ∧ (Kd.R (Kd.int .i64) 3 w' w.heap.size (fun k_ => nb (s_.2.1) k_ ∧ nb (s_.2.2) k_ ∧ nb (.slice Ao52 t103.length co52) k_ ∧ nb (.slice (some ad178) t107.length co87) k_ ∧ nb (.slice Ao163 t172.length co163) k_ ∧ nb (.slice Ao171 t195.length co171) k_ ∧ nb v207 k_ ∧ nb (.slice (some ad178) t107.length co87) k_) (.slice A200_0 (rd_L2 t191 x427_2).length c200_0) (rd_L2 t191 x427_2)) ∧ (Kd.R (Kd.int .i64) 3 w' w.heap.size (fun k_ => nb (s_.2.1) k_ ∧ nb (s_.2.2) k_ ∧ nb (.slice Ao52 t103.length co52) k_ ∧ nb (.slice (some ad178) t107.length co87) k_ ∧ nb (.slice Ao163 t172.length co163) k_ ∧ nb v207 k_ ∧ nb (.slice (some ad178) t107.length co87) k_) (.slice Ao171 t195.length co171) t195) ∧ (Kd.R (Kd.int .i64) 3 w' w.heap.size (fun k_ => nb (s_.2.1) k_ ∧ nb (s_.2.2) k_ ∧ nb (.slice Ao52 t103.length co52) k_ ∧ nb (.slice (some ad178) t107.length co87) k_ ∧ nb (.slice Ao163 t172.length co163) k_ ∧ nb (.slice Ao171 t195.length co171) k_ ∧ nb (.slice (some ad178) t107.length co87) k_) v207 y206) ∧ (Kd.R (Kd.int .i64) 3 w' w.heap.size (fun k_ => nb (s_.2.1) k_ ∧ nb (s_.2.2) k_ ∧ nb (.slice Ao52 t103.length co52) k_ ∧ nb (.slice Ao163 t172.length co163) k_ ∧ nb (.slice Ao171 t195.length co171) k_ ∧ nb v207 k_) (.slice (some ad178) t107.length co87) t107) ∧ (w'.heap[gb106]? = some (.cells #[.int .i64 t102, .slice Ao52 t103.length co52] 26 (0, 0))) ∧ (w'.heap[gb134]? = some (.cells #[.int .i64 t131, .int .i64 t132] 60 (0, 0))) ∧ (w'.heap[gb138]? = some (.cells #[.int .i64 t135, .int .i64 t136] 60 (0, 0))) ∧ (Below w.heap.size w w')) ?_ ?_
          rotate_left
          ·intro hCont
           refine two_ (i := 0) (j := 6) (Ni := some 455) (Nj := some 461) #[T,T,T,T,F,T,F,F,T,T,T,F,F] #[F,T,T,T,F,T,T,F,T,T,T,F,F] rfl rfl rfl rfl (two_of HT_.out (by kernel_rfl)) (by decide) (by decide) (fun K hK => ?_) (fun K hK => ?_)
           ·skip
            refine Kd.R_lit_step (Kd.int .i64) _ 3 ?hg (N := 455) ?hd (xs := ([] : List Int)) (inner := []) (ok := fun _ => True) (okp := fun _ => True) ?hr ?hp (fun _ hk => hk) trivial (Below.refl _ _) (Nat.le_refl _) (by simp) ?_; (case hd => rfl); (case hg => rfl); (case hr => first | (go_simp; done) | (go_simp; rfl)); (case hp => exact (Reps.none _ _))
            intro v211 w202 ho203 hb hg_ hnew_
            clear hg_ hnew_
            (first | rw [← Ny210.out] at ho203 | (simp only [Int.reduceToNat] at ho203; rw [← Ny210.out] at ho203))
            have HO212 := Aside0.mk (Kd.R_lower (Kd.R_new' (Kd.R_new' (Kd.R_new' (Kd.R_new' (Kd.R_new' (Kd.R_new' ho203 (Kd.R_lt HO_6.out)) (Kd.R_lt HO_38.out)) (Kd.R_lt HO_44.out)) (Kd.R_lt HO_50.out)) (Kd.R_lt HO_319.out)) (Kd.R_lt HO_107001.out)) (below_size HB.out))
            replace HO_6 := rE HO_6 (Kd.R_base ho203) hb
            replace HO_10 := rB HO_10 hb
            replace HO_14 := rB HO_14 hb
            replace HO_22 := rB HO_22 hb
            replace HO_26 := rB HO_26 hb
            replace HO_30 := rB HO_30 hb
            replace HO_38 := rE HO_38 (Kd.R_base ho203) hb
            replace HO_42 := tE HO_42 (Kd.R_base ho203) hb
            replace HO_44 := rE HO_44 (Kd.R_base ho203) hb
            replace HO_50 := rE HO_50 (Kd.R_base ho203) hb
            replace HO_319 := rE HO_319 (Kd.R_base ho203) hb
            replace HO_425 := tE HO_425 (Kd.R_base ho203) hb
            replace HL200_0 := Aside0.mk (Kd.R_elder' HL200_0.out (Kd.R_base ho203) hb)
            replace HO_107001 := rE HO_107001 (Kd.R_base ho203) hb
            replace BK106 := bB BK106 hb
            replace BK134 := bB BK134 hb
            replace BK138 := bB BK138 hb
            replace HB := sB HB hb
            clear hb ho203
            refine hK.out _ _ trivial (fun hHeld => ?_)
            clear hK K
            refine nM ?_
            refine two_ (i := 4) (j := 6) (Ni := some 459) (Nj := some 461) #[T,T,T,T,T,T,F,F,T,T,T,F,F] #[T,T,T,T,F,T,T,F,T,T,T,F,F] rfl rfl rfl rfl (two_of HT_.out (by kernel_rfl)) (by decide) (by decide) (fun K hK => ?_) (fun K hK => ?_)
            ·skip
             refine Kd.R_append_rows_step (Kd.int .i64) (w0 := w) w.heap.size (by rfl) (.tmp 455) (.tmp 458) 24 3 (.int .i64 0) 8 rfl Tryz.underlying24 info3 rfl (by decide) (by omega) v211 y210 ((rd_L2 t191 x427_2).take (x51_3 : Int).toNat) _ _ _ (fun k_ => nb (.slice (some ad178) t107.length co87) k_ ∧ nb (.slice Ao163 t172.length co163) k_ ∧ nb (.slice Ao171 t195.length co171) k_ ∧ nb v207 k_ ∧ nb (.slice (some ad178) t107.length co87) k_ ∧ nb (.slice Ao52 t103.length co52) k_) (fun _ => False) rfl rfl ?aO ?aR (fun _ _ h => h) (fun _ h => h.elim) ?aF ?aB ?aS ?aL ?_
             (case aR => have hx_ := (Kd.C_of_reads (h1 := fun _ => rfl) (hA200 _ (Kd.reads_of_C (Kd.R_reads' HL200_0.out).2.2))); (try rw [show ((rd_L2 t191 x427_2).take (x51_3 : Int).toNat).length = x51_3.toNat from (by rw [List.length_take]; have h_ : (x51_3 : Int) ≤ ((rd_L2 t191 x427_2).length : Int) := oD; omega)] at hx_); exact hx_)
             (case aB => exact HB.out)
             (case aF => exact (fun k_ hk => ⟨Kd.fresh' (Kd.R_lt HO_6.out) k_ hk, Kd.fresh' (Kd.R_lt HO_38.out) k_ hk, Kd.fresh' (Kd.R_lt HO_44.out) k_ hk, Kd.fresh' (Kd.R_lt HO_50.out) k_ hk, Kd.fresh' (Kd.R_lt HO_319.out) k_ hk, Kd.fresh' (Kd.R_lt HO_107001.out) k_ hk⟩))
             (case aO => exact (by exact Kd.R_mono HO212.out (fun _ hk => ⟨hk.1.1.1.1.1.2, ⟨hk.1.1.1.1.2, ⟨hk.1.1.1.2, ⟨hk.1.1.2, ⟨hk.1.2, hk.2⟩⟩⟩⟩⟩)))
             (case aS => exact (below_size HB.out))
             (case aL => have := LMc192.out; have hlx_ := (show ((rd_L2 t191 x427_2).take (x51_3 : Int).toNat).length = x51_3.toNat from (by rw [List.length_take]; have h_ : (x51_3 : Int) ≤ ((rd_L2 t191 x427_2).length : Int) := oD; omega)); omega)
             intro v215 w204 ho hb hg hat
             rw [← Ny214.out] at ho
             have HO216 := Aside0.mk (ho)
             replace HO_6 := Aside0.mk (Kd.R_after (ok := (fun k_ => nb (.slice Ao163 t172.length co163) k_ ∧ nb (.slice Ao171 t195.length co171) k_ ∧ nb v207 k_ ∧ nb (.slice Ao52 t103.length co52) k_)) HO_6.out hg hat)
             replace HO_10 := Aside0.mk (Kd.R_over' HO_10.out (Kd.R_typed HO212.out) (by decide) hg)
             replace HO_14 := Aside0.mk (Kd.R_over' HO_14.out (Kd.R_typed HO212.out) (by decide) hg)
             replace HO_22 := Aside0.mk (Kd.R_over' HO_22.out (Kd.R_typed HO212.out) (by decide) hg)
             replace HO_26 := Aside0.mk (Kd.R_over' HO_26.out (Kd.R_typed HO212.out) (by decide) hg)
             replace HO_30 := Aside0.mk (Kd.R_over' HO_30.out (Kd.R_typed HO212.out) (by decide) hg)
             replace HO_38 := Aside0.mk (Kd.R_after (ok := (fun k_ => nb (.slice (some ad178) t107.length co87) k_ ∧ nb (.slice Ao171 t195.length co171) k_ ∧ nb v207 k_ ∧ nb (.slice (some ad178) t107.length co87) k_ ∧ nb (.slice Ao52 t103.length co52) k_)) HO_38.out hg hat)
             replace HO_42 := Aside0.mk (Kd.S_after (ok := (fun k_ => nb (.slice (some ad178) t107.length co87) k_ ∧ nb (.slice Ao163 t172.length co163) k_ ∧ nb (.slice Ao171 t195.length co171) k_ ∧ nb v207 k_ ∧ nb (.slice (some ad178) t107.length co87) k_ ∧ nb (.slice Ao52 t103.length co52) k_)) HO_42.out hg hat)
             replace HO_44 := Aside0.mk (Kd.R_after (ok := (fun k_ => nb (.slice (some ad178) t107.length co87) k_ ∧ nb (.slice Ao163 t172.length co163) k_ ∧ nb v207 k_ ∧ nb (.slice (some ad178) t107.length co87) k_ ∧ nb (.slice Ao52 t103.length co52) k_)) HO_44.out hg hat)
             replace HO_50 := Aside0.mk (Kd.R_after (ok := (fun k_ => nb (.slice (some ad178) t107.length co87) k_ ∧ nb (.slice Ao163 t172.length co163) k_ ∧ nb (.slice Ao171 t195.length co171) k_ ∧ nb (.slice (some ad178) t107.length co87) k_ ∧ nb (.slice Ao52 t103.length co52) k_)) HO_50.out hg hat)
             replace HO_319 := Aside0.mk (Kd.R_after (ok := (fun k_ => nb (.slice Ao163 t172.length co163) k_ ∧ nb (.slice Ao171 t195.length co171) k_ ∧ nb v207 k_ ∧ nb (.slice Ao52 t103.length co52) k_)) HO_319.out hg hat)
             replace HO_425 := Aside0.mk (Kd.S_after (ok := (fun k_ => nb (.slice (some ad178) t107.length co87) k_ ∧ nb (.slice Ao163 t172.length co163) k_ ∧ nb (.slice Ao171 t195.length co171) k_ ∧ nb v207 k_ ∧ nb (.slice (some ad178) t107.length co87) k_ ∧ nb (.slice Ao52 t103.length co52) k_)) HO_425.out hg hat)
             replace HL200_0 := Aside0.mk (Kd.R_after (ok := (fun k_ => nb (.slice (some ad178) t107.length co87) k_ ∧ nb (.slice Ao163 t172.length co163) k_ ∧ nb (.slice Ao171 t195.length co171) k_ ∧ nb v207 k_ ∧ nb (.slice (some ad178) t107.length co87) k_ ∧ nb (.slice Ao52 t103.length co52) k_)) HL200_0.out hg hat)
             replace HO_107001 := Aside0.mk (Kd.R_after (ok := (fun k_ => nb (.slice (some ad178) t107.length co87) k_ ∧ nb (.slice Ao163 t172.length co163) k_ ∧ nb (.slice Ao171 t195.length co171) k_ ∧ nb v207 k_ ∧ nb (.slice (some ad178) t107.length co87) k_)) HO_107001.out hg hat)
             replace BK106 := Aside0.mk (blk_grown (g := gb106) (o := .cells #[.int .i64 t102, .slice Ao52 t103.length co52] 26 (0, 0)) BK106.out hg (Kd.R_ne HO212.out BK106.out (by decide)))
             replace BK134 := Aside0.mk (blk_grown (g := gb134) (o := .cells #[.int .i64 t131, .int .i64 t132] 60 (0, 0)) BK134.out hg (Kd.R_ne HO212.out BK134.out (by decide)))
             replace BK138 := Aside0.mk (blk_grown (g := gb138) (o := .cells #[.int .i64 t135, .int .i64 t136] 60 (0, 0)) BK138.out hg (Kd.R_ne HO212.out BK138.out (by decide)))
             replace HB := Aside0.mk (hb)
             clear ho hb hg hat
             refine hK.out _ _ trivial (fun hHeld => ?_)
             clear hK K
             refine nM ?_
             refine oN 6 HT_ (fun K hK => ?_)
             refine Kd.R_lit_step (Kd.int .i64) _ 3 ?hg (N := 461) ?hd (xs := ([x321_1] : List Int)) (inner := [.int .i64 x321_1]) (ok := fun _ => True) (okp := fun _ => True) ?hr ?hp (fun _ hk => hk) trivial (Below.refl _ _) (Nat.le_refl _) (by simp) ?_; (case hd => rfl); (case hg => rfl); (case hr => first | (go_simp; done) | (go_simp; rfl)); (case hp => exact (Reps.one (show Kd.M (Kd.int .i64) _ _ _ x321_1 [.int .i64 x321_1] from rfl) (Reps.none _ _)))
             intro v218 w205 ho206 hb hg_ hnew_
             clear hg_ hnew_
             (first | rw [← Ny217.out] at ho206 | (simp only [Int.reduceToNat] at ho206; rw [← Ny217.out] at ho206))
             have HO219 := Aside0.mk (Kd.R_lower (Kd.R_new' (Kd.R_new' (Kd.R_new' (Kd.R_new' (Kd.R_new' (Kd.R_new' (Kd.R_new' ho206 (Kd.R_lt HO_6.out)) (Kd.R_lt HO_38.out)) (Kd.R_lt HO_44.out)) (Kd.R_lt HO_50.out)) (Kd.R_lt HO_319.out)) (Kd.R_lt HO_107001.out)) (Kd.R_lt HO216.out)) (below_size HB.out))
             replace HO_6 := rE HO_6 (Kd.R_base ho206) hb
             replace HO_10 := rB HO_10 hb
             replace HO_14 := rB HO_14 hb
             replace HO_22 := rB HO_22 hb
             replace HO_26 := rB HO_26 hb
             replace HO_30 := rB HO_30 hb
             replace HO_38 := rE HO_38 (Kd.R_base ho206) hb
             replace HO_42 := tE HO_42 (Kd.R_base ho206) hb
             replace HO_44 := rE HO_44 (Kd.R_base ho206) hb
             replace HO_50 := rE HO_50 (Kd.R_base ho206) hb
             replace HO_319 := rE HO_319 (Kd.R_base ho206) hb
             replace HO_425 := tE HO_425 (Kd.R_base ho206) hb
             replace HL200_0 := Aside0.mk (Kd.R_elder' HL200_0.out (Kd.R_base ho206) hb)
             replace HO_107001 := rE HO_107001 (Kd.R_base ho206) hb
             replace HO216 := rE HO216 (Kd.R_base ho206) hb
             replace BK106 := bB BK106 hb
             replace BK134 := bB BK134 hb
             replace BK138 := bB BK138 hb
             replace HB := sB HB hb
             clear hb ho206
             refine hK.out _ _ trivial (fun hHeld => ?_)
             clear hK K
             refine nM ?_
             exact norm_ (by simp only [putAll, Act.put, sA, sZ, sS]) (hCont (v211, v215, v218) _ ⟨(by exact Kd.R_mono HO216.out (fun _ hk => ⟨hk.2, ⟨hk.1.2.2.2.2.2, ⟨hk.1.2.2.2.2.1, ⟨hk.1.2.1, ⟨hk.1.2.2.1, ⟨hk.1.2.2.2.1, hk.1.1⟩⟩⟩⟩⟩⟩)), (by exact Kd.R_mono HO219.out (fun _ hk => ⟨hk.2, ⟨hk.1.2, ⟨hk.1.1.2, ⟨hk.1.1.1.1.1.2, ⟨hk.1.1.1.1.2, ⟨hk.1.1.1.2, hk.1.1.1.1.1.1.2⟩⟩⟩⟩⟩⟩)), HO_10.out, (by exact Kd.R_mono HO_107001.out (fun _ hk => ⟨hk.1.2, ⟨hk.2, ⟨hk.1.1.2.2.2.2, ⟨hk.1.1.2.1, ⟨hk.1.1.2.2.1, ⟨hk.1.1.2.2.2.1, hk.1.1.1⟩⟩⟩⟩⟩⟩)), HO_14.out, HO_22.out, HO_26.out, HO_30.out, (by exact Kd.R_mono HO_319.out (fun _ hk => ⟨hk.1.2, ⟨hk.2, ⟨hk.1.1.2.2.2, ⟨hk.1.1.1, ⟨hk.1.1.2.1, hk.1.1.2.2.1⟩⟩⟩⟩⟩)), (by exact Kd.R_mono HO_38.out (fun _ hk => ⟨hk.1.2, ⟨hk.2, ⟨hk.1.1.2.2.2.2, ⟨hk.1.1.2.2.2.1, ⟨hk.1.1.2.1, ⟨hk.1.1.2.2.1, hk.1.1.1⟩⟩⟩⟩⟩⟩)), (by exact Kd.S_mono HO_42.out (fun _ hk => ⟨hk.1.2, ⟨hk.2, ⟨hk.1.1.2.2.2.2.2, ⟨hk.1.1.2.2.2.2.1, ⟨hk.1.1.2.1, ⟨hk.1.1.2.2.1, ⟨hk.1.1.2.2.2.1, hk.1.1.1⟩⟩⟩⟩⟩⟩⟩)), (by exact Kd.S_mono HO_425.out (fun _ hk => ⟨hk.1.2, ⟨hk.2, ⟨hk.1.1.2.2.2.2.2, ⟨hk.1.1.2.2.2.2.1, ⟨hk.1.1.2.1, ⟨hk.1.1.2.2.1, ⟨hk.1.1.2.2.2.1, hk.1.1.1⟩⟩⟩⟩⟩⟩⟩)), (by exact Kd.R_mono HL200_0.out (fun _ hk => ⟨hk.1.2, ⟨hk.2, ⟨hk.1.1.2.2.2.2.2, ⟨hk.1.1.2.2.2.2.1, ⟨hk.1.1.2.1, ⟨hk.1.1.2.2.1, ⟨hk.1.1.2.2.2.1, hk.1.1.1⟩⟩⟩⟩⟩⟩⟩)), (by exact Kd.R_mono HO_44.out (fun _ hk => ⟨hk.1.2, ⟨hk.2, ⟨hk.1.1.2.2.2.2, ⟨hk.1.1.2.2.2.1, ⟨hk.1.1.2.1, ⟨hk.1.1.2.2.1, hk.1.1.1⟩⟩⟩⟩⟩⟩)), (by exact Kd.R_mono HO_50.out (fun _ hk => ⟨hk.1.2, ⟨hk.2, ⟨hk.1.1.2.2.2.2, ⟨hk.1.1.2.2.2.1, ⟨hk.1.1.2.1, ⟨hk.1.1.2.2.1, hk.1.1.1⟩⟩⟩⟩⟩⟩)), (by exact Kd.R_mono HO_6.out (fun _ hk => ⟨hk.1.2, ⟨hk.2, ⟨hk.1.1.2.2.2, ⟨hk.1.1.1, ⟨hk.1.1.2.1, hk.1.1.2.2.1⟩⟩⟩⟩⟩)), BK106.out, BK134.out, BK138.out, HB.out⟩)
            skip
            refine Kd.R_lit_step (Kd.int .i64) _ 3 ?hg (N := 461) ?hd (xs := ([x321_1] : List Int)) (inner := [.int .i64 x321_1]) (ok := fun _ => True) (okp := fun _ => True) ?hr ?hp (fun _ hk => hk) trivial (Below.refl _ _) (Nat.le_refl _) (by simp) ?_; (case hd => rfl); (case hg => rfl); (case hr => first | (go_simp; done) | (go_simp; rfl)); (case hp => exact (Reps.one (show Kd.M (Kd.int .i64) _ _ _ x321_1 [.int .i64 x321_1] from rfl) (Reps.none _ _)))
            intro v218 w204 ho205 hb hg_ hnew_
            clear hg_ hnew_
            (first | rw [← Ny217.out] at ho205 | (simp only [Int.reduceToNat] at ho205; rw [← Ny217.out] at ho205))
            have HO219 := Aside0.mk (Kd.R_lower (Kd.R_new' (Kd.R_new' (Kd.R_new' (Kd.R_new' (Kd.R_new' (Kd.R_new' (Kd.R_new' ho205 (Kd.R_lt HO_6.out)) (Kd.R_lt HO_38.out)) (Kd.R_lt HO_44.out)) (Kd.R_lt HO_50.out)) (Kd.R_lt HO_319.out)) (Kd.R_lt HO_107001.out)) (Kd.R_lt HO212.out)) (below_size HB.out))
            replace HO_6 := rE HO_6 (Kd.R_base ho205) hb
            replace HO_10 := rB HO_10 hb
            replace HO_14 := rB HO_14 hb
            replace HO_22 := rB HO_22 hb
            replace HO_26 := rB HO_26 hb
            replace HO_30 := rB HO_30 hb
            replace HO_38 := rE HO_38 (Kd.R_base ho205) hb
            replace HO_42 := tE HO_42 (Kd.R_base ho205) hb
            replace HO_44 := rE HO_44 (Kd.R_base ho205) hb
            replace HO_50 := rE HO_50 (Kd.R_base ho205) hb
            replace HO_319 := rE HO_319 (Kd.R_base ho205) hb
            replace HO_425 := tE HO_425 (Kd.R_base ho205) hb
            replace HL200_0 := Aside0.mk (Kd.R_elder' HL200_0.out (Kd.R_base ho205) hb)
            replace HO_107001 := rE HO_107001 (Kd.R_base ho205) hb
            replace HO212 := rE HO212 (Kd.R_base ho205) hb
            replace BK106 := bB BK106 hb
            replace BK134 := bB BK134 hb
            replace BK138 := bB BK138 hb
            replace HB := sB HB hb
            clear hb ho205
            refine hK.out _ _ trivial (fun hHeld => ?_)
            clear hK K
            refine nM ?_
            refine oN 4 HT_ (fun K hK => ?_)
            refine Kd.R_append_rows_step (Kd.int .i64) (w0 := w) w.heap.size (by rfl) (.tmp 455) (.tmp 458) 24 3 (.int .i64 0) 8 rfl Tryz.underlying24 info3 rfl (by decide) (by omega) v211 y210 ((rd_L2 t191 x427_2).take (x51_3 : Int).toNat) _ _ _ (fun k_ => nb (.slice (some ad178) t107.length co87) k_ ∧ nb (.slice Ao163 t172.length co163) k_ ∧ nb (.slice Ao171 t195.length co171) k_ ∧ nb v207 k_ ∧ nb (.slice (some ad178) t107.length co87) k_ ∧ nb (.slice Ao52 t103.length co52) k_ ∧ nb v218 k_) (fun _ => False) rfl rfl ?aO ?aR (fun _ _ h => h) (fun _ h => h.elim) ?aF ?aB ?aS ?aL ?_
            (case aR => have hx_ := (Kd.C_of_reads (h1 := fun _ => rfl) (hA200 _ (Kd.reads_of_C (Kd.R_reads' HL200_0.out).2.2))); (try rw [show ((rd_L2 t191 x427_2).take (x51_3 : Int).toNat).length = x51_3.toNat from (by rw [List.length_take]; have h_ : (x51_3 : Int) ≤ ((rd_L2 t191 x427_2).length : Int) := oD; omega)] at hx_); exact hx_)
            (case aB => exact HB.out)
            (case aF => exact (fun k_ hk => ⟨Kd.fresh' (Kd.R_lt HO_6.out) k_ hk, Kd.fresh' (Kd.R_lt HO_38.out) k_ hk, Kd.fresh' (Kd.R_lt HO_44.out) k_ hk, Kd.fresh' (Kd.R_lt HO_50.out) k_ hk, Kd.fresh' (Kd.R_lt HO_319.out) k_ hk, Kd.fresh' (Kd.R_lt HO_107001.out) k_ hk, Kd.fresh' (Kd.R_lt HO219.out) k_ hk⟩))
            (case aO => exact (by exact Kd.R_mono HO212.out (fun _ hk => ⟨hk.1.1.1.1.1.1.2, ⟨hk.1.1.1.1.1.2, ⟨hk.1.1.1.1.2, ⟨hk.1.1.1.2, ⟨hk.1.1.2, ⟨hk.1.2, hk.2⟩⟩⟩⟩⟩⟩)))
            (case aS => exact (below_size HB.out))
            (case aL => have := LMc192.out; have hlx_ := (show ((rd_L2 t191 x427_2).take (x51_3 : Int).toNat).length = x51_3.toNat from (by rw [List.length_take]; have h_ : (x51_3 : Int) ≤ ((rd_L2 t191 x427_2).length : Int) := oD; omega)); omega)
            intro v215 w206 ho hb hg hat
            rw [← Ny214.out] at ho
            have HO216 := Aside0.mk (ho)
            replace HO_6 := Aside0.mk (Kd.R_after (ok := (fun k_ => nb (.slice Ao163 t172.length co163) k_ ∧ nb (.slice Ao171 t195.length co171) k_ ∧ nb v207 k_ ∧ nb (.slice Ao52 t103.length co52) k_ ∧ nb v218 k_)) (by exact Kd.R_mono HO_6.out (fun _ hk => ⟨⟨hk.1.1.1, ⟨hk.1.1.2.1, ⟨hk.1.1.2.2.1, ⟨hk.1.1.2.2.2, hk.2⟩⟩⟩⟩, hk.1.2⟩)) hg hat)
            replace HO_10 := Aside0.mk (Kd.R_over' HO_10.out (Kd.R_typed HO212.out) (by decide) hg)
            replace HO_14 := Aside0.mk (Kd.R_over' HO_14.out (Kd.R_typed HO212.out) (by decide) hg)
            replace HO_22 := Aside0.mk (Kd.R_over' HO_22.out (Kd.R_typed HO212.out) (by decide) hg)
            replace HO_26 := Aside0.mk (Kd.R_over' HO_26.out (Kd.R_typed HO212.out) (by decide) hg)
            replace HO_30 := Aside0.mk (Kd.R_over' HO_30.out (Kd.R_typed HO212.out) (by decide) hg)
            replace HO_38 := Aside0.mk (Kd.R_after (ok := (fun k_ => nb (.slice (some ad178) t107.length co87) k_ ∧ nb (.slice Ao171 t195.length co171) k_ ∧ nb v207 k_ ∧ nb (.slice (some ad178) t107.length co87) k_ ∧ nb (.slice Ao52 t103.length co52) k_ ∧ nb v218 k_)) (by exact Kd.R_mono HO_38.out (fun _ hk => ⟨⟨hk.1.1.1, ⟨hk.1.1.2.1, ⟨hk.1.1.2.2.1, ⟨hk.1.1.2.2.2.1, ⟨hk.1.1.2.2.2.2, hk.2⟩⟩⟩⟩⟩, hk.1.2⟩)) hg hat)
            replace HO_42 := Aside0.mk (Kd.S_after (ok := (fun k_ => nb (.slice (some ad178) t107.length co87) k_ ∧ nb (.slice Ao163 t172.length co163) k_ ∧ nb (.slice Ao171 t195.length co171) k_ ∧ nb v207 k_ ∧ nb (.slice (some ad178) t107.length co87) k_ ∧ nb (.slice Ao52 t103.length co52) k_ ∧ nb v218 k_)) (by exact Kd.S_mono HO_42.out (fun _ hk => ⟨⟨hk.1.1.1, ⟨hk.1.1.2.1, ⟨hk.1.1.2.2.1, ⟨hk.1.1.2.2.2.1, ⟨hk.1.1.2.2.2.2.1, ⟨hk.1.1.2.2.2.2.2, hk.2⟩⟩⟩⟩⟩⟩, hk.1.2⟩)) hg hat)
            replace HO_44 := Aside0.mk (Kd.R_after (ok := (fun k_ => nb (.slice (some ad178) t107.length co87) k_ ∧ nb (.slice Ao163 t172.length co163) k_ ∧ nb v207 k_ ∧ nb (.slice (some ad178) t107.length co87) k_ ∧ nb (.slice Ao52 t103.length co52) k_ ∧ nb v218 k_)) (by exact Kd.R_mono HO_44.out (fun _ hk => ⟨⟨hk.1.1.1, ⟨hk.1.1.2.1, ⟨hk.1.1.2.2.1, ⟨hk.1.1.2.2.2.1, ⟨hk.1.1.2.2.2.2, hk.2⟩⟩⟩⟩⟩, hk.1.2⟩)) hg hat)
            replace HO_50 := Aside0.mk (Kd.R_after (ok := (fun k_ => nb (.slice (some ad178) t107.length co87) k_ ∧ nb (.slice Ao163 t172.length co163) k_ ∧ nb (.slice Ao171 t195.length co171) k_ ∧ nb (.slice (some ad178) t107.length co87) k_ ∧ nb (.slice Ao52 t103.length co52) k_ ∧ nb v218 k_)) (by exact Kd.R_mono HO_50.out (fun _ hk => ⟨⟨hk.1.1.1, ⟨hk.1.1.2.1, ⟨hk.1.1.2.2.1, ⟨hk.1.1.2.2.2.1, ⟨hk.1.1.2.2.2.2, hk.2⟩⟩⟩⟩⟩, hk.1.2⟩)) hg hat)
            replace HO_319 := Aside0.mk (Kd.R_after (ok := (fun k_ => nb (.slice Ao163 t172.length co163) k_ ∧ nb (.slice Ao171 t195.length co171) k_ ∧ nb v207 k_ ∧ nb (.slice Ao52 t103.length co52) k_ ∧ nb v218 k_)) (by exact Kd.R_mono HO_319.out (fun _ hk => ⟨⟨hk.1.1.1, ⟨hk.1.1.2.1, ⟨hk.1.1.2.2.1, ⟨hk.1.1.2.2.2, hk.2⟩⟩⟩⟩, hk.1.2⟩)) hg hat)
            replace HO_425 := Aside0.mk (Kd.S_after (ok := (fun k_ => nb (.slice (some ad178) t107.length co87) k_ ∧ nb (.slice Ao163 t172.length co163) k_ ∧ nb (.slice Ao171 t195.length co171) k_ ∧ nb v207 k_ ∧ nb (.slice (some ad178) t107.length co87) k_ ∧ nb (.slice Ao52 t103.length co52) k_ ∧ nb v218 k_)) (by exact Kd.S_mono HO_425.out (fun _ hk => ⟨⟨hk.1.1.1, ⟨hk.1.1.2.1, ⟨hk.1.1.2.2.1, ⟨hk.1.1.2.2.2.1, ⟨hk.1.1.2.2.2.2.1, ⟨hk.1.1.2.2.2.2.2, hk.2⟩⟩⟩⟩⟩⟩, hk.1.2⟩)) hg hat)
            replace HL200_0 := Aside0.mk (Kd.R_after (ok := (fun k_ => nb (.slice (some ad178) t107.length co87) k_ ∧ nb (.slice Ao163 t172.length co163) k_ ∧ nb (.slice Ao171 t195.length co171) k_ ∧ nb v207 k_ ∧ nb (.slice (some ad178) t107.length co87) k_ ∧ nb (.slice Ao52 t103.length co52) k_ ∧ nb v218 k_)) (by exact Kd.R_mono HL200_0.out (fun _ hk => ⟨⟨hk.1.1.1, ⟨hk.1.1.2.1, ⟨hk.1.1.2.2.1, ⟨hk.1.1.2.2.2.1, ⟨hk.1.1.2.2.2.2.1, ⟨hk.1.1.2.2.2.2.2, hk.2⟩⟩⟩⟩⟩⟩, hk.1.2⟩)) hg hat)
            replace HO_107001 := Aside0.mk (Kd.R_after (ok := (fun k_ => nb (.slice (some ad178) t107.length co87) k_ ∧ nb (.slice Ao163 t172.length co163) k_ ∧ nb (.slice Ao171 t195.length co171) k_ ∧ nb v207 k_ ∧ nb (.slice (some ad178) t107.length co87) k_ ∧ nb v218 k_)) (by exact Kd.R_mono HO_107001.out (fun _ hk => ⟨⟨hk.1.1.1, ⟨hk.1.1.2.1, ⟨hk.1.1.2.2.1, ⟨hk.1.1.2.2.2.1, ⟨hk.1.1.2.2.2.2, hk.2⟩⟩⟩⟩⟩, hk.1.2⟩)) hg hat)
            replace BK106 := Aside0.mk (blk_grown (g := gb106) (o := .cells #[.int .i64 t102, .slice Ao52 t103.length co52] 26 (0, 0)) BK106.out hg (Kd.R_ne HO212.out BK106.out (by decide)))
            replace BK134 := Aside0.mk (blk_grown (g := gb134) (o := .cells #[.int .i64 t131, .int .i64 t132] 60 (0, 0)) BK134.out hg (Kd.R_ne HO212.out BK134.out (by decide)))
            replace BK138 := Aside0.mk (blk_grown (g := gb138) (o := .cells #[.int .i64 t135, .int .i64 t136] 60 (0, 0)) BK138.out hg (Kd.R_ne HO212.out BK138.out (by decide)))
            replace HO219 := Aside0.mk (Kd.R_after (ok := (fun k_ => nb (.slice (some ad178) t107.length co87) k_ ∧ nb (.slice Ao163 t172.length co163) k_ ∧ nb (.slice Ao171 t195.length co171) k_ ∧ nb v207 k_ ∧ nb (.slice (some ad178) t107.length co87) k_ ∧ nb (.slice Ao52 t103.length co52) k_)) (by exact Kd.R_mono HO219.out (fun _ hk => ⟨⟨hk.1.1.1.1.1.1.2, ⟨hk.1.1.1.1.1.2, ⟨hk.1.1.1.1.2, ⟨hk.1.1.1.2, ⟨hk.1.1.2, hk.1.2⟩⟩⟩⟩⟩, hk.2⟩)) hg hat)
            replace HB := Aside0.mk (hb)
            clear ho hb hg hat
            refine hK.out _ _ trivial (fun hHeld => ?_)
            clear hK K
            refine nM ?_
            exact norm_ (by simp only [putAll, Act.put, sA, sZ, sS]) (hCont (v211, v215, v218) _ ⟨(by exact Kd.R_mono HO216.out (fun _ hk => ⟨hk.2.2.2.2.2.2, ⟨hk.2.2.2.2.2.1, ⟨hk.2.2.2.2.1, ⟨hk.2.1, ⟨hk.2.2.1, ⟨hk.2.2.2.1, hk.1⟩⟩⟩⟩⟩⟩)), (by exact Kd.R_mono HO219.out (fun _ hk => ⟨hk.2, ⟨hk.1.2.2.2.2.2, ⟨hk.1.2.2.2.2.1, ⟨hk.1.2.1, ⟨hk.1.2.2.1, ⟨hk.1.2.2.2.1, hk.1.1⟩⟩⟩⟩⟩⟩)), HO_10.out, (by exact Kd.R_mono HO_107001.out (fun _ hk => ⟨hk.2, ⟨hk.1.2.2.2.2.2, ⟨hk.1.2.2.2.2.1, ⟨hk.1.2.1, ⟨hk.1.2.2.1, ⟨hk.1.2.2.2.1, hk.1.1⟩⟩⟩⟩⟩⟩)), HO_14.out, HO_22.out, HO_26.out, HO_30.out, (by exact Kd.R_mono HO_319.out (fun _ hk => ⟨hk.2, ⟨hk.1.2.2.2.2, ⟨hk.1.2.2.2.1, ⟨hk.1.1, ⟨hk.1.2.1, hk.1.2.2.1⟩⟩⟩⟩⟩)), (by exact Kd.R_mono HO_38.out (fun _ hk => ⟨hk.2, ⟨hk.1.2.2.2.2.2, ⟨hk.1.2.2.2.2.1, ⟨hk.1.2.2.2.1, ⟨hk.1.2.1, ⟨hk.1.2.2.1, hk.1.1⟩⟩⟩⟩⟩⟩)), (by exact Kd.S_mono HO_42.out (fun _ hk => ⟨hk.2, ⟨hk.1.2.2.2.2.2.2, ⟨hk.1.2.2.2.2.2.1, ⟨hk.1.2.2.2.2.1, ⟨hk.1.2.1, ⟨hk.1.2.2.1, ⟨hk.1.2.2.2.1, hk.1.1⟩⟩⟩⟩⟩⟩⟩)), (by exact Kd.S_mono HO_425.out (fun _ hk => ⟨hk.2, ⟨hk.1.2.2.2.2.2.2, ⟨hk.1.2.2.2.2.2.1, ⟨hk.1.2.2.2.2.1, ⟨hk.1.2.1, ⟨hk.1.2.2.1, ⟨hk.1.2.2.2.1, hk.1.1⟩⟩⟩⟩⟩⟩⟩)), (by exact Kd.R_mono HL200_0.out (fun _ hk => ⟨hk.2, ⟨hk.1.2.2.2.2.2.2, ⟨hk.1.2.2.2.2.2.1, ⟨hk.1.2.2.2.2.1, ⟨hk.1.2.1, ⟨hk.1.2.2.1, ⟨hk.1.2.2.2.1, hk.1.1⟩⟩⟩⟩⟩⟩⟩)), (by exact Kd.R_mono HO_44.out (fun _ hk => ⟨hk.2, ⟨hk.1.2.2.2.2.2, ⟨hk.1.2.2.2.2.1, ⟨hk.1.2.2.2.1, ⟨hk.1.2.1, ⟨hk.1.2.2.1, hk.1.1⟩⟩⟩⟩⟩⟩)), (by exact Kd.R_mono HO_50.out (fun _ hk => ⟨hk.2, ⟨hk.1.2.2.2.2.2, ⟨hk.1.2.2.2.2.1, ⟨hk.1.2.2.2.1, ⟨hk.1.2.1, ⟨hk.1.2.2.1, hk.1.1⟩⟩⟩⟩⟩⟩)), (by exact Kd.R_mono HO_6.out (fun _ hk => ⟨hk.2, ⟨hk.1.2.2.2.2, ⟨hk.1.2.2.2.1, ⟨hk.1.1, ⟨hk.1.2.1, hk.1.2.2.1⟩⟩⟩⟩⟩)), BK106.out, BK134.out, BK138.out, HB.out⟩)
           skip
           refine Kd.R_lit_step (Kd.int .i64) _ 3 ?hg (N := 461) ?hd (xs := ([x321_1] : List Int)) (inner := [.int .i64 x321_1]) (ok := fun _ => True) (okp := fun _ => True) ?hr ?hp (fun _ hk => hk) trivial (Below.refl _ _) (Nat.le_refl _) (by simp) ?_; (case hd => rfl); (case hg => rfl); (case hr => first | (go_simp; done) | (go_simp; rfl)); (case hp => exact (Reps.one (show Kd.M (Kd.int .i64) _ _ _ x321_1 [.int .i64 x321_1] from rfl) (Reps.none _ _)))
           intro v218 w202 ho203 hb hg_ hnew_
           clear hg_ hnew_
           (first | rw [← Ny217.out] at ho203 | (simp only [Int.reduceToNat] at ho203; rw [← Ny217.out] at ho203))
           have HO219 := Aside0.mk (Kd.R_lower (Kd.R_new' (Kd.R_new' (Kd.R_new' (Kd.R_new' (Kd.R_new' (Kd.R_new' ho203 (Kd.R_lt HO_6.out)) (Kd.R_lt HO_38.out)) (Kd.R_lt HO_44.out)) (Kd.R_lt HO_50.out)) (Kd.R_lt HO_319.out)) (Kd.R_lt HO_107001.out)) (below_size HB.out))
           replace HO_6 := rE HO_6 (Kd.R_base ho203) hb
           replace HO_10 := rB HO_10 hb
           replace HO_14 := rB HO_14 hb
           replace HO_22 := rB HO_22 hb
           replace HO_26 := rB HO_26 hb
           replace HO_30 := rB HO_30 hb
           replace HO_38 := rE HO_38 (Kd.R_base ho203) hb
           replace HO_42 := tE HO_42 (Kd.R_base ho203) hb
           replace HO_44 := rE HO_44 (Kd.R_base ho203) hb
           replace HO_50 := rE HO_50 (Kd.R_base ho203) hb
           replace HO_319 := rE HO_319 (Kd.R_base ho203) hb
           replace HO_425 := tE HO_425 (Kd.R_base ho203) hb
           replace HL200_0 := Aside0.mk (Kd.R_elder' HL200_0.out (Kd.R_base ho203) hb)
           replace HO_107001 := rE HO_107001 (Kd.R_base ho203) hb
           replace BK106 := bB BK106 hb
           replace BK134 := bB BK134 hb
           replace BK138 := bB BK138 hb
           replace HB := sB HB hb
           clear hb ho203
           refine hK.out _ _ trivial (fun hHeld => ?_)
           clear hK K
           refine nM ?_
           refine oN 0 HT_ (fun K hK => ?_)
           refine Kd.R_lit_step (Kd.int .i64) _ 3 ?hg (N := 455) ?hd (xs := ([] : List Int)) (inner := []) (ok := fun _ => True) (okp := fun _ => True) ?hr ?hp (fun _ hk => hk) trivial (Below.refl _ _) (Nat.le_refl _) (by simp) ?_; (case hd => rfl); (case hg => rfl); (case hr => first | (go_simp; done) | (go_simp; rfl)); (case hp => exact (Reps.none _ _))
           intro v211 w204 ho205 hb hg_ hnew_
           clear hg_ hnew_
           (first | rw [← Ny210.out] at ho205 | (simp only [Int.reduceToNat] at ho205; rw [← Ny210.out] at ho205))
           have HO212 := Aside0.mk (Kd.R_lower (Kd.R_new' (Kd.R_new' (Kd.R_new' (Kd.R_new' (Kd.R_new' (Kd.R_new' (Kd.R_new' ho205 (Kd.R_lt HO_6.out)) (Kd.R_lt HO_38.out)) (Kd.R_lt HO_44.out)) (Kd.R_lt HO_50.out)) (Kd.R_lt HO_319.out)) (Kd.R_lt HO_107001.out)) (Kd.R_lt HO219.out)) (below_size HB.out))
           replace HO_6 := rE HO_6 (Kd.R_base ho205) hb
           replace HO_10 := rB HO_10 hb
           replace HO_14 := rB HO_14 hb
           replace HO_22 := rB HO_22 hb
           replace HO_26 := rB HO_26 hb
           replace HO_30 := rB HO_30 hb
           replace HO_38 := rE HO_38 (Kd.R_base ho205) hb
           replace HO_42 := tE HO_42 (Kd.R_base ho205) hb
           replace HO_44 := rE HO_44 (Kd.R_base ho205) hb
           replace HO_50 := rE HO_50 (Kd.R_base ho205) hb
           replace HO_319 := rE HO_319 (Kd.R_base ho205) hb
           replace HO_425 := tE HO_425 (Kd.R_base ho205) hb
           replace HL200_0 := Aside0.mk (Kd.R_elder' HL200_0.out (Kd.R_base ho205) hb)
           replace HO_107001 := rE HO_107001 (Kd.R_base ho205) hb
           replace HO219 := rE HO219 (Kd.R_base ho205) hb
           replace BK106 := bB BK106 hb
           replace BK134 := bB BK134 hb
           replace BK138 := bB BK138 hb
           replace HB := sB HB hb
           clear hb ho205
           refine hK.out _ _ trivial (fun hHeld => ?_)
           clear hK K
           refine nM ?_
           refine oN 4 HT_ (fun K hK => ?_)
           refine Kd.R_append_rows_step (Kd.int .i64) (w0 := w) w.heap.size (by rfl) (.tmp 455) (.tmp 458) 24 3 (.int .i64 0) 8 rfl Tryz.underlying24 info3 rfl (by decide) (by omega) v211 y210 ((rd_L2 t191 x427_2).take (x51_3 : Int).toNat) _ _ _ (fun k_ => nb (.slice (some ad178) t107.length co87) k_ ∧ nb (.slice Ao163 t172.length co163) k_ ∧ nb (.slice Ao171 t195.length co171) k_ ∧ nb v207 k_ ∧ nb (.slice (some ad178) t107.length co87) k_ ∧ nb (.slice Ao52 t103.length co52) k_ ∧ nb v218 k_) (fun _ => False) rfl rfl ?aO ?aR (fun _ _ h => h) (fun _ h => h.elim) ?aF ?aB ?aS ?aL ?_
           (case aR => have hx_ := (Kd.C_of_reads (h1 := fun _ => rfl) (hA200 _ (Kd.reads_of_C (Kd.R_reads' HL200_0.out).2.2))); (try rw [show ((rd_L2 t191 x427_2).take (x51_3 : Int).toNat).length = x51_3.toNat from (by rw [List.length_take]; have h_ : (x51_3 : Int) ≤ ((rd_L2 t191 x427_2).length : Int) := oD; omega)] at hx_); exact hx_)
           (case aB => exact HB.out)
           (case aF => exact (fun k_ hk => ⟨Kd.fresh' (Kd.R_lt HO_6.out) k_ hk, Kd.fresh' (Kd.R_lt HO_38.out) k_ hk, Kd.fresh' (Kd.R_lt HO_44.out) k_ hk, Kd.fresh' (Kd.R_lt HO_50.out) k_ hk, Kd.fresh' (Kd.R_lt HO_319.out) k_ hk, Kd.fresh' (Kd.R_lt HO_107001.out) k_ hk, Kd.fresh' (Kd.R_lt HO219.out) k_ hk⟩))
           (case aO => exact (by exact Kd.R_mono HO212.out (fun _ hk => ⟨hk.1.1.1.1.1.1.2, ⟨hk.1.1.1.1.1.2, ⟨hk.1.1.1.1.2, ⟨hk.1.1.1.2, ⟨hk.1.1.2, ⟨hk.1.2, hk.2⟩⟩⟩⟩⟩⟩)))
           (case aS => exact (below_size HB.out))
           (case aL => have := LMc192.out; have hlx_ := (show ((rd_L2 t191 x427_2).take (x51_3 : Int).toNat).length = x51_3.toNat from (by rw [List.length_take]; have h_ : (x51_3 : Int) ≤ ((rd_L2 t191 x427_2).length : Int) := oD; omega)); omega)
           intro v215 w206 ho hb hg hat
           rw [← Ny214.out] at ho
           have HO216 := Aside0.mk (ho)
           replace HO_6 := Aside0.mk (Kd.R_after (ok := (fun k_ => nb (.slice Ao163 t172.length co163) k_ ∧ nb (.slice Ao171 t195.length co171) k_ ∧ nb v207 k_ ∧ nb (.slice Ao52 t103.length co52) k_ ∧ nb v218 k_)) (by exact Kd.R_mono HO_6.out (fun _ hk => ⟨⟨hk.1.1.1, ⟨hk.1.1.2.1, ⟨hk.1.1.2.2.1, ⟨hk.1.1.2.2.2, hk.1.2⟩⟩⟩⟩, hk.2⟩)) hg hat)
           replace HO_10 := Aside0.mk (Kd.R_over' HO_10.out (Kd.R_typed HO212.out) (by decide) hg)
           replace HO_14 := Aside0.mk (Kd.R_over' HO_14.out (Kd.R_typed HO212.out) (by decide) hg)
           replace HO_22 := Aside0.mk (Kd.R_over' HO_22.out (Kd.R_typed HO212.out) (by decide) hg)
           replace HO_26 := Aside0.mk (Kd.R_over' HO_26.out (Kd.R_typed HO212.out) (by decide) hg)
           replace HO_30 := Aside0.mk (Kd.R_over' HO_30.out (Kd.R_typed HO212.out) (by decide) hg)
           replace HO_38 := Aside0.mk (Kd.R_after (ok := (fun k_ => nb (.slice (some ad178) t107.length co87) k_ ∧ nb (.slice Ao171 t195.length co171) k_ ∧ nb v207 k_ ∧ nb (.slice (some ad178) t107.length co87) k_ ∧ nb (.slice Ao52 t103.length co52) k_ ∧ nb v218 k_)) (by exact Kd.R_mono HO_38.out (fun _ hk => ⟨⟨hk.1.1.1, ⟨hk.1.1.2.1, ⟨hk.1.1.2.2.1, ⟨hk.1.1.2.2.2.1, ⟨hk.1.1.2.2.2.2, hk.1.2⟩⟩⟩⟩⟩, hk.2⟩)) hg hat)
           replace HO_42 := Aside0.mk (Kd.S_after (ok := (fun k_ => nb (.slice (some ad178) t107.length co87) k_ ∧ nb (.slice Ao163 t172.length co163) k_ ∧ nb (.slice Ao171 t195.length co171) k_ ∧ nb v207 k_ ∧ nb (.slice (some ad178) t107.length co87) k_ ∧ nb (.slice Ao52 t103.length co52) k_ ∧ nb v218 k_)) (by exact Kd.S_mono HO_42.out (fun _ hk => ⟨⟨hk.1.1.1, ⟨hk.1.1.2.1, ⟨hk.1.1.2.2.1, ⟨hk.1.1.2.2.2.1, ⟨hk.1.1.2.2.2.2.1, ⟨hk.1.1.2.2.2.2.2, hk.1.2⟩⟩⟩⟩⟩⟩, hk.2⟩)) hg hat)
           replace HO_44 := Aside0.mk (Kd.R_after (ok := (fun k_ => nb (.slice (some ad178) t107.length co87) k_ ∧ nb (.slice Ao163 t172.length co163) k_ ∧ nb v207 k_ ∧ nb (.slice (some ad178) t107.length co87) k_ ∧ nb (.slice Ao52 t103.length co52) k_ ∧ nb v218 k_)) (by exact Kd.R_mono HO_44.out (fun _ hk => ⟨⟨hk.1.1.1, ⟨hk.1.1.2.1, ⟨hk.1.1.2.2.1, ⟨hk.1.1.2.2.2.1, ⟨hk.1.1.2.2.2.2, hk.1.2⟩⟩⟩⟩⟩, hk.2⟩)) hg hat)
           replace HO_50 := Aside0.mk (Kd.R_after (ok := (fun k_ => nb (.slice (some ad178) t107.length co87) k_ ∧ nb (.slice Ao163 t172.length co163) k_ ∧ nb (.slice Ao171 t195.length co171) k_ ∧ nb (.slice (some ad178) t107.length co87) k_ ∧ nb (.slice Ao52 t103.length co52) k_ ∧ nb v218 k_)) (by exact Kd.R_mono HO_50.out (fun _ hk => ⟨⟨hk.1.1.1, ⟨hk.1.1.2.1, ⟨hk.1.1.2.2.1, ⟨hk.1.1.2.2.2.1, ⟨hk.1.1.2.2.2.2, hk.1.2⟩⟩⟩⟩⟩, hk.2⟩)) hg hat)
           replace HO_319 := Aside0.mk (Kd.R_after (ok := (fun k_ => nb (.slice Ao163 t172.length co163) k_ ∧ nb (.slice Ao171 t195.length co171) k_ ∧ nb v207 k_ ∧ nb (.slice Ao52 t103.length co52) k_ ∧ nb v218 k_)) (by exact Kd.R_mono HO_319.out (fun _ hk => ⟨⟨hk.1.1.1, ⟨hk.1.1.2.1, ⟨hk.1.1.2.2.1, ⟨hk.1.1.2.2.2, hk.1.2⟩⟩⟩⟩, hk.2⟩)) hg hat)
           replace HO_425 := Aside0.mk (Kd.S_after (ok := (fun k_ => nb (.slice (some ad178) t107.length co87) k_ ∧ nb (.slice Ao163 t172.length co163) k_ ∧ nb (.slice Ao171 t195.length co171) k_ ∧ nb v207 k_ ∧ nb (.slice (some ad178) t107.length co87) k_ ∧ nb (.slice Ao52 t103.length co52) k_ ∧ nb v218 k_)) (by exact Kd.S_mono HO_425.out (fun _ hk => ⟨⟨hk.1.1.1, ⟨hk.1.1.2.1, ⟨hk.1.1.2.2.1, ⟨hk.1.1.2.2.2.1, ⟨hk.1.1.2.2.2.2.1, ⟨hk.1.1.2.2.2.2.2, hk.1.2⟩⟩⟩⟩⟩⟩, hk.2⟩)) hg hat)
           replace HL200_0 := Aside0.mk (Kd.R_after (ok := (fun k_ => nb (.slice (some ad178) t107.length co87) k_ ∧ nb (.slice Ao163 t172.length co163) k_ ∧ nb (.slice Ao171 t195.length co171) k_ ∧ nb v207 k_ ∧ nb (.slice (some ad178) t107.length co87) k_ ∧ nb (.slice Ao52 t103.length co52) k_ ∧ nb v218 k_)) (by exact Kd.R_mono HL200_0.out (fun _ hk => ⟨⟨hk.1.1.1, ⟨hk.1.1.2.1, ⟨hk.1.1.2.2.1, ⟨hk.1.1.2.2.2.1, ⟨hk.1.1.2.2.2.2.1, ⟨hk.1.1.2.2.2.2.2, hk.1.2⟩⟩⟩⟩⟩⟩, hk.2⟩)) hg hat)
           replace HO_107001 := Aside0.mk (Kd.R_after (ok := (fun k_ => nb (.slice (some ad178) t107.length co87) k_ ∧ nb (.slice Ao163 t172.length co163) k_ ∧ nb (.slice Ao171 t195.length co171) k_ ∧ nb v207 k_ ∧ nb (.slice (some ad178) t107.length co87) k_ ∧ nb v218 k_)) (by exact Kd.R_mono HO_107001.out (fun _ hk => ⟨⟨hk.1.1.1, ⟨hk.1.1.2.1, ⟨hk.1.1.2.2.1, ⟨hk.1.1.2.2.2.1, ⟨hk.1.1.2.2.2.2, hk.1.2⟩⟩⟩⟩⟩, hk.2⟩)) hg hat)
           replace BK106 := Aside0.mk (blk_grown (g := gb106) (o := .cells #[.int .i64 t102, .slice Ao52 t103.length co52] 26 (0, 0)) BK106.out hg (Kd.R_ne HO212.out BK106.out (by decide)))
           replace BK134 := Aside0.mk (blk_grown (g := gb134) (o := .cells #[.int .i64 t131, .int .i64 t132] 60 (0, 0)) BK134.out hg (Kd.R_ne HO212.out BK134.out (by decide)))
           replace BK138 := Aside0.mk (blk_grown (g := gb138) (o := .cells #[.int .i64 t135, .int .i64 t136] 60 (0, 0)) BK138.out hg (Kd.R_ne HO212.out BK138.out (by decide)))
           replace HO219 := Aside0.mk (Kd.R_after (ok := (fun k_ => nb (.slice (some ad178) t107.length co87) k_ ∧ nb (.slice Ao163 t172.length co163) k_ ∧ nb (.slice Ao171 t195.length co171) k_ ∧ nb v207 k_ ∧ nb (.slice (some ad178) t107.length co87) k_ ∧ nb (.slice Ao52 t103.length co52) k_)) (by exact Kd.R_mono HO219.out (fun _ hk => ⟨⟨hk.1.1.1.1.1.1.2, ⟨hk.1.1.1.1.1.2, ⟨hk.1.1.1.1.2, ⟨hk.1.1.1.2, ⟨hk.1.1.2, hk.1.2⟩⟩⟩⟩⟩, hk.2⟩)) hg hat)
           replace HB := Aside0.mk (hb)
           clear ho hb hg hat
           refine hK.out _ _ trivial (fun hHeld => ?_)
           clear hK K
           refine nM ?_
           exact norm_ (by simp only [putAll, Act.put, sA, sZ, sS]) (hCont (v211, v215, v218) _ ⟨(by exact Kd.R_mono HO216.out (fun _ hk => ⟨hk.2.2.2.2.2.2, ⟨hk.2.2.2.2.2.1, ⟨hk.2.2.2.2.1, ⟨hk.2.1, ⟨hk.2.2.1, ⟨hk.2.2.2.1, hk.1⟩⟩⟩⟩⟩⟩)), (by exact Kd.R_mono HO219.out (fun _ hk => ⟨hk.2, ⟨hk.1.2.2.2.2.2, ⟨hk.1.2.2.2.2.1, ⟨hk.1.2.1, ⟨hk.1.2.2.1, ⟨hk.1.2.2.2.1, hk.1.1⟩⟩⟩⟩⟩⟩)), HO_10.out, (by exact Kd.R_mono HO_107001.out (fun _ hk => ⟨hk.2, ⟨hk.1.2.2.2.2.2, ⟨hk.1.2.2.2.2.1, ⟨hk.1.2.1, ⟨hk.1.2.2.1, ⟨hk.1.2.2.2.1, hk.1.1⟩⟩⟩⟩⟩⟩)), HO_14.out, HO_22.out, HO_26.out, HO_30.out, (by exact Kd.R_mono HO_319.out (fun _ hk => ⟨hk.2, ⟨hk.1.2.2.2.2, ⟨hk.1.2.2.2.1, ⟨hk.1.1, ⟨hk.1.2.1, hk.1.2.2.1⟩⟩⟩⟩⟩)), (by exact Kd.R_mono HO_38.out (fun _ hk => ⟨hk.2, ⟨hk.1.2.2.2.2.2, ⟨hk.1.2.2.2.2.1, ⟨hk.1.2.2.2.1, ⟨hk.1.2.1, ⟨hk.1.2.2.1, hk.1.1⟩⟩⟩⟩⟩⟩)), (by exact Kd.S_mono HO_42.out (fun _ hk => ⟨hk.2, ⟨hk.1.2.2.2.2.2.2, ⟨hk.1.2.2.2.2.2.1, ⟨hk.1.2.2.2.2.1, ⟨hk.1.2.1, ⟨hk.1.2.2.1, ⟨hk.1.2.2.2.1, hk.1.1⟩⟩⟩⟩⟩⟩⟩)), (by exact Kd.S_mono HO_425.out (fun _ hk => ⟨hk.2, ⟨hk.1.2.2.2.2.2.2, ⟨hk.1.2.2.2.2.2.1, ⟨hk.1.2.2.2.2.1, ⟨hk.1.2.1, ⟨hk.1.2.2.1, ⟨hk.1.2.2.2.1, hk.1.1⟩⟩⟩⟩⟩⟩⟩)), (by exact Kd.R_mono HL200_0.out (fun _ hk => ⟨hk.2, ⟨hk.1.2.2.2.2.2.2, ⟨hk.1.2.2.2.2.2.1, ⟨hk.1.2.2.2.2.1, ⟨hk.1.2.1, ⟨hk.1.2.2.1, ⟨hk.1.2.2.2.1, hk.1.1⟩⟩⟩⟩⟩⟩⟩)), (by exact Kd.R_mono HO_44.out (fun _ hk => ⟨hk.2, ⟨hk.1.2.2.2.2.2, ⟨hk.1.2.2.2.2.1, ⟨hk.1.2.2.2.1, ⟨hk.1.2.1, ⟨hk.1.2.2.1, hk.1.1⟩⟩⟩⟩⟩⟩)), (by exact Kd.R_mono HO_50.out (fun _ hk => ⟨hk.2, ⟨hk.1.2.2.2.2.2, ⟨hk.1.2.2.2.2.1, ⟨hk.1.2.2.2.1, ⟨hk.1.2.1, ⟨hk.1.2.2.1, hk.1.1⟩⟩⟩⟩⟩⟩)), (by exact Kd.R_mono HO_6.out (fun _ hk => ⟨hk.2, ⟨hk.1.2.2.2.2, ⟨hk.1.2.2.2.1, ⟨hk.1.1, ⟨hk.1.2.1, hk.1.2.2.1⟩⟩⟩⟩⟩)), BK106.out, BK134.out, BK138.out, HB.out⟩)
          rintro ⟨v211, v215, v218⟩ w207 ⟨h0_, h1_, h2_, h3_, h4_, h5_, h6_, h7_, h8_, h9_, h10_, h11_, hL_, h12_, h13_, h14_, h15_, h16_, h17_, h18_⟩
          have n0_ : Aside0 (Kd.R (Kd.int .i64) 3 w207 w.heap.size (fun k_ => nb v218 k_ ∧ nb (.slice Ao52 t103.length co52) k_ ∧ nb (.slice (some ad178) t107.length co87) k_ ∧ nb (.slice Ao163 t172.length co163) k_ ∧ nb (.slice Ao171 t195.length co171) k_ ∧ nb v207 k_ ∧ nb (.slice (some ad178) t107.length co87) k_) v215 y214) := ⟨h0_⟩
          have n1_ : Aside0 (Kd.R (Kd.int .i64) 3 w207 w.heap.size (fun k_ => nb v215 k_ ∧ nb (.slice Ao52 t103.length co52) k_ ∧ nb (.slice (some ad178) t107.length co87) k_ ∧ nb (.slice Ao163 t172.length co163) k_ ∧ nb (.slice Ao171 t195.length co171) k_ ∧ nb v207 k_ ∧ nb (.slice (some ad178) t107.length co87) k_) v218 y217) := ⟨h1_⟩
          have n2_ : Aside0 (Kd.R k60 60 w207 w.heap.size (fun k_ => nb (.slice (some ad181) t123.length co91) k_ ∧ nb (.slice (some ad184) t139.length co95) k_ ∧ nb (.slice (some ad186) t147.length co97) k_ ∧ nb (.slice (some ad188) t155.length co99) k_ ∧ k_ ≠ gb134 ∧ k_ ≠ gb138) (.slice (some ad179) t115.length co89) t115) := ⟨h2_⟩
          have n3_ : Aside0 (Kd.R (Kd.int .i64) 3 w207 w.heap.size (fun k_ => nb v215 k_ ∧ nb v218 k_ ∧ nb (.slice (some ad178) t107.length co87) k_ ∧ nb (.slice Ao163 t172.length co163) k_ ∧ nb (.slice Ao171 t195.length co171) k_ ∧ nb v207 k_ ∧ nb (.slice (some ad178) t107.length co87) k_) (.slice Ao52 t103.length co52) t103) := ⟨h3_⟩
          have n4_ : Aside0 (Kd.R k60 60 w207 w.heap.size (fun k_ => nb (.slice (some ad179) t115.length co89) k_ ∧ nb (.slice (some ad184) t139.length co95) k_ ∧ nb (.slice (some ad186) t147.length co97) k_ ∧ nb (.slice (some ad188) t155.length co99) k_ ∧ k_ ≠ gb134 ∧ k_ ≠ gb138) (.slice (some ad181) t123.length co91) t123) := ⟨h4_⟩
          have n5_ : Aside0 (Kd.R k60 60 w207 w.heap.size (fun k_ => nb (.slice (some ad179) t115.length co89) k_ ∧ nb (.slice (some ad181) t123.length co91) k_ ∧ nb (.slice (some ad186) t147.length co97) k_ ∧ nb (.slice (some ad188) t155.length co99) k_ ∧ k_ ≠ gb134 ∧ k_ ≠ gb138) (.slice (some ad184) t139.length co95) t139) := ⟨h5_⟩
          have n6_ : Aside0 (Kd.R k60 60 w207 w.heap.size (fun k_ => nb (.slice (some ad179) t115.length co89) k_ ∧ nb (.slice (some ad181) t123.length co91) k_ ∧ nb (.slice (some ad184) t139.length co95) k_ ∧ nb (.slice (some ad188) t155.length co99) k_ ∧ k_ ≠ gb134 ∧ k_ ≠ gb138) (.slice (some ad186) t147.length co97) t147) := ⟨h6_⟩
          have n7_ : Aside0 (Kd.R k60 60 w207 w.heap.size (fun k_ => nb (.slice (some ad179) t115.length co89) k_ ∧ nb (.slice (some ad181) t123.length co91) k_ ∧ nb (.slice (some ad184) t139.length co95) k_ ∧ nb (.slice (some ad186) t147.length co97) k_ ∧ k_ ≠ gb134 ∧ k_ ≠ gb138) (.slice (some ad188) t155.length co99) t155) := ⟨h7_⟩
          have n8_ : Aside0 (Kd.R (Kd.int .i64) 3 w207 w.heap.size (fun k_ => nb v215 k_ ∧ nb v218 k_ ∧ nb (.slice Ao52 t103.length co52) k_ ∧ nb (.slice Ao163 t172.length co163) k_ ∧ nb (.slice Ao171 t195.length co171) k_ ∧ nb v207 k_) (.slice (some ad178) t107.length co87) t107) := ⟨h8_⟩
          have n9_ : Aside0 (Kd.R (Kd.int .i64) 3 w207 w.heap.size (fun k_ => nb v215 k_ ∧ nb v218 k_ ∧ nb (.slice Ao52 t103.length co52) k_ ∧ nb (.slice (some ad178) t107.length co87) k_ ∧ nb (.slice Ao171 t195.length co171) k_ ∧ nb v207 k_ ∧ nb (.slice (some ad178) t107.length co87) k_) (.slice Ao163 t172.length co163) t172) := ⟨h9_⟩
          have n10_ : Aside0 (Kd.S (Kd.slice 3 (Kd.int .i64)) 24 w207 w.heap.size (fun k_ => nb v215 k_ ∧ nb v218 k_ ∧ nb (.slice Ao52 t103.length co52) k_ ∧ nb (.slice (some ad178) t107.length co87) k_ ∧ nb (.slice Ao163 t172.length co163) k_ ∧ nb (.slice Ao171 t195.length co171) k_ ∧ nb v207 k_ ∧ nb (.slice (some ad178) t107.length co87) k_) (.slice (some ad200) t191.length co170) t191) := ⟨h10_⟩
          have n11_ : Aside0 (Kd.S (Kd.slice 3 (Kd.int .i64)) 24 w207 w.heap.size (fun k_ => nb v215 k_ ∧ nb v218 k_ ∧ nb (.slice Ao52 t103.length co52) k_ ∧ nb (.slice (some ad178) t107.length co87) k_ ∧ nb (.slice Ao163 t172.length co163) k_ ∧ nb (.slice Ao171 t195.length co171) k_ ∧ nb v207 k_ ∧ nb (.slice (some ad178) t107.length co87) k_) (.slice (some ad200) t191.length co170) t191) := ⟨h11_⟩
          have nL_ : Aside0 (Kd.R (Kd.int .i64) 3 w207 w.heap.size (fun k_ => nb v215 k_ ∧ nb v218 k_ ∧ nb (.slice Ao52 t103.length co52) k_ ∧ nb (.slice (some ad178) t107.length co87) k_ ∧ nb (.slice Ao163 t172.length co163) k_ ∧ nb (.slice Ao171 t195.length co171) k_ ∧ nb v207 k_ ∧ nb (.slice (some ad178) t107.length co87) k_) (.slice A200_0 (rd_L2 t191 x427_2).length c200_0) (rd_L2 t191 x427_2)) := ⟨hL_⟩
          have n12_ : Aside0 (Kd.R (Kd.int .i64) 3 w207 w.heap.size (fun k_ => nb v215 k_ ∧ nb v218 k_ ∧ nb (.slice Ao52 t103.length co52) k_ ∧ nb (.slice (some ad178) t107.length co87) k_ ∧ nb (.slice Ao163 t172.length co163) k_ ∧ nb v207 k_ ∧ nb (.slice (some ad178) t107.length co87) k_) (.slice Ao171 t195.length co171) t195) := ⟨h12_⟩
          have n13_ : Aside0 (Kd.R (Kd.int .i64) 3 w207 w.heap.size (fun k_ => nb v215 k_ ∧ nb v218 k_ ∧ nb (.slice Ao52 t103.length co52) k_ ∧ nb (.slice (some ad178) t107.length co87) k_ ∧ nb (.slice Ao163 t172.length co163) k_ ∧ nb (.slice Ao171 t195.length co171) k_ ∧ nb (.slice (some ad178) t107.length co87) k_) v207 y206) := ⟨h13_⟩
          have n14_ : Aside0 (Kd.R (Kd.int .i64) 3 w207 w.heap.size (fun k_ => nb v215 k_ ∧ nb v218 k_ ∧ nb (.slice Ao52 t103.length co52) k_ ∧ nb (.slice Ao163 t172.length co163) k_ ∧ nb (.slice Ao171 t195.length co171) k_ ∧ nb v207 k_) (.slice (some ad178) t107.length co87) t107) := ⟨h14_⟩
          have n15_ : Aside0 (w207.heap[gb106]? = some (.cells #[.int .i64 t102, .slice Ao52 t103.length co52] 26 (0, 0))) := ⟨h15_⟩
          have n16_ : Aside0 (w207.heap[gb134]? = some (.cells #[.int .i64 t131, .int .i64 t132] 60 (0, 0))) := ⟨h16_⟩
          have n17_ : Aside0 (w207.heap[gb138]? = some (.cells #[.int .i64 t135, .int .i64 t136] 60 (0, 0))) := ⟨h17_⟩
          have n18_ : Aside0 (Below w.heap.size w w207) := ⟨h18_⟩
          clear HO_6
          clear HO_10
          clear HO_14
          clear HO_22
          clear HO_26
          clear HO_30
          clear HO_38
          clear HO_42
          clear HO_44
          clear HO_50
          clear HO_319
          clear HO_425
          clear HL200_0
          clear HO_107001
          clear BK106
          clear BK134
          clear BK138
          clear HB
          clear h0_ h1_ h2_ h3_ h4_ h5_ h6_ h7_ h8_ h9_ h10_ h11_ h12_ h13_ h14_ h15_ h16_ h17_ h18_
          have HO216 := n0_
          have HO219 := n1_
          have HO_10 := n2_
          have HO_107001 := n3_
          have HO_14 := n4_
          have HO_22 := n5_
          have HO_26 := n6_
          have HO_30 := n7_
          have HO_319 := n8_
          have HO_38 := n9_
          have HO_42 := n10_
          have HO_425 := n11_
          have HL200_0 := nL_
          have HO_44 := n12_
          have HO_50 := n13_
          have HO_6 := n14_
          have BK106 := n15_
          have BK134 := n16_
          have BK138 := n17_
          have HB := n18_
          clear n0_ n1_ n2_ n3_ n4_ n5_ n6_ n7_ n8_ n9_ n10_ n11_ n12_ n13_ n14_ n15_ n16_ n17_ n18_
          have hHeld := trivial
          obtain ⟨Ao209, co209, eo209⟩ := Kd.R_slice HO219.out
          (first | subst eo209 | (injection eo209 with f1_ f2_ f3_; have f4_ := f1_.symm; have f5_ := f3_.symm; clear f1_ f2_ f3_; subst f4_; subst f5_))
          refine norm_ (a' := ?_) ?_ ?_
          rotate_left
          ·simp only [putAll, Act.put, sA, sZ, sS]
           rfl
          refine oN 7 HT_ (fun K hK => ?_)
          refine Kd.R_append_rows_step (Kd.int .i64) (w0 := w) w.heap.size (by rfl) (.tmp 459) (.tmp 461) 24 3 (.int .i64 0) 8 rfl Tryz.underlying24 info3 rfl (by decide) (by omega) v215 y214 y217 _ _ _ (fun k_ => nb (.slice (some ad178) t107.length co87) k_ ∧ nb (.slice Ao163 t172.length co163) k_ ∧ nb (.slice Ao171 t195.length co171) k_ ∧ nb v207 k_ ∧ nb (.slice (some ad178) t107.length co87) k_ ∧ nb (.slice Ao52 t103.length co52) k_ ∧ nb (.slice Ao209 y217.length co209) k_) (fun _ => False) rfl rfl ?aO ?aR (fun _ _ h => h) (fun _ h => h.elim) ?aF ?aB ?aS ?aL ?_
          (case aR => repeat (first | exact (Kd.R_reads' HO219.out).2.2 | (with_reducible refine Kd.C_alloc ?_ _) | (with_reducible refine Kd.C_drewN ?_ _) | (with_reducible refine Kd.C_drew ?_)))
          (case aB => exact HB.out)
          (case aF => exact (fun k_ hk => ⟨Kd.fresh' (Kd.R_lt HO_6.out) k_ hk, Kd.fresh' (Kd.R_lt HO_38.out) k_ hk, Kd.fresh' (Kd.R_lt HO_44.out) k_ hk, Kd.fresh' (Kd.R_lt HO_50.out) k_ hk, Kd.fresh' (Kd.R_lt HO_319.out) k_ hk, Kd.fresh' (Kd.R_lt HO_107001.out) k_ hk, Kd.fresh' (Kd.R_lt HO219.out) k_ hk⟩))
          (case aO => exact (by exact Kd.R_mono HO216.out (fun _ hk => ⟨hk.2.2.2.2.2.2, ⟨hk.2.2.2.1, ⟨hk.2.2.2.2.1, ⟨hk.2.2.2.2.2.1, ⟨hk.2.2.1, ⟨hk.2.1, hk.1⟩⟩⟩⟩⟩⟩)))
          (case aS => exact (below_size HB.out))
          (case aL => have := LMc193.out; omega)
          intro v221 w208 ho hb hg hat
          rw [← Ny220.out] at ho
          have HO222 := Aside0.mk (ho)
          replace HO_6 := Aside0.mk (Kd.R_after (ok := (fun k_ => nb (.slice Ao163 t172.length co163) k_ ∧ nb (.slice Ao171 t195.length co171) k_ ∧ nb v207 k_ ∧ nb (.slice Ao52 t103.length co52) k_ ∧ nb (.slice Ao209 y217.length co209) k_)) (by exact Kd.R_mono HO_6.out (fun _ hk => ⟨⟨hk.2.2.2.1, ⟨hk.2.2.2.2.1, ⟨hk.2.2.2.2.2, ⟨hk.2.2.1, hk.2.1⟩⟩⟩⟩, hk.1⟩)) hg hat)
          replace HO_10 := Aside0.mk (Kd.R_over' HO_10.out (Kd.R_typed HO216.out) (by decide) hg)
          replace HO_14 := Aside0.mk (Kd.R_over' HO_14.out (Kd.R_typed HO216.out) (by decide) hg)
          replace HO_22 := Aside0.mk (Kd.R_over' HO_22.out (Kd.R_typed HO216.out) (by decide) hg)
          replace HO_26 := Aside0.mk (Kd.R_over' HO_26.out (Kd.R_typed HO216.out) (by decide) hg)
          replace HO_30 := Aside0.mk (Kd.R_over' HO_30.out (Kd.R_typed HO216.out) (by decide) hg)
          replace HO_38 := Aside0.mk (Kd.R_after (ok := (fun k_ => nb (.slice (some ad178) t107.length co87) k_ ∧ nb (.slice Ao171 t195.length co171) k_ ∧ nb v207 k_ ∧ nb (.slice (some ad178) t107.length co87) k_ ∧ nb (.slice Ao52 t103.length co52) k_ ∧ nb (.slice Ao209 y217.length co209) k_)) (by exact Kd.R_mono HO_38.out (fun _ hk => ⟨⟨hk.2.2.2.2.2.2, ⟨hk.2.2.2.2.1, ⟨hk.2.2.2.2.2.1, ⟨hk.2.2.2.1, ⟨hk.2.2.1, hk.2.1⟩⟩⟩⟩⟩, hk.1⟩)) hg hat)
          replace HO_42 := Aside0.mk (Kd.S_after (ok := (fun k_ => nb (.slice (some ad178) t107.length co87) k_ ∧ nb (.slice Ao163 t172.length co163) k_ ∧ nb (.slice Ao171 t195.length co171) k_ ∧ nb v207 k_ ∧ nb (.slice (some ad178) t107.length co87) k_ ∧ nb (.slice Ao52 t103.length co52) k_ ∧ nb (.slice Ao209 y217.length co209) k_)) (by exact Kd.S_mono HO_42.out (fun _ hk => ⟨⟨hk.2.2.2.2.2.2.2, ⟨hk.2.2.2.2.1, ⟨hk.2.2.2.2.2.1, ⟨hk.2.2.2.2.2.2.1, ⟨hk.2.2.2.1, ⟨hk.2.2.1, hk.2.1⟩⟩⟩⟩⟩⟩, hk.1⟩)) hg hat)
          replace HO_44 := Aside0.mk (Kd.R_after (ok := (fun k_ => nb (.slice (some ad178) t107.length co87) k_ ∧ nb (.slice Ao163 t172.length co163) k_ ∧ nb v207 k_ ∧ nb (.slice (some ad178) t107.length co87) k_ ∧ nb (.slice Ao52 t103.length co52) k_ ∧ nb (.slice Ao209 y217.length co209) k_)) (by exact Kd.R_mono HO_44.out (fun _ hk => ⟨⟨hk.2.2.2.2.2.2, ⟨hk.2.2.2.2.1, ⟨hk.2.2.2.2.2.1, ⟨hk.2.2.2.1, ⟨hk.2.2.1, hk.2.1⟩⟩⟩⟩⟩, hk.1⟩)) hg hat)
          replace HO_50 := Aside0.mk (Kd.R_after (ok := (fun k_ => nb (.slice (some ad178) t107.length co87) k_ ∧ nb (.slice Ao163 t172.length co163) k_ ∧ nb (.slice Ao171 t195.length co171) k_ ∧ nb (.slice (some ad178) t107.length co87) k_ ∧ nb (.slice Ao52 t103.length co52) k_ ∧ nb (.slice Ao209 y217.length co209) k_)) (by exact Kd.R_mono HO_50.out (fun _ hk => ⟨⟨hk.2.2.2.2.2.2, ⟨hk.2.2.2.2.1, ⟨hk.2.2.2.2.2.1, ⟨hk.2.2.2.1, ⟨hk.2.2.1, hk.2.1⟩⟩⟩⟩⟩, hk.1⟩)) hg hat)
          replace HO_319 := Aside0.mk (Kd.R_after (ok := (fun k_ => nb (.slice Ao163 t172.length co163) k_ ∧ nb (.slice Ao171 t195.length co171) k_ ∧ nb v207 k_ ∧ nb (.slice Ao52 t103.length co52) k_ ∧ nb (.slice Ao209 y217.length co209) k_)) (by exact Kd.R_mono HO_319.out (fun _ hk => ⟨⟨hk.2.2.2.1, ⟨hk.2.2.2.2.1, ⟨hk.2.2.2.2.2, ⟨hk.2.2.1, hk.2.1⟩⟩⟩⟩, hk.1⟩)) hg hat)
          replace HO_425 := Aside0.mk (Kd.S_after (ok := (fun k_ => nb (.slice (some ad178) t107.length co87) k_ ∧ nb (.slice Ao163 t172.length co163) k_ ∧ nb (.slice Ao171 t195.length co171) k_ ∧ nb v207 k_ ∧ nb (.slice (some ad178) t107.length co87) k_ ∧ nb (.slice Ao52 t103.length co52) k_ ∧ nb (.slice Ao209 y217.length co209) k_)) (by exact Kd.S_mono HO_425.out (fun _ hk => ⟨⟨hk.2.2.2.2.2.2.2, ⟨hk.2.2.2.2.1, ⟨hk.2.2.2.2.2.1, ⟨hk.2.2.2.2.2.2.1, ⟨hk.2.2.2.1, ⟨hk.2.2.1, hk.2.1⟩⟩⟩⟩⟩⟩, hk.1⟩)) hg hat)
          replace HL200_0 := Aside0.mk (Kd.R_after (ok := (fun k_ => nb (.slice (some ad178) t107.length co87) k_ ∧ nb (.slice Ao163 t172.length co163) k_ ∧ nb (.slice Ao171 t195.length co171) k_ ∧ nb v207 k_ ∧ nb (.slice (some ad178) t107.length co87) k_ ∧ nb (.slice Ao52 t103.length co52) k_ ∧ nb (.slice Ao209 y217.length co209) k_)) (by exact Kd.R_mono HL200_0.out (fun _ hk => ⟨⟨hk.2.2.2.2.2.2.2, ⟨hk.2.2.2.2.1, ⟨hk.2.2.2.2.2.1, ⟨hk.2.2.2.2.2.2.1, ⟨hk.2.2.2.1, ⟨hk.2.2.1, hk.2.1⟩⟩⟩⟩⟩⟩, hk.1⟩)) hg hat)
          replace HO_107001 := Aside0.mk (Kd.R_after (ok := (fun k_ => nb (.slice (some ad178) t107.length co87) k_ ∧ nb (.slice Ao163 t172.length co163) k_ ∧ nb (.slice Ao171 t195.length co171) k_ ∧ nb v207 k_ ∧ nb (.slice (some ad178) t107.length co87) k_ ∧ nb (.slice Ao209 y217.length co209) k_)) (by exact Kd.R_mono HO_107001.out (fun _ hk => ⟨⟨hk.2.2.2.2.2.2, ⟨hk.2.2.2.1, ⟨hk.2.2.2.2.1, ⟨hk.2.2.2.2.2.1, ⟨hk.2.2.1, hk.2.1⟩⟩⟩⟩⟩, hk.1⟩)) hg hat)
          replace BK106 := Aside0.mk (blk_grown (g := gb106) (o := .cells #[.int .i64 t102, .slice Ao52 t103.length co52] 26 (0, 0)) BK106.out hg (Kd.R_ne HO216.out BK106.out (by decide)))
          replace BK134 := Aside0.mk (blk_grown (g := gb134) (o := .cells #[.int .i64 t131, .int .i64 t132] 60 (0, 0)) BK134.out hg (Kd.R_ne HO216.out BK134.out (by decide)))
          replace BK138 := Aside0.mk (blk_grown (g := gb138) (o := .cells #[.int .i64 t135, .int .i64 t136] 60 (0, 0)) BK138.out hg (Kd.R_ne HO216.out BK138.out (by decide)))
          replace HO219 := Aside0.mk (Kd.R_after (ok := (fun k_ => nb (.slice (some ad178) t107.length co87) k_ ∧ nb (.slice Ao163 t172.length co163) k_ ∧ nb (.slice Ao171 t195.length co171) k_ ∧ nb v207 k_ ∧ nb (.slice (some ad178) t107.length co87) k_ ∧ nb (.slice Ao52 t103.length co52) k_)) (by exact Kd.R_mono HO219.out (fun _ hk => ⟨⟨hk.2.2.2.2.2.2, ⟨hk.2.2.2.1, ⟨hk.2.2.2.2.1, ⟨hk.2.2.2.2.2.1, ⟨hk.2.2.1, hk.2.1⟩⟩⟩⟩⟩, hk.1⟩)) hg hat)
          replace HB := Aside0.mk (hb)
          clear ho hb hg hat
          refine hK.out _ _ trivial (fun hHeld => ?_)
          clear hK K
          refine nM ?_
          refine oN 11 HT_ (fun K hK => ?_)
          refine Kd.R_append_rows_step (Kd.int .i64) (w0 := w) w.heap.size (by rfl) (.tmp 462) (.tmp 465) 24 3 (.int .i64 0) 8 rfl Tryz.underlying24 info3 rfl (by decide) (by omega) v221 y220 ((rd_L2 t191 x427_2).drop (x51_3 : Int).toNat) _ _ _ (fun k_ => nb (.slice (some ad178) t107.length co87) k_ ∧ nb (.slice Ao163 t172.length co163) k_ ∧ nb (.slice Ao171 t195.length co171) k_ ∧ nb v207 k_ ∧ nb (.slice (some ad178) t107.length co87) k_ ∧ nb (.slice Ao52 t103.length co52) k_ ∧ nb (.slice Ao209 y217.length co209) k_) (fun _ => False) rfl rfl ?aO ?aR (fun _ _ h => h) (fun _ h => h.elim) ?aF ?aB ?aS ?aL ?_
          (case aR => have hx_ := (Kd.C_of_reads (h1 := fun _ => rfl) (hA201 _ (Kd.reads_of_C (Kd.R_reads' HL200_0.out).2.2))); (try rw [show ((rd_L2 t191 x427_2).drop (x51_3 : Int).toNat).length = ((rd_L2 t191 x427_2).length - x51_3.toNat) from List.length_drop] at hx_); exact hx_)
          (case aB => exact HB.out)
          (case aF => exact (fun k_ hk => ⟨Kd.fresh' (Kd.R_lt HO_6.out) k_ hk, Kd.fresh' (Kd.R_lt HO_38.out) k_ hk, Kd.fresh' (Kd.R_lt HO_44.out) k_ hk, Kd.fresh' (Kd.R_lt HO_50.out) k_ hk, Kd.fresh' (Kd.R_lt HO_319.out) k_ hk, Kd.fresh' (Kd.R_lt HO_107001.out) k_ hk, Kd.fresh' (Kd.R_lt HO219.out) k_ hk⟩))
          (case aO => exact HO222.out)
          (case aS => exact (below_size HB.out))
          (case aL => have := LMc196.out; have hlx_ := (show ((rd_L2 t191 x427_2).drop (x51_3 : Int).toNat).length = ((rd_L2 t191 x427_2).length - x51_3.toNat) from List.length_drop); omega)
          intro v225 w210 ho hb hg hat
          rw [← Ny224.out] at ho
          have HO226 := Aside0.mk (ho)
          replace HO_6 := Aside0.mk (Kd.R_after (ok := (fun k_ => nb (.slice Ao163 t172.length co163) k_ ∧ nb (.slice Ao171 t195.length co171) k_ ∧ nb v207 k_ ∧ nb (.slice Ao52 t103.length co52) k_ ∧ nb (.slice Ao209 y217.length co209) k_)) HO_6.out hg hat)
          replace HO_10 := Aside0.mk (Kd.R_over' HO_10.out (Kd.R_typed HO222.out) (by decide) hg)
          replace HO_14 := Aside0.mk (Kd.R_over' HO_14.out (Kd.R_typed HO222.out) (by decide) hg)
          replace HO_22 := Aside0.mk (Kd.R_over' HO_22.out (Kd.R_typed HO222.out) (by decide) hg)
          replace HO_26 := Aside0.mk (Kd.R_over' HO_26.out (Kd.R_typed HO222.out) (by decide) hg)
          replace HO_30 := Aside0.mk (Kd.R_over' HO_30.out (Kd.R_typed HO222.out) (by decide) hg)
          replace HO_38 := Aside0.mk (Kd.R_after (ok := (fun k_ => nb (.slice (some ad178) t107.length co87) k_ ∧ nb (.slice Ao171 t195.length co171) k_ ∧ nb v207 k_ ∧ nb (.slice (some ad178) t107.length co87) k_ ∧ nb (.slice Ao52 t103.length co52) k_ ∧ nb (.slice Ao209 y217.length co209) k_)) HO_38.out hg hat)
          replace HO_42 := Aside0.mk (Kd.S_after (ok := (fun k_ => nb (.slice (some ad178) t107.length co87) k_ ∧ nb (.slice Ao163 t172.length co163) k_ ∧ nb (.slice Ao171 t195.length co171) k_ ∧ nb v207 k_ ∧ nb (.slice (some ad178) t107.length co87) k_ ∧ nb (.slice Ao52 t103.length co52) k_ ∧ nb (.slice Ao209 y217.length co209) k_)) HO_42.out hg hat)
          replace HO_44 := Aside0.mk (Kd.R_after (ok := (fun k_ => nb (.slice (some ad178) t107.length co87) k_ ∧ nb (.slice Ao163 t172.length co163) k_ ∧ nb v207 k_ ∧ nb (.slice (some ad178) t107.length co87) k_ ∧ nb (.slice Ao52 t103.length co52) k_ ∧ nb (.slice Ao209 y217.length co209) k_)) HO_44.out hg hat)
          replace HO_50 := Aside0.mk (Kd.R_after (ok := (fun k_ => nb (.slice (some ad178) t107.length co87) k_ ∧ nb (.slice Ao163 t172.length co163) k_ ∧ nb (.slice Ao171 t195.length co171) k_ ∧ nb (.slice (some ad178) t107.length co87) k_ ∧ nb (.slice Ao52 t103.length co52) k_ ∧ nb (.slice Ao209 y217.length co209) k_)) HO_50.out hg hat)
          replace HO_319 := Aside0.mk (Kd.R_after (ok := (fun k_ => nb (.slice Ao163 t172.length co163) k_ ∧ nb (.slice Ao171 t195.length co171) k_ ∧ nb v207 k_ ∧ nb (.slice Ao52 t103.length co52) k_ ∧ nb (.slice Ao209 y217.length co209) k_)) HO_319.out hg hat)
          replace HO_425 := Aside0.mk (Kd.S_after (ok := (fun k_ => nb (.slice (some ad178) t107.length co87) k_ ∧ nb (.slice Ao163 t172.length co163) k_ ∧ nb (.slice Ao171 t195.length co171) k_ ∧ nb v207 k_ ∧ nb (.slice (some ad178) t107.length co87) k_ ∧ nb (.slice Ao52 t103.length co52) k_ ∧ nb (.slice Ao209 y217.length co209) k_)) HO_425.out hg hat)
          replace HL200_0 := Aside0.mk (Kd.R_after (ok := (fun k_ => nb (.slice (some ad178) t107.length co87) k_ ∧ nb (.slice Ao163 t172.length co163) k_ ∧ nb (.slice Ao171 t195.length co171) k_ ∧ nb v207 k_ ∧ nb (.slice (some ad178) t107.length co87) k_ ∧ nb (.slice Ao52 t103.length co52) k_ ∧ nb (.slice Ao209 y217.length co209) k_)) HL200_0.out hg hat)
          replace HO_107001 := Aside0.mk (Kd.R_after (ok := (fun k_ => nb (.slice (some ad178) t107.length co87) k_ ∧ nb (.slice Ao163 t172.length co163) k_ ∧ nb (.slice Ao171 t195.length co171) k_ ∧ nb v207 k_ ∧ nb (.slice (some ad178) t107.length co87) k_ ∧ nb (.slice Ao209 y217.length co209) k_)) HO_107001.out hg hat)
          replace BK106 := Aside0.mk (blk_grown (g := gb106) (o := .cells #[.int .i64 t102, .slice Ao52 t103.length co52] 26 (0, 0)) BK106.out hg (Kd.R_ne HO222.out BK106.out (by decide)))
          replace BK134 := Aside0.mk (blk_grown (g := gb134) (o := .cells #[.int .i64 t131, .int .i64 t132] 60 (0, 0)) BK134.out hg (Kd.R_ne HO222.out BK134.out (by decide)))
          replace BK138 := Aside0.mk (blk_grown (g := gb138) (o := .cells #[.int .i64 t135, .int .i64 t136] 60 (0, 0)) BK138.out hg (Kd.R_ne HO222.out BK138.out (by decide)))
          replace HO219 := Aside0.mk (Kd.R_after (ok := (fun k_ => nb (.slice (some ad178) t107.length co87) k_ ∧ nb (.slice Ao163 t172.length co163) k_ ∧ nb (.slice Ao171 t195.length co171) k_ ∧ nb v207 k_ ∧ nb (.slice (some ad178) t107.length co87) k_ ∧ nb (.slice Ao52 t103.length co52) k_)) HO219.out hg hat)
          replace HB := Aside0.mk (hb)
          clear ho hb hg hat
          refine hK.out _ _ trivial (fun hHeld => ?_)
          clear hK K
          refine nM ?_
          refine pU 12 HT_ ?_
          refine done_ (done_of HT_.out (by kernel_rfl)) ?_
          have hnb211 := NB106_134.out
          have hnc211 := NB134_106.out
          have hnb212 := NB106_138.out
          have hnc212 := NB138_106.out
          obtain ⟨hcz213_0, hcz213_1, hfz213_0, hfz213_1⟩ := zZ BK106
          obtain ⟨Ao214, co214, eo214⟩ := Kd.R_slice HO226.out
          subst eo214
          go_upto_region 46 with (first | ((with_reducible refine gate_callee (f := 12) rfl ?_); refine gL 470 Tryz.func12 #[.agg #[.int .i64 t102, .slice Ao52 t103.length co52], .slice Ao214 y224.length co214] ?_; (with_reducible refine (impl_IsWinning.calls kj183 t102 _ _ t103 _ _ y224 t227 t228 _ ?side1 ?side2 ?side3 ?side4 A197.out).mono ?_); (case side1 => have hx_ := (Kd.R_reads' HO_107001.out).2.2; exact cC); (case side2 => exact (Kd.R_reads' HO_107001.out).2.1); (case side3 => have hx_ := (Kd.R_reads' HO226.out).2.2; exact cC); (case side4 => exact (Kd.R_reads' HO226.out).2.1); rintro e w215 ⟨rfl, hb⟩; refine ⟨_, rfl, ?_⟩; replace HO_6 := rB HO_6 hb; replace HO_10 := rB HO_10 hb; replace HO_14 := rB HO_14 hb; replace HO_22 := rB HO_22 hb; replace HO_26 := rB HO_26 hb; replace HO_30 := rB HO_30 hb; replace HO_38 := rB HO_38 hb; replace HO_42 := tB HO_42 hb; replace HO_44 := rB HO_44 hb; replace HO_50 := rB HO_50 hb; replace HO_319 := rB HO_319 hb; replace HO_425 := tB HO_425 hb; replace HL200_0 := rB HL200_0 hb; replace HO_107001 := rB HO_107001 hb; replace HO219 := rB HO219 hb; replace HO226 := rB HO226 hb; replace BK106 := bB BK106 hb; replace BK134 := bB BK134 hb; replace BK138 := bB BK138 hb; replace HB := sB HB hb; (try clear hb)))
          (try simp only [Act.put, sA, sZ, sS])
          refine cutT_ [F,F,F,F,F,F,F,F,F,F,F,F,F,F,F,F,F,F,F,F,F,F,F,F,F,F,F,F,F,F,F,F,F,F,F,F,F,F,F,F,F,F,F,F,F,F,F,F,F,F,F,F,F,F,F,F,F,F,F,F,F,F,F,F,F,F,F,F,F,F,F,F,F,F,F,F,F,F,F,F,F,F,F,F,F,F,F,F,F,F,F,F,F,F,F,F,F,F,F,F,F,F,F,F,F,F,F,F,F,F,F,F,F,F,F,F,F,F,F,F,F,F,F,F,F,F,F,F,F,F,F,F,F,F,F,F,F,F,F,F,F,F,F,F,F,F,F,F,F,F,F,F,F,F,F,F,F,F,F,F,F,F,F,F,F,F,F,F,F,F,F,F,F,F,F,F,F,F,F,F,F,F,F,F,F,F,F,F,F,F,F,F,F,F,F,F,F,F,F,F,F,F,F,F,F,F,F,F,F,F,F,F,F,F,F,F,F,F,F,F,F,F,F,F,F,F,F,F,F,F,F,F,F,F,F,F,F,F,F,F,F,F,F,F,F,F,F,F,F,F,F,F,F,F,F,F,F,F,F,F,F,F,F,F,F,F,F,F,F,F,F,F,F,F,F,F,F,F,F,F,F,F,F,F,F,F,F,F,F,F,F,F,F,F,F,F,F,F,F,F,F,F,F,F,F,F,F,F,F,F,F,F,F,F,F,F,F,F,F,F,F,F,F,F,F,F,F,F,F,F,F,F,F,F,F,F,F,F,F,F,F,F,F,F,F,F,F,F,F,F,F,F,F,F,F,F,F,F,F,F,F,F,F,F,F,F,F,F,F,F,F,F,F,F,F,F,F,F,F,F,F,F,F,F,F,F,F,F,F,F,F,F,F,F,F,F,F,F,F,F,F,F,F,F,F,F,F,F,F,F,F,F,F,F,F,F,F,F,F,F,F,F,F,F,F,F,F,F,F,F,F,F,F,F,F,F,F,F,F,F,F,F,F,F,F,F,F,F,F,F,F,F,F,F,F,F,F,F,F,F,F,F,F,F,F,F,F,F,F,F,F,F,F,T,T,T,T,T,T,T,T,T,T,T,T,T,T,T,T,T,T,T,T,T,T,T,T,T,T,T,T,T,T,T,T,T,T,T,T,T,T,T,T] (fun T_ wc_ => (fun v512 wc => ∃ (kq : Nat) (x512_197 : Bool), v512 = .bool x512_197 ∧ Aside0 (laws_FnSwingsTold.j4 kq l1 t107 t115 t123 t139 t147 t155 (t103.length : Int) ji104 t170 t172 x321_1 t191 t195 t107 (t107.length : Int) x321_1 t191 (t191.length : Int) x427_2 x512_197 t102 t103 = some r) ∧ Aside0 (kq ≤ kj183) ∧ Aside0 (Kd.R (Kd.int .i64) 3 wc w.heap.size (fun k_ => nb (.slice Ao163 t172.length co163) k_ ∧ nb (.slice Ao171 t195.length co171) k_ ∧ nb (.slice Ao52 t103.length co52) k_) (.slice (some ad178) t107.length co87) t107) ∧ Aside0 (Kd.R k60 60 wc w.heap.size (fun k_ => nb (.slice (some ad181) t123.length co91) k_ ∧ nb (.slice (some ad184) t139.length co95) k_ ∧ nb (.slice (some ad186) t147.length co97) k_ ∧ nb (.slice (some ad188) t155.length co99) k_ ∧ k_ ≠ gb134 ∧ k_ ≠ gb138) (.slice (some ad179) t115.length co89) t115) ∧ Aside0 (Kd.R k60 60 wc w.heap.size (fun k_ => nb (.slice (some ad179) t115.length co89) k_ ∧ nb (.slice (some ad184) t139.length co95) k_ ∧ nb (.slice (some ad186) t147.length co97) k_ ∧ nb (.slice (some ad188) t155.length co99) k_ ∧ k_ ≠ gb134 ∧ k_ ≠ gb138) (.slice (some ad181) t123.length co91) t123) ∧ Aside0 (Kd.R k60 60 wc w.heap.size (fun k_ => nb (.slice (some ad179) t115.length co89) k_ ∧ nb (.slice (some ad181) t123.length co91) k_ ∧ nb (.slice (some ad186) t147.length co97) k_ ∧ nb (.slice (some ad188) t155.length co99) k_ ∧ k_ ≠ gb134 ∧ k_ ≠ gb138) (.slice (some ad184) t139.length co95) t139) ∧ Aside0 (Kd.R k60 60 wc w.heap.size (fun k_ => nb (.slice (some ad179) t115.length co89) k_ ∧ nb (.slice (some ad181) t123.length co91) k_ ∧ nb (.slice (some ad184) t139.length co95) k_ ∧ nb (.slice (some ad188) t155.length co99) k_ ∧ k_ ≠ gb134 ∧ k_ ≠ gb138) (.slice (some ad186) t147.length co97) t147) ∧ Aside0 (Kd.R k60 60 wc w.heap.size (fun k_ => nb (.slice (some ad179) t115.length co89) k_ ∧ nb (.slice (some ad181) t123.length co91) k_ ∧ nb (.slice (some ad184) t139.length co95) k_ ∧ nb (.slice (some ad186) t147.length co97) k_ ∧ k_ ≠ gb134 ∧ k_ ≠ gb138) (.slice (some ad188) t155.length co99) t155) ∧ Aside0 (Kd.R (Kd.int .i64) 3 wc w.heap.size (fun k_ => nb (.slice (some ad178) t107.length co87) k_ ∧ nb (.slice Ao171 t195.length co171) k_ ∧ nb (.slice (some ad178) t107.length co87) k_ ∧ nb (.slice Ao52 t103.length co52) k_) (.slice Ao163 t172.length co163) t172) ∧ Aside0 (Kd.S (Kd.slice 3 (Kd.int .i64)) 24 wc w.heap.size (fun k_ => nb (.slice (some ad178) t107.length co87) k_ ∧ nb (.slice Ao163 t172.length co163) k_ ∧ nb (.slice Ao171 t195.length co171) k_ ∧ nb (.slice (some ad178) t107.length co87) k_ ∧ nb (.slice Ao52 t103.length co52) k_) (.slice (some ad200) t191.length co170) t191) ∧ Aside0 (Kd.R (Kd.int .i64) 3 wc w.heap.size (fun k_ => nb (.slice (some ad178) t107.length co87) k_ ∧ nb (.slice Ao163 t172.length co163) k_ ∧ nb (.slice (some ad178) t107.length co87) k_ ∧ nb (.slice Ao52 t103.length co52) k_) (.slice Ao171 t195.length co171) t195) ∧ Aside0 (Kd.R (Kd.int .i64) 3 wc w.heap.size (fun k_ => nb (.slice Ao163 t172.length co163) k_ ∧ nb (.slice Ao171 t195.length co171) k_ ∧ nb (.slice Ao52 t103.length co52) k_) (.slice (some ad178) t107.length co87) t107) ∧ Aside0 (Kd.S (Kd.slice 3 (Kd.int .i64)) 24 wc w.heap.size (fun k_ => nb (.slice (some ad178) t107.length co87) k_ ∧ nb (.slice Ao163 t172.length co163) k_ ∧ nb (.slice Ao171 t195.length co171) k_ ∧ nb (.slice (some ad178) t107.length co87) k_ ∧ nb (.slice Ao52 t103.length co52) k_) (.slice (some ad200) t191.length co170) t191) ∧ Aside0 (Kd.R (Kd.int .i64) 3 wc w.heap.size (fun k_ => nb (.slice (some ad178) t107.length co87) k_ ∧ nb (.slice Ao163 t172.length co163) k_ ∧ nb (.slice Ao171 t195.length co171) k_ ∧ nb (.slice (some ad178) t107.length co87) k_) (.slice Ao52 t103.length co52) t103) ∧ Aside0 (wc.heap[gb106]? = some (.cells #[.int .i64 t102, (.slice Ao52 t103.length co52)] 26 (0, 0))) ∧ Aside0 (wc.heap[gb134]? = some (.cells #[.int .i64 t131, .int .i64 t132] 60 (0, 0))) ∧ Aside0 (wc.heap[gb138]? = some (.cells #[.int .i64 t135, .int .i64 t136] 60 (0, 0))) ∧ Aside0 (Below w.heap.size w wc)) (T_ 512) wc_) ?restj4 ?firstj4
          case firstj4 => as_aux_lemma =>
           intro J_ K_ hJ_j4 hM_
           have H := HC198.out
           clear HC198
           replace H := ite_yes H
           obtain ⟨c216, H⟩ := H
           subst c216
           replace H := ite_no H
           obtain ⟨c217, H⟩ := H
           replace c217 := Bool.eq_false_iff.mpr c217
           subst c217
           replace H := oA H
           obtain ⟨t229, A218, H⟩ := H
           (try dsimp only at H)
           replace H := ite_no H
           obtain ⟨c219, H⟩ := H
           replace c219 := Bool.eq_false_iff.mpr c219
           subst c219
           replace H := ite_yes H
           obtain ⟨c220, H⟩ := H
           subst c220
           replace H := ite_yes H
           obtain ⟨c221, H⟩ := H
           subst c221
           replace H := ite_yes H
           obtain ⟨c222, H⟩ := H
           have c222b0 : decide (0 ≤ ((rd_L2 t191 x427_2).length : Int)) = true := decide_eq_true c222
           have c222b1 : decide (0 ≤ (rd_L2 t191 x427_2).length) = true := decide_eq_true (by omega)
           clear c222
           (first | rw [c222b0] | (simp only [i64_w, i32_w]; rw [c222b0]) | skip)
           replace H := ite_yes H
           obtain ⟨c223, H⟩ := H
           have c223b0 : decide (((rd_L2 t191 x427_2).length : Int) < (t195.length : Int)) = true := decide_eq_true c223
           have c223b1 : decide ((rd_L2 t191 x427_2).length < t195.length) = true := decide_eq_true (Int.ofNat_lt.mp c223)
           clear c223
           replace H := ite_no H
           obtain ⟨c224, H⟩ := H
           have c224b0 : decide ((rd t195 ((rd_L2 t191 x427_2).length : Int)) < 1) = false := decide_eq_false c224
           clear c224
           by_cases c225 : x427_2 > 0
           rotate_left
           ·rw [if_neg c225] at H
            have c225b0 : decide (0 < x427_2) = false := decide_eq_false c225
            clear c225
            as_aux_lemma =>
             have H' := Aside0.mk H
             clear H
             go_wp2_with (first | (go_at_call 74; (with_reducible refine (laws_zHas.calls kj183 _ _ (rd_L2 t191 x427_2) x321_1 false _ ?side1 ?side2 A218.out).mono ?_); (case side1 => have hx_ := ((Kd.R_reads' HL200_0.out).2.2); exact cC); (case side2 => exact HC200_0.out); rintro e w' ⟨rfl, ⟨nd, rfl⟩⟩; have p230 : 0 ≤ (((rd_L2 t191 x427_2).length : Int) : Int) := oD; have q230 : ((rd_L2 t191 x427_2).length : Int) < (t195.length : Int) := oD; obtain ⟨ad230, e230, hx230_0⟩ := Kd.at_int (Kd.R_reads' HO_44.out).2.2 ((rd_L2 t191 x427_2).length : Int) p230 q230; cases e230; (try simp only [Go.IntWalk.toNatUp] at hx230_0); replace p230 := eq_true p230; replace q230 := eq_true q230))
             refine meetT_ hJ_j4 (by kernel_rfl) ?rel
             case rel => exact ⟨_, (false), gR, H', ⟨by have := HK1.out; have := HK2.out; have := HK3.out; have := HJ183.out; first | omega | exact Nat.le_refl _⟩, ⟨by (with_reducible repeat (first | apply qA | apply qN | apply qD)); exact Kd.R_mono HO_6.out (fun _ hk => by first | exact ⟨hk.1.1, ⟨hk.1.2.1, hk.1.2.2.2.1⟩⟩ | simp_all)⟩, ⟨rQ HO_10⟩, ⟨rQ HO_14⟩, ⟨rQ HO_22⟩, ⟨rQ HO_26⟩, ⟨rQ HO_30⟩, ⟨by (with_reducible repeat (first | apply qA | apply qN | apply qD)); exact Kd.R_mono HO_38.out (fun _ hk => by first | exact ⟨hk.1.1, ⟨hk.1.2.1, ⟨hk.1.2.2.2.1, hk.1.2.2.2.2.1⟩⟩⟩ | simp_all)⟩, ⟨by (with_reducible repeat (first | apply Kd.S_alloc | apply Kd.S_drewN | apply Kd.S_drew)); exact Kd.S_mono HO_42.out (fun _ hk => by first | exact ⟨hk.1.1, ⟨hk.1.2.1, ⟨hk.1.2.2.1, ⟨hk.1.2.2.2.2.1, hk.1.2.2.2.2.2.1⟩⟩⟩⟩ | simp_all)⟩, ⟨by (with_reducible repeat (first | apply qA | apply qN | apply qD)); exact Kd.R_mono HO_44.out (fun _ hk => by first | exact ⟨hk.1.1, ⟨hk.1.2.1, ⟨hk.1.2.2.2.1, hk.1.2.2.2.2.1⟩⟩⟩ | simp_all)⟩, ⟨by (with_reducible repeat (first | apply qA | apply qN | apply qD)); exact Kd.R_mono HO_319.out (fun _ hk => by first | exact ⟨hk.1.1, ⟨hk.1.2.1, hk.1.2.2.2.1⟩⟩ | simp_all)⟩, ⟨by (with_reducible repeat (first | apply Kd.S_alloc | apply Kd.S_drewN | apply Kd.S_drew)); exact Kd.S_mono HO_425.out (fun _ hk => by first | exact ⟨hk.1.1, ⟨hk.1.2.1, ⟨hk.1.2.2.1, ⟨hk.1.2.2.2.2.1, hk.1.2.2.2.2.2.1⟩⟩⟩⟩ | simp_all)⟩, ⟨by (with_reducible repeat (first | apply qA | apply qN | apply qD)); exact Kd.R_mono HO_107001.out (fun _ hk => by first | exact ⟨hk.1.1, ⟨hk.1.2.1, ⟨hk.1.2.2.1, hk.1.2.2.2.2.1⟩⟩⟩ | simp_all)⟩, ⟨bQ BK106⟩, ⟨bQ BK134⟩, ⟨bQ BK138⟩, ⟨wB⟩⟩
           rw [if_pos c225] at H
           have c225b0 : decide (0 < x427_2) = true := decide_eq_true c225
           clear c225
           obtain ⟨ji226, hji226⟩ : ∃ j_ : Int, (wrap64 (x427_2 - 1)) = j_ := ⟨_, rfl⟩
           replace H : (if 0 ≤ (ji226) then (if (ji226) < (t191.length : Int) then ((laws_zLess.f kj183 (rd_L2 t191 (ji226)) (rd_L2 t191 x427_2)).bind fun t232 => (laws_FnSwingsTold.j4 kj183 l1 t107 t115 t123 t139 t147 t155 (t103.length : Int) ji104 t170 t172 x321_1 t191 t195 t107 (t107.length : Int) x321_1 t191 (t191.length : Int) x427_2 (!t232) t102 t103)) else (none)) else (none)) = some r := by first | (rw [hji226] at H; exact H) | (simp only [hji226] at H ⊢; exact H)
           (try rw [hji226] at A218)
           have hji226w : (IntKind.i64.wrap (x427_2 - 1)) = ji226 := (i64_w _).trans hji226
           replace H := ite_yes H
           obtain ⟨c227, H⟩ := H
           have c227b0 : decide (0 ≤ (ji226)) = true := decide_eq_true c227
           clear c227
           replace H := ite_yes H
           obtain ⟨c228, H⟩ := H
           have c228b0 : decide ((ji226) < (t191.length : Int)) = true := decide_eq_true c228
           clear c228
           replace H := oA H
           obtain ⟨t232, A229, H⟩ := H
           (try dsimp only at H)
           as_aux_lemma =>
            have H' := Aside0.mk H
            clear H
            go_wp2_with (first | (go_at_call 74; (with_reducible refine (laws_zHas.calls kj183 _ _ (rd_L2 t191 x427_2) x321_1 false _ ((Kd.R_reads' HL200_0.out).2.2) HC200_0.out A218.out).mono ?_); rintro e w' ⟨rfl, ⟨nd, rfl⟩⟩; have p230 : 0 ≤ (((rd_L2 t191 x427_2).length : Int) : Int) := oD; have q230 : ((rd_L2 t191 x427_2).length : Int) < (t195.length : Int) := oD; obtain ⟨ad230, e230, hx230_0⟩ := Kd.at_int (Kd.R_reads' HO_44.out).2.2 ((rd_L2 t191 x427_2).length : Int) p230 q230; cases e230; (try simp only [Go.IntWalk.toNatUp] at hx230_0); replace p230 := eq_true p230; replace q230 := eq_true q230; have p231 : 0 ≤ ((ji226) : Int) := oD; have q231 : (ji226) < (t191.length : Int) := oD; obtain ⟨ad231, A231_0, c231_0, e231, hx231_0, hl231_0, hi231_0⟩ := at_L2 (Kd.S_reads' HO_42.out).2.2 (ji226) p231 q231; obtain rfl : ad200 = ad231 := (by injection e231); obtain ⟨ce231, hce231, hMe231, hcc231⟩ := Kd.S_get HO_42.out [] (ji226) p231 (by first | exact q231 | exact oD | (have e_ := (Kd.S_reads' HO_42.out).1; omega)); obtain ⟨ve231_0, rfl, ge231_0⟩ := hMe231; have hv231_0 := hcc231 0 _ rfl; rw [Nat.add_zero, show ((Kd.slice 3 (Kd.int .i64))).sz = 1 from rfl, Nat.mul_one] at hv231_0; replace hv231_0 := Option.some.inj (hv231_0.symm.trans hx231_0); rw [hv231_0] at ge231_0; have HL231_0 := Aside0.mk (show Kd.R (Kd.int .i64) 3 _ _ _ _ (rd_L2 t191 (ji226)) from ge231_0); clear hv231_0 ge231_0; clear hcc231 hce231; have HR231_0 := Aside0.mk hi231_0; have HC231_0 := Aside0.mk hl231_0; clear hi231_0 hl231_0; replace p231 := eq_true p231; replace q231 := eq_true q231) | (go_at_call 77; (with_reducible refine (laws_zLess.calls kj183 _ _ (rd_L2 t191 (ji226)) _ _ (rd_L2 t191 x427_2) t232 _ ?side1 ?side2 ?side3 ?side4 A229.out).mono ?_); (case side1 =>  repeat (first | exact (by repeat (first | (with_reducible exact HR231_0.out) | (with_reducible refine Kd.C_alloc ?_ _) | (with_reducible refine Kd.C_drewN ?_ _) | (with_reducible refine Kd.C_drew ?_) | exact HR231_0.out)) | (with_reducible refine Kd.C_alloc ?_ _) | (with_reducible refine Kd.C_drewN ?_ _) | (with_reducible refine Kd.C_drew ?_))); (case side2 => exact HC231_0.out); (case side3 => have hx_ := ((Kd.R_reads' HL200_0.out).2.2); exact cC); (case side4 => exact HC200_0.out); rintro e w' ⟨rfl, ⟨nd, rfl⟩⟩))
            refine meetT_ hJ_j4 (by kernel_rfl) ?rel
            case rel => exact ⟨_, (!t232), gR, H', ⟨by have := HK1.out; have := HK2.out; have := HK3.out; have := HJ183.out; first | omega | exact Nat.le_refl _⟩, ⟨by (with_reducible repeat (first | apply qA | apply qN | apply qD)); exact Kd.R_mono HO_6.out (fun _ hk => by first | exact ⟨hk.1.1, ⟨hk.1.2.1, hk.1.2.2.2.1⟩⟩ | simp_all)⟩, ⟨rQ HO_10⟩, ⟨rQ HO_14⟩, ⟨rQ HO_22⟩, ⟨rQ HO_26⟩, ⟨rQ HO_30⟩, ⟨by (with_reducible repeat (first | apply qA | apply qN | apply qD)); exact Kd.R_mono HO_38.out (fun _ hk => by first | exact ⟨hk.1.1, ⟨hk.1.2.1, ⟨hk.1.2.2.2.1, hk.1.2.2.2.2.1⟩⟩⟩ | simp_all)⟩, ⟨by (with_reducible repeat (first | apply Kd.S_alloc | apply Kd.S_drewN | apply Kd.S_drew)); exact Kd.S_mono HO_42.out (fun _ hk => by first | exact ⟨hk.1.1, ⟨hk.1.2.1, ⟨hk.1.2.2.1, ⟨hk.1.2.2.2.2.1, hk.1.2.2.2.2.2.1⟩⟩⟩⟩ | simp_all)⟩, ⟨by (with_reducible repeat (first | apply qA | apply qN | apply qD)); exact Kd.R_mono HO_44.out (fun _ hk => by first | exact ⟨hk.1.1, ⟨hk.1.2.1, ⟨hk.1.2.2.2.1, hk.1.2.2.2.2.1⟩⟩⟩ | simp_all)⟩, ⟨by (with_reducible repeat (first | apply qA | apply qN | apply qD)); exact Kd.R_mono HO_319.out (fun _ hk => by first | exact ⟨hk.1.1, ⟨hk.1.2.1, hk.1.2.2.2.1⟩⟩ | simp_all)⟩, ⟨by (with_reducible repeat (first | apply Kd.S_alloc | apply Kd.S_drewN | apply Kd.S_drew)); exact Kd.S_mono HO_425.out (fun _ hk => by first | exact ⟨hk.1.1, ⟨hk.1.2.1, ⟨hk.1.2.2.1, ⟨hk.1.2.2.2.2.1, hk.1.2.2.2.2.2.1⟩⟩⟩⟩ | simp_all)⟩, ⟨by (with_reducible repeat (first | apply qA | apply qN | apply qD)); exact Kd.R_mono HO_107001.out (fun _ hk => by first | exact ⟨hk.1.1, ⟨hk.1.2.1, ⟨hk.1.2.2.1, hk.1.2.2.2.2.1⟩⟩⟩ | simp_all)⟩, ⟨bQ BK106⟩, ⟨bQ BK134⟩, ⟨bQ BK138⟩, ⟨wB⟩⟩
          case restj4 => as_aux_lemma =>
           intro T_ wc hcut
           (try clear hji226 hji226w)
           simp only [putT, putM, T, F, Nat.reduceAdd]
           (try dsimp only at hcut)
           generalize T_ 512 = u512 at hcut ⊢
           clear HC198
           (try clear c1); (try clear c2); (try clear p2); (try clear q2); (try clear hx2); (try clear p6); (try clear c12); (try clear c19); (try clear c21); (try clear c22); (try clear c23); (try clear p23); (try clear q23); (try clear hx23); (try clear p64); (try clear c192); (try clear c193); (try clear c196); (try clear c211); (try clear c212); (try clear c216); (try clear c217); (try clear c219); (try clear c220); (try clear c221); (try clear c222); (try clear c222b0); (try clear c222b1); (try clear c223); (try clear c223b0); (try clear c223b1); (try clear c224); (try clear c224b0); (try clear c225); (try clear c225b0); (try clear c227); (try clear c227b0); (try clear c228); (try clear c228b0); (try clear hcz213_0); (try clear hcz213_1); (try clear hfz213_0); (try clear hfz213_1); (try clear hx230_0); (try clear hx231_0); (try clear p230); (try clear p231); (try clear q230); (try clear q231)
           obtain ⟨kq, x512_197, rfl, HA, HJ197, HO_6, HO_10, HO_14, HO_22, HO_26, HO_30, HO_38, HO_42, HO_44, HO_319, HO_425, HO_107001, BK106, BK134, BK138, HB⟩ := hcut
           cases kq with
           | zero => exact absurd HA.out (by simp [laws_FnSwingsTold.j4])
           | succ kj197 =>
            have H := HA.out
            clear HA
            simp only [laws_FnSwingsTold.j4] at H
            replace H := ite_no H
            obtain ⟨c230, H⟩ := H
            replace c230 := Bool.eq_false_iff.mpr c230
            subst c230
            as_aux_lemma =>
             have H' := Aside0.mk H
             clear H
             go_wp2
             refine roundT_ kj197 ?measure hJ_l1 (by kernel_rfl) ?rel
             case measure => have := HK1.out; have := HK2.out; have := HK3.out; have := HJ183.out; have := HJ197.out; omega
             case rel => exact ⟨(wrap64 (x427_2 + 1)), gR, H', ⟨by have := HK1.out; have := HK2.out; have := HK3.out; have := HJ183.out; have := HJ197.out; omega⟩, ⟨by exact HO_6.out⟩, ⟨by exact HO_10.out⟩, ⟨by exact HO_14.out⟩, ⟨by exact HO_22.out⟩, ⟨by exact HO_26.out⟩, ⟨by exact HO_30.out⟩, ⟨by exact HO_38.out⟩, ⟨by exact HO_42.out⟩, ⟨by exact HO_44.out⟩, ⟨by exact HO_319.out⟩, ⟨by exact HO_425.out⟩, ⟨by exact HO_107001.out⟩, ⟨by exact BK106.out⟩, ⟨by exact BK134.out⟩, ⟨by exact BK138.out⟩, ⟨wB⟩⟩
 case restj5 => as_aux_lemma =>
  intro T_ wc hcut
  simp only [putT, putM, T, F, Nat.reduceAdd]
  (try dsimp only at hcut)
  clear HC48
  (try clear c1); (try clear c2); (try clear p2); (try clear q2); (try clear hx2); (try clear p6); (try clear c10); (try clear c12); (try clear c17); (try clear c19); (try clear c21); (try clear c22); (try clear c23); (try clear p23); (try clear q23); (try clear hx23); (try clear p64); (try clear c103); (try clear c128); (try clear c128b0); (try clear c172); (try clear c172b0); (try clear c192); (try clear c193); (try clear c196); (try clear c211); (try clear c212); (try clear c216); (try clear c217); (try clear c219); (try clear c220); (try clear c221); (try clear c222); (try clear c222b0); (try clear c222b1); (try clear c223); (try clear c223b0); (try clear c223b1); (try clear c224); (try clear c224b0); (try clear c225); (try clear c225b0); (try clear c227); (try clear c227b0); (try clear c228); (try clear c228b0); (try clear c230); (try clear p230); (try clear q230); (try clear hx230); (try clear hcz213_0); (try clear hcz213_1); (try clear hfz213_0); (try clear hfz213_1); (try clear hx230_0); (try clear hx231_0); (try clear p2); (try clear p23); (try clear p230); (try clear p231); (try clear p6); (try clear p64); (try clear q2); (try clear q23); (try clear q230); (try clear q231)
  obtain ⟨kq, HA, HJ47, HO_107001, BK106, BK134, BK138, HB⟩ := hcut
  cases kq with
  | zero => exact absurd HA.out (by simp [laws_FnSwingsTold.j5])
  | succ kj47 =>
   have H := HA.out
   clear HA
   simp only [laws_FnSwingsTold.j5] at H
   replace H := oB H
   obtain ⟨⟨t233, t234, t237⟩, A2310, H⟩ := H
   (try dsimp only at H)
   have A231 := Aside0.mk A2310
   clear A2310
   replace H := oB H
   obtain ⟨⟨t239, t242⟩, A2320, H⟩ := H
   (try dsimp only at H)
   have A232 := Aside0.mk A2320
   clear A2320
   replace H := oB H
   obtain ⟨⟨t243, t246⟩, A2330, H⟩ := H
   (try dsimp only at H)
   have A233 := Aside0.mk A2330
   clear A2330
   replace H := oB H
   obtain ⟨⟨t247, t250⟩, A2340, H⟩ := H
   (try dsimp only at H)
   have A234 := Aside0.mk A2340
   clear A2340
   replace H := oB H
   obtain ⟨⟨t251, t254⟩, A2350, H⟩ := H
   (try dsimp only at H)
   have A235 := Aside0.mk A2350
   clear A2350
   replace H := ite_yes H
   obtain ⟨c236, H⟩ := H
   have c236b0 : (t242 == t246) = true := c236
   (try (have c236b1 : decide (t242 = t246) = true := by simpa using c236))
   (try (have c236b2 : (t242 == t246) = true := by simpa using c236))
   clear c236
   replace H := oA H
   obtain ⟨t255, A237, H⟩ := H
   (try dsimp only at H)
   replace H := ite_yes H
   obtain ⟨c238, H⟩ := H
   subst c238
   replace H := ite_yes H
   obtain ⟨c239, H⟩ := H
   have c239b0 : (t250 == t254) = true := c239
   (try (have c239b1 : decide (t250 = t254) = true := by simpa using c239))
   (try (have c239b2 : (t250 == t254) = true := by simpa using c239))
   clear c239
   replace H := oA H
   obtain ⟨t256, A240, H⟩ := H
   (try dsimp only at H)
   replace H := ite_yes H
   obtain ⟨c241, H⟩ := H
   subst c241
   as_aux_lemma =>
    obtain rfl := Option.some.inj H
    go_upto_region 51 with (first | ((with_reducible refine gate_callee (f := 82) rfl ?_); refine gL 517 Tryz.func82 #[.slice A1 l1.length c1] ?_; (with_reducible refine (spec_DrawSwingSets.calls kj47 _ _ l1 t233 t234 t237 _ (Kd.C_below HR1.out HB.out) HC1.out A231.out).mono ?_); rintro e w242 ⟨v235, rfl, ho0, hb⟩; refine ⟨_, rfl, ?_⟩; have HO236 := Aside0.mk (Kd.R_lower (Kd.R_new' ho0 (Kd.R_lt HO_107001.out)) (below_size HB.out)); replace HO_107001 := rE HO_107001 (Kd.R_base ho0) hb; replace BK106 := bB BK106 hb; replace BK134 := bB BK134 hb; replace BK138 := bB BK138 hb; replace HB := sB HB hb; (try clear hb); (try clear ho0)) | ((with_reducible refine gate_dst (N := 54) rfl ?_); (try (refine gate_guard (by rfl) ?_; dsimp only)); refine xE (N := 54) (cs := #[.int .i64 0, .slice none 0 0]) (t := 26) ?_; intro gb238 hg w243 BK238 hb; have GW238 := gS hg HB; have GE238 := gS hg HB; have NB106_238 := nL hg (blk_lt BK106.out); have NB238_106 := nG hg (blk_lt BK106.out); have NB134_238 := nL hg (blk_lt BK134.out); have NB238_134 := nG hg (blk_lt BK134.out); have NB138_238 := nL hg (blk_lt BK138.out); have NB238_138 := nG hg (blk_lt BK138.out); replace HO_107001 := rB HO_107001 hb; replace HO236 := rB HO236 hb; replace BK106 := bB BK106 hb; replace BK134 := bB BK134 hb; replace BK138 := bB BK138 hb; replace HB := sB HB hb; clear hb hg; have hnb244 := NB238_106.out; have hnc244 := NB106_238.out; have hnb245 := NB238_134.out; have hnc245 := NB134_238.out; have hnb246 := NB238_138.out; have hnc246 := NB138_238.out; obtain ⟨hcz247_0, hcz247_1, hfz247_0, hfz247_1⟩ := zZ BK238; obtain ⟨Ao248, co248, eo248⟩ := Kd.R_slice HO236.out; subst eo248))
    go_upto_region 52 with (first | ((with_reducible refine gate_callee (f := 75) rfl ?_); refine gL 523 Tryz.func75 #[.agg #[.int .i64 t233, .slice Ao248 t234.length co248], .int .i64 t237] ?_; (with_reducible refine (impl_SwingSets.calls kj47 t233 _ _ t234 t237 t239 t242 _ ?side1 ?side2 A232.out).mono ?_); (case side1 => refine (Kd.R_reads' (e := 3) (base := w.heap.size) (ok := fun k_ => (True ∧ nb (.slice Ao52 t103.length co52) k_)) (n := t234.length) (c := co248) ?_).2.2; exact (by exact (Kd.R_mono (Kd.R_far (p := ⟨gb238, 1, none⟩) (Kd.R_far (p := ⟨gb238, 0, none⟩) (Kd.R_types HO236.out BK238.out (by decide)) (fun _ hk => hk.2) (.int .i64 t233)) (fun _ hk => hk.2) (.slice Ao248 t234.length co248)) (fun _ h_ => h_.1)))); (case side2 => exact (Kd.R_reads' HO236.out).2.1); rintro e w249 ⟨v240, rfl, ho0, hb⟩; refine ⟨_, rfl, ?_⟩; have HO241 := Aside0.mk (Kd.S_lower (Kd.S_new' (Kd.S_new' ho0 (Kd.R_lt (by exact (Kd.R_mono (Kd.R_far (p := ⟨gb238, 1, none⟩) (Kd.R_far (p := ⟨gb238, 0, none⟩) (Kd.R_types HO_107001.out BK238.out (by decide)) (fun _ hk => hk.2) (.int .i64 t233)) (fun _ hk => hk.2) (.slice Ao248 t234.length co248)) (fun _ h_ => h_.1))))) (Kd.R_lt (by exact (Kd.R_mono (Kd.R_far (p := ⟨gb238, 1, none⟩) (Kd.R_far (p := ⟨gb238, 0, none⟩) (Kd.R_types HO236.out BK238.out (by decide)) (fun _ hk => hk.2) (.int .i64 t233)) (fun _ hk => hk.2) (.slice Ao248 t234.length co248)) (fun _ h_ => h_.1))))) (below_size (by repeat (first | exact HB.out | apply ba | refine bs ?_ GE238.out)))); replace HO_107001 := Aside0.mk (Kd.R_below (by exact (Kd.R_mono (Kd.R_far (p := ⟨gb238, 1, none⟩) (Kd.R_far (p := ⟨gb238, 0, none⟩) (Kd.R_types HO_107001.out BK238.out (by decide)) (fun _ hk => hk.2) (.int .i64 t233)) (fun _ hk => hk.2) (.slice Ao248 t234.length co248)) (fun _ h_ => h_.1))) hb); replace HO236 := Aside0.mk (Kd.R_below (by exact (Kd.R_mono (Kd.R_far (p := ⟨gb238, 1, none⟩) (Kd.R_far (p := ⟨gb238, 0, none⟩) (Kd.R_types HO236.out BK238.out (by decide)) (fun _ hk => hk.2) (.int .i64 t233)) (fun _ hk => hk.2) (.slice Ao248 t234.length co248)) (fun _ h_ => h_.1))) hb); replace BK106 := Aside0.mk (blk_below (g := gb106) (o := .cells #[.int .i64 t102, .slice Ao52 t103.length co52] 26 (0, 0)) (by refine blk_far ?_ NB106_238.out _; refine blk_far ?_ NB106_238.out _; exact BK106.out) hb); replace BK134 := Aside0.mk (blk_below (g := gb134) (o := .cells #[.int .i64 t131, .int .i64 t132] 60 (0, 0)) (by refine blk_far ?_ NB134_238.out _; refine blk_far ?_ NB134_238.out _; exact BK134.out) hb); replace BK138 := Aside0.mk (blk_below (g := gb138) (o := .cells #[.int .i64 t135, .int .i64 t136] 60 (0, 0)) (by refine blk_far ?_ NB138_238.out _; refine blk_far ?_ NB138_238.out _; exact BK138.out) hb); replace BK238 := Aside0.mk (blk_below (g := gb238) (o := .cells #[.int .i64 t233, .slice Ao248 t234.length co248] 26 (0, 0)) (by refine blk_put (cs := #[.int .i64 t233, .slice none 0 0]) ?_ 1 _ rfl; refine blk_put (cs := #[.int .i64 0, .slice none 0 0]) ?_ 0 _ rfl; exact BK238.out) hb); replace HB := Aside0.mk (below_step (by repeat (first | exact HB.out | apply ba | refine bs ?_ GE238.out)) hb); (try clear hb); (try clear ho0); (try clear hcz247_0 hcz247_1 hfz247_0 hfz247_1); obtain ⟨hcz250_0, hcz250_1, hfz250_0, hfz250_1⟩ := zZ BK238))
    go_upto_region 53 with (first | ((with_reducible refine gate_callee (f := 78) rfl ?_); refine gL 529 Tryz.func78 #[.agg #[.int .i64 t233, .slice Ao248 t234.length co248], .int .i64 t237] ?_; (with_reducible refine (spec_SwingSets.calls kj47 t233 _ _ t234 t237 t243 t246 _ ?side1 ?side2 A233.out).mono ?_); (case side1 => have hx_ := (Kd.R_reads' HO236.out).2.2; exact cC); (case side2 => exact (Kd.R_reads' HO236.out).2.1); rintro e w251 ⟨v244, rfl, ho0, hb⟩; refine ⟨_, rfl, ?_⟩; have HO245 := Aside0.mk (Kd.S_lower (Kd.S_new' (Kd.S_new' (Kd.S_new' ho0 (Kd.R_lt HO_107001.out)) (Kd.R_lt HO236.out)) (Kd.S_lt HO241.out)) (below_size HB.out)); replace HO_107001 := rB HO_107001 hb; replace HO236 := rB HO236 hb; replace HO241 := tE HO241 (Kd.S_base ho0) hb; replace BK106 := bB BK106 hb; replace BK134 := bB BK134 hb; replace BK138 := bB BK138 hb; replace BK238 := bB BK238 hb; replace HB := sB HB hb; (try clear hb); (try clear ho0); (try clear hcz250_0 hcz250_1 hfz250_0 hfz250_1); obtain ⟨hcz252_0, hcz252_1, hfz252_0, hfz252_1⟩ := zZ BK238))
    go_upto_region 54 with (first | ((with_reducible refine gate_callee (f := 76) rfl ?_); refine gL 535 Tryz.func76 #[.agg #[.int .i64 t233, .slice Ao248 t234.length co248], .int .i64 t237] ?_; (with_reducible refine (impl_SwingsBySize.calls kj47 t233 _ _ t234 t237 t247 t250 _ ?side1 ?side2 A234.out).mono ?_); (case side1 => have hx_ := (Kd.R_reads' HO236.out).2.2; exact cC); (case side2 => exact (Kd.R_reads' HO236.out).2.1); rintro e w253 ⟨v248, rfl, ho0, hb⟩; refine ⟨_, rfl, ?_⟩; have HO249 := Aside0.mk (Kd.R_lower (Kd.R_new' (Kd.R_new' ho0 (Kd.R_lt HO_107001.out)) (Kd.R_lt HO236.out)) (below_size HB.out)); replace HO_107001 := rE HO_107001 (Kd.R_base ho0) hb; replace HO236 := rE HO236 (Kd.R_base ho0) hb; replace HO241 := tE HO241 (Kd.R_base ho0) hb; replace HO245 := tE HO245 (Kd.R_base ho0) hb; replace BK106 := bB BK106 hb; replace BK134 := bB BK134 hb; replace BK138 := bB BK138 hb; replace BK238 := bB BK238 hb; replace HB := sB HB hb; (try clear hb); (try clear ho0); (try clear hcz252_0 hcz252_1 hfz252_0 hfz252_1); obtain ⟨hcz254_0, hcz254_1, hfz254_0, hfz254_1⟩ := zZ BK238))
    go_upto_region 55 with (first | ((with_reducible refine gate_callee (f := 79) rfl ?_); refine gL 541 Tryz.func79 #[.agg #[.int .i64 t233, .slice Ao248 t234.length co248], .int .i64 t237] ?_; (with_reducible refine (spec_SwingsBySize.calls kj47 t233 _ _ t234 t237 t251 t254 _ ?side1 ?side2 A235.out).mono ?_); (case side1 => have hx_ := (Kd.R_reads' HO236.out).2.2; exact cC); (case side2 => exact (Kd.R_reads' HO236.out).2.1); rintro e w255 ⟨v252, rfl, ho0, hb⟩; refine ⟨_, rfl, ?_⟩; have HO253 := Aside0.mk (Kd.R_lower (Kd.R_new' (Kd.R_new' (Kd.R_new' ho0 (Kd.R_lt HO_107001.out)) (Kd.R_lt HO236.out)) (Kd.R_lt HO249.out)) (below_size HB.out)); replace HO_107001 := rE HO_107001 (Kd.R_base ho0) hb; replace HO236 := rE HO236 (Kd.R_base ho0) hb; replace HO241 := tE HO241 (Kd.R_base ho0) hb; replace HO245 := tE HO245 (Kd.R_base ho0) hb; replace HO249 := rE HO249 (Kd.R_base ho0) hb; replace BK106 := bB BK106 hb; replace BK134 := bB BK134 hb; replace BK138 := bB BK138 hb; replace BK238 := bB BK238 hb; replace HB := sB HB hb; (try clear hb); (try clear ho0); obtain ⟨Ao256, co256, eo256⟩ := Kd.S_slice HO241.out; subst eo256; obtain ⟨Ao257, co257, eo257⟩ := Kd.S_slice HO245.out; subst eo257))
    go_wp2_with (first | (go_at_call 80; (with_reducible refine (laws_zRows.calls kj47 _ _ t239 _ _ t243 true _ ?side1 ?side2 ?side3 ?side4 A237.out).mono ?_); (case side1 => have hx_ := (Kd.S_reads' HO241.out).2.2; exact cC); (case side2 => exact (Kd.S_reads' HO241.out).2.1); (case side3 => have hx_ := (Kd.S_reads' HO245.out).2.2; exact cC); (case side4 => exact (Kd.S_reads' HO245.out).2.1); rintro e w' ⟨rfl, ⟨nd, rfl⟩⟩; obtain ⟨Ao258, co258, eo258⟩ := Kd.R_slice HO249.out; subst eo258; obtain ⟨Ao259, co259, eo259⟩ := Kd.R_slice HO253.out; subst eo259) | (go_at_call 70; (with_reducible refine (laws_zSame.calls kj47 _ _ t247 _ _ t251 true _ ?side1 ?side2 ?side3 ?side4 A240.out).mono ?_); (case side1 => have hx_ := (Kd.R_reads' HO249.out).2.2; exact cC); (case side2 => exact (Kd.R_reads' HO249.out).2.1); (case side3 => have hx_ := (Kd.R_reads' HO253.out).2.2; exact cC); (case side4 => exact (Kd.R_reads' HO253.out).2.1); rintro e w' ⟨rfl, ⟨nd, rfl⟩⟩))
    go_ret
    exact ⟨fR, wB⟩
end Go.Proofs.YtamfpkefnhcngaaGreat.Q
namespace Go.Proofs.YtamfpkefnhcngaaGreat.Q
open Go.RowKit Go.Proofs.YtamfpkefnhcngaaGreatX Go.Proofs.YtamfpkefnhcngaaGreatY Go.Proofs.YtamfpkefnhcngaaGreatX Go.Proofs.YtamfpkefnhcngaaGreatW.PrintWords Go.Proofs.YtamfpkefnhcngaaGreatW.PrintLast Go.Proofs.YtamfpkefnhcngaaGreatW.PrintMore
attribute [local go_sem] max2_int min2_int max_two min_two max_three min_three max_four min_four   -- for this text's walks alone
set_option linter.unusedVariables false
set_option linter.unusedSimpArgs false
end Go.Proofs.YtamfpkefnhcngaaGreat.Q
namespace Go.Proofs.YtamfpkefnhcngaaGreat.Q
open Go.RowKit Go.Proofs.YtamfpkefnhcngaaGreatW.PrintWords Go.Proofs.YtamfpkefnhcngaaGreatW.PrintLast Go.Proofs.YtamfpkefnhcngaaGreatW.PrintMore Go.Proofs.YtamfpkefnhcngaaGreatM
set_option linter.unusedVariables false
set_option linter.unusedSimpArgs false
theorem impl_votesOf.at_l (n N : Nat) (hN : N ≤ 1000000) (P : Int → Option Bool) (p : Nat → Bool) (hP : ∀ m, m < N → P (m : Int) = some (p m)) : ∀ (d m k : Nat) (acc : List Bool), m + d = N → d < k → acc.length = N → acc.take m = ((List.range N).map p).take m → impl_votesOf.l0 k P (N : Int) (m : Int) (n : Int) acc = some ((n : Int), (List.range N).map p) := by
  intro d
  induction d with
  | zero =>
    intro m k acc h hk hlen ht
    obtain ⟨k, rfl⟩ : ∃ j, k = j + 1 := ⟨k - 1, by omega⟩
    simp only [impl_votesOf.l0]
    rw [List.take_of_length_le (by omega), List.take_of_length_le (by simp; omega)] at ht
    rw [if_neg (by omega), ht]
  | succ d ih =>
    intro m k acc h hk hlen ht
    obtain ⟨k, rfl⟩ : ∃ j, k = j + 1 := ⟨k - 1, by omega⟩
    have hm : m < N := by omega
    simp only [impl_votesOf.l0]
    rw [if_pos (by omega), hP m hm, Option.bind_some, if_pos (by omega), if_pos (by omega), w64i (n := N) (by omega) (by omega) (by omega), Int.toNat_natCast]
    refine ih (m + 1) k (acc.set m (p m)) (by omega) (by omega) (by simpa using hlen) ?_
    rw [List.take_succ_eq_append_getElem (by simp; omega), List.take_succ_eq_append_getElem (by simp; omega), List.take_set_of_le (by omega), ht]
    simp
theorem impl_votesOf.ev (n : Nat) (hn : n ≤ 19) (g : Nat → Int → Option Bool) (p : Nat → Bool) (hg : ∀ m : Nat, m < 2 ^ n → Ev (fun k => g k (m : Int)) (p m)) : Ev (fun k => impl_votesOf.f k (n : Int) (g k)) ((n : Int), (List.range (2 ^ n)).map p) := by
  have hp : 2 ^ n ≤ 2 ^ 19 := Nat.pow_le_pow_right (by omega) hn
  have h0 : 0 < 2 ^ n := Nat.two_pow_pos n
  generalize hN : 2 ^ n = N at *
  obtain ⟨K, hK⟩ := ev_all N (fun k m => g k (m : Int)) p hg
  refine ⟨max K (N + 1), fun k hk => ?_⟩
  simp only [impl_votesOf.f]
  rw [if_pos (by omega), shl_one n (by omega), hN, if_pos (by omega), Int.toNat_natCast, if_pos (by omega), Option.bind_some, List.length_replicate]
  exact impl_votesOf.at_l n N (by omega) (g k) p (fun m hm => hK k (by omega) m hm) N 0 k _ (by omega) (by omega) (by simp) (by simp)
theorem impl_has.v (m i : Nat) (hm : m < 2 ^ 62) (hi : i ≤ 62) : impl_has.f (m : Int) (i : Int) = some (decide (m / 2 ^ i % 2 = 1)) := by
  unfold impl_has.f
  have hlt : m / 2 ^ i < 2 ^ 62 := Nat.lt_of_le_of_lt (Nat.div_le_self _ _) hm
  rw [if_pos (by omega), shr_nat m i (by omega), and_one _ hlt]
  congr 1
  by_cases h : m / 2 ^ i % 2 = 1
  · simp [h]
  · have : m / 2 ^ i % 2 = 0 := by omega
    simp [this]
theorem impl_Committee_weight.ev_l (q : Int) (ws : List Int) (m : Nat) (hm : m < 2 ^ 62) (hl : ws.length ≤ 60) (hw : ∀ x ∈ ws, 0 ≤ x ∧ x ≤ 1000000000) : ∀ (d i : Nat) (s : Int), i + d = ws.length → 0 ≤ s → s + wsum (ws.drop i) (m / 2 ^ i) ≤ 1000000000000 → Ev (fun k => impl_Committee_weight.l0 k (m : Int) s ws (ws.length : Int) (i : Int)) (s + wsum (ws.drop i) (m / 2 ^ i)) := by
  intro d
  induction d with
  | zero =>
    intro i s h _ _
    refine ev_step ?_
    simp only [impl_Committee_weight.l0]
    rw [ev_neg (by omega), ev_now, List.drop_of_length_le (by omega)]
    simp [wsum]
  | succ d ih =>
    intro i s h h0 h1
    refine ev_step ?_
    simp only [impl_Committee_weight.l0]
    have hi : i < ws.length := by omega
    have hx := hw ws[i] (List.getElem_mem hi)
    have hd : wsum (ws.drop i) (m / 2 ^ i) = (if m / 2 ^ i % 2 = 1 then ws[i] else 0) + wsum (ws.drop (i + 1)) (m / 2 ^ (i + 1)) := by
      rw [wsum_drop ws i _ hi, Nat.div_div_eq_div_mul, ← Nat.pow_succ]
    have hb := wsum_bounds (ws.drop (i + 1)) (fun x hx => (hw x (List.mem_of_mem_drop hx)).1) (m / 2 ^ (i + 1))
    rw [ev_pos (by omega), ev_pos (by omega), ev_pos (by omega), ev_bind (ev_of (impl_has.v m i hm (by omega))), w64i (n := ws.length) (by omega) (by omega) (by omega), rd_lt ws i hi, hd]
    rw [hd] at h1
    by_cases hbit : m / 2 ^ i % 2 = 1
    · rw [if_pos hbit] at h1 ⊢
      rw [ev_pos (by simpa using hbit), w64 (by omega) (by omega), ← Int.add_assoc]
      exact ih (i + 1) (s + ws[i]) (by omega) (by omega) (by omega)
    · rw [if_neg hbit] at h1 ⊢
      rw [ev_neg (by simpa using hbit), Int.zero_add]
      exact ih (i + 1) s (by omega) h0 (by omega)
theorem impl_Committee_weight.ev (q : Int) (ws : List Int) (m : Nat) (hm : m < 2 ^ 62) (hl : ws.length ≤ 60) (hw : ∀ x ∈ ws, 0 ≤ x ∧ x ≤ 1000000000) : Ev (fun k => impl_Committee_weight.f k q ws (m : Int)) (wsum ws m) := by
  have hb := wsum_bounds ws (fun x hx => (hw x hx).1) m
  have hs := sum_bounds ws 1000000000 hw
  have := impl_Committee_weight.ev_l q ws m hm hl hw ws.length 0 0 (by omega) (by omega) (by simp; omega)
  simpa [impl_Committee_weight.f] using this
theorem impl_Committee_votes.ev (q : Int) (ws : List Int) (hl : ws.length ≤ 9) (hw : ∀ x ∈ ws, 0 ≤ x ∧ x ≤ 1000000000) : Ev (fun k => impl_Committee_votes.f k q ws) ((ws.length : Int), winsL q ws) := by
  have hp : 2 ^ ws.length ≤ 2 ^ 9 := Nat.pow_le_pow_right (by omega) hl
  refine impl_votesOf.ev ws.length (by omega) (fun k => impl_Committee_votes_1.f k q ws) (fun m => decide (q ≤ wsum ws m)) (fun m hm => ?_)
  simp only [impl_Committee_votes_1.f]
  rw [ev_bind (impl_Committee_weight.ev q ws m (by omega) (by omega) hw), ev_now]
theorem impl_sumOf.ev_l (l : List Int) (hl : l.length ≤ 9223372036854775807) : ∀ (d i : Nat) (s : Int), i + d = l.length → Ev (fun k => impl_sumOf.l0 k s l (l.length : Int) (i : Int)) (wfold (l.drop i) s) := by
  intro d
  induction d with
  | zero =>
    intro i s h
    refine ev_step ?_
    simp only [impl_sumOf.l0]
    rw [ev_neg (by omega), ev_now, List.drop_of_length_le (by omega)]
    rfl
  | succ d ih =>
    intro i s h
    refine ev_step ?_
    simp only [impl_sumOf.l0]
    have hi : i < l.length := by omega
    rw [ev_pos (by omega), ev_pos (by omega), ev_pos (by omega), w64i (n := l.length) (by omega) (by omega) hl, rd_lt l i hi, wfold_take l i hi]
    exact ih (i + 1) _ (by omega)
theorem impl_sumOf.ev (l : List Int) (hl : l.length ≤ 9223372036854775807) : Ev (fun k => impl_sumOf.f k l) (wfold l 0) := impl_sumOf.ev_l l hl l.length 0 0 (by omega)
theorem impl_within.v (a b c : Int) : impl_within.f a b c = some (decide (b ≤ a) && decide (a ≤ c)) := by
  unfold impl_within.f
  by_cases h : b ≤ a
  · rw [if_pos h]; simp [h]
  · rw [if_neg h]; simp [h]
theorem impl_IsCommittee.ev (q : Int) (l : List Int) (hl : l.length ≤ 9223372036854775807) : Ev (fun k => impl_IsCommittee.f k q l) (goodB q l) := by
  simp only [impl_IsCommittee.f]
  unfold goodB
  by_cases h1 : 1 ≤ l.length
  · rw [ev_pos (by omega)]
    by_cases h2 : l.length ≤ 9
    · rw [ev_pos (by omega), ev_bind (ev_of (show impl_areIn.f l 0 1000 = some _ from rfl))]
      cases hb : (l.all fun x => decide (0 ≤ x) && decide (x ≤ 1000)) with
      | true =>
        rw [ev_pos rfl, ev_bind (impl_sumOf.ev l hl), ev_bind (ev_of (impl_within.v _ _ _)), ev_now, wfold_w l h2 hb]
        simp [h1, h2]
      | false =>
        rw [ev_neg (by simp), ev_now]
        simp
    · rw [ev_neg (by omega), ev_now]
      simp [h2]
  · rw [ev_neg (by omega), ev_now]
    simp [h1]
def bitB (m i : Nat) : Bool := decide (m / 2 ^ i % 2 = 1)
def setN (m : Nat) : List Int := ((List.range 62).filter (bitB m)).map fun (i : Nat) => (i : Int)
def setTo (m i : Nat) : List Int := ((List.range i).filter (bitB m)).map fun (i : Nat) => (i : Int)
theorem bitB_high {m i j : Nat} (h : m / 2 ^ i = 0) (hij : i ≤ j) : bitB m j = false := by
  unfold bitB
  have : m < 2 ^ i := by
    rcases Nat.lt_or_ge m (2 ^ i) with h1 | h1
    · exact h1
    · have := Nat.div_pos h1 (Nat.two_pow_pos i)
      omega
  have h2 : 2 ^ i ≤ 2 ^ j := Nat.pow_le_pow_right (by omega) hij
  rw [Nat.div_eq_of_lt (by omega)]
  rfl
theorem setTo_done {m i : Nat} (h : m / 2 ^ i = 0) (hi : i ≤ 62) : setTo m i = setN m := by
  unfold setTo setN
  rw [show List.range 62 = List.range i ++ (List.range (62 - i)).map (i + ·) by rw [← List.range_add]; congr 1; omega, List.filter_append]
  have : ((List.range (62 - i)).map (i + ·)).filter (bitB m) = [] := by
    rw [List.filter_eq_nil_iff]
    intro j hj
    obtain ⟨a, _, rfl⟩ := List.mem_map.1 hj
    rw [bitB_high h (by omega)]
    decide
  rw [this, List.append_nil]
theorem setTo_succ (m i : Nat) : setTo m (i + 1) = if bitB m i = true then setTo m i ++ [(i : Int)] else setTo m i := by
  unfold setTo
  rw [List.range_succ, List.filter_append, List.map_append]
  by_cases h : bitB m i = true
  · rw [if_pos h]
    simp [h]
  · rw [if_neg h]
    simp [h]
theorem setTo_len (m i : Nat) : (setTo m i).length ≤ i := by
  unfold setTo
  rw [List.length_map]
  have := List.length_filter_le (bitB m) (List.range i)
  rw [List.length_range] at this
  exact this
theorem setN_to {m n : Nat} (h : m < 2 ^ n) (hn : n ≤ 62) : setN m = setTo m n := (setTo_done (Nat.div_eq_of_lt h) hn).symm
theorem setTo_in {m n : Nat} : ∀ x ∈ setTo m n, 0 ≤ x ∧ x < (n : Int) ∧ bitB m x.toNat = true := by
  intro x hx
  obtain ⟨i, hi, rfl⟩ := List.mem_map.1 hx
  rw [List.mem_filter, List.mem_range] at hi
  exact ⟨by omega, by omega, by rw [Int.toNat_natCast]; exact hi.2⟩
def leastB (W : List Bool) (n m : Nat) : Bool := W.getD m false && (List.range n).all fun i => !(bitB m i) || !(W.getD (m - 2 ^ i) false)
def takeL (P : Nat → Bool) (i : Nat) : List (List Int) := ((List.range i).filter P).map setN
theorem takeL_succ (P : Nat → Bool) (i : Nat) : takeL P (i + 1) = if P i = true then takeL P i ++ [setN i] else takeL P i := by
  unfold takeL
  rw [List.range_succ, List.filter_append, List.map_append]
  by_cases h : P i = true
  · rw [if_pos h]
    simp [h]
  · rw [if_neg h]
    simp [h]
theorem takeL_len (P : Nat → Bool) (i : Nat) : (takeL P i).length ≤ i := by
  unfold takeL
  rw [List.length_map]
  have := List.length_filter_le P (List.range i)
  rw [List.length_range] at this
  exact this
theorem takeL_mem {P : Nat → Bool} {i : Nat} : ∀ x ∈ takeL P i, ∃ m, m < i ∧ P m = true ∧ x = setN m := by
  intro x hx
  obtain ⟨m, hm, rfl⟩ := List.mem_map.1 hx
  rw [List.mem_filter, List.mem_range] at hm
  exact ⟨m, hm.1, hm.2, rfl⟩
theorem andNot_pow (m i : Nat) (hm : m < 2 ^ 62) (hi : i ≤ 61) (h : bitB m i = true) : Go.bits .andNot .i64 (m : Int) ((2 ^ i : Nat) : Int) = ((m - 2 ^ i : Nat) : Int) := by
  have hp : 2 ^ i ≤ 2 ^ 61 := Nat.pow_le_pow_right (by omega) hi
  have hb : m / 2 ^ i % 2 = 1 := by simpa [bitB] using h
  have hmi : m - 2 ^ i < 2 ^ 62 := Nat.lt_of_le_of_lt (Nat.sub_le _ _) hm
  have key : m &&& (2 ^ 64 - 1 - 2 ^ i) = m - 2 ^ i := by
    have hge : 2 ^ i ≤ m := by
      rcases Nat.lt_or_ge m (2 ^ i) with h1 | h1
      · rw [Nat.div_eq_of_lt h1] at hb; omega
      · exact h1
    have h0 : (m - 2 ^ i) / 2 ^ i % 2 = 0 := by
      have e : m = (m - 2 ^ i) + 2 ^ i := by omega
      have e2 : m / 2 ^ i = (m - 2 ^ i) / 2 ^ i + 1 := by
        conv => lhs; rw [e]
        exact Nat.add_div_right _ (Nat.two_pow_pos i)
      omega
    have hor := or_pow i (m - 2 ^ i) h0
    rw [Nat.sub_add_cancel hge] at hor
    apply Nat.eq_of_testBit_eq
    intro j
    rw [Nat.testBit_and, show 2 ^ 64 - 1 - 2 ^ i = 2 ^ 64 - (2 ^ i + 1) by omega, Nat.testBit_two_pow_sub_succ (by omega : 2 ^ i < 2 ^ 64)]
    have hmj : m.testBit j = ((m - 2 ^ i).testBit j || (2 ^ i).testBit j) := by rw [← Nat.testBit_or, hor]
    by_cases e : j = i
    · subst e
      have : (m - 2 ^ j).testBit j = false := by
        rw [Nat.testBit_eq_decide_div_mod_eq, h0]
        rfl
      rw [this, Nat.testBit_two_pow_self]
      simp
    · have h2 : (2 ^ i).testBit j = false := Nat.testBit_two_pow_of_ne (fun h => e h.symm)
      rw [hmj, h2]
      by_cases hj : j < 64
      · simp [hj]
      · have : (m - 2 ^ i).testBit j = false := Nat.testBit_lt_two_pow (Nat.lt_of_lt_of_le hmi (Nat.pow_le_pow_right (by omega) (by omega)))
        rw [this]
        simp
  have hbv : ((BitVec.ofInt 64 (m : Int)) &&& ~~~(BitVec.ofInt 64 ((2 ^ i : Nat) : Int))).toNat = m - 2 ^ i := by
    rw [BitVec.toNat_and, BitVec.toNat_not, BitVec.ofInt_natCast, BitVec.ofInt_natCast, BitVec.toNat_ofNat, BitVec.toNat_ofNat, Nat.mod_eq_of_lt (by omega : m < 2 ^ 64), Nat.mod_eq_of_lt (by omega : 2 ^ i < 2 ^ 64)]
    exact key
  show IntKind.i64.wrap (((BitVec.ofInt 64 (m : Int)) &&& ~~~(BitVec.ofInt 64 ((2 ^ i : Nat) : Int))).toNat : Int) = _
  rw [hbv]
  exact (fun (x : Nat) (hx : x < 2 ^ 62) => i64_wrap (x := (x : Int)) (by omega) (by omega)) (m - 2 ^ i) hmi
theorem impl_setOf.ev_l (m : Nat) (hm : m < 2 ^ 62) : ∀ (d i : Nat), i + d = 62 → Ev (fun k => impl_setOf.l0 k (m : Int) (setTo m i) (i : Int)) (setN m) := by
  intro d
  induction d with
  | zero =>
    intro i h
    refine ev_step ?_
    simp only [impl_setOf.l0]
    have e : m / 2 ^ i = 0 := by rw [show i = 62 by omega]; exact Nat.div_eq_of_lt hm
    rw [ev_pos (by omega), shr_nat m i (by omega), e, ev_neg (by omega), ev_now, setTo_done e (by omega)]
  | succ d ih =>
    intro i h
    refine ev_step ?_
    simp only [impl_setOf.l0]
    have hlt : m / 2 ^ i < 2 ^ 62 := Nat.lt_of_le_of_lt (Nat.div_le_self _ _) hm
    have hl := setTo_len m i
    rw [ev_pos (by omega), shr_nat m i (by omega), w64 (by omega) (by omega)]
    by_cases e : m / 2 ^ i = 0
    · rw [ev_neg (by omega), ev_now, setTo_done e (by omega)]
    · rw [ev_pos (Int.natCast_pos.2 (Nat.pos_of_ne_zero e)), and_one _ hlt]
      have := ih (i + 1) (by omega)
      rw [setTo_succ] at this
      by_cases hb : m / 2 ^ i % 2 = 1
      · rw [if_pos (by simp [bitB, hb])] at this
        rw [ev_pos (by rw [hb]; rfl), ev_pos (by omega)]
        exact this
      · rw [if_neg (by simp [bitB]; omega)] at this
        rw [ev_neg (c := ((m / 2 ^ i % 2 : Nat) : Int) = 1) (fun h_ => hb (Int.ofNat_inj.1 h_))]
        exact this
theorem impl_setOf.ev (m : Nat) (hm : m < 2 ^ 62) : Ev (fun k => impl_setOf.f k (m : Int)) (setN m) := impl_setOf.ev_l m hm 62 0 (by omega)
end Go.Proofs.YtamfpkefnhcngaaGreat.Q
