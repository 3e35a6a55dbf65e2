/- Printed functions, their contracts and plain facts on them: QLawsFnSwingsToldOfAll; QImplVotesIsGreatest; QImplGreatestLosing; QSpecGreatestLosing; QSpecCountWinning; QImplVotesAll; QImplDictatorOf; QSpecDictatorOf; QSpe. Conditions: as each theorem states. -/
import Derived.Test.YtamfpkefnhcngaaGreatGSwingsToldOfAllx1
import Derived.Test.YtamfpkefnhcngaaGreatGSwingsToldOfAllx2
import Derived.Test.YtamfpkefnhcngaaGreatGSwingsToldOfAllx3
set_option maxHeartbeats 40000000
set_option maxRecDepth 100000
namespace Go.Proofs.YtamfpkefnhcngaaGreat.Q
open Go.RowKit Go.Proofs.YtamfpkefnhcngaaGreatX Go.Proofs.YtamfpkefnhcngaaGreatY Go.Proofs.YtamfpkefnhcngaaGreatX Go.Proofs.YtamfpkefnhcngaaGreatW.PrintWords Go.Proofs.YtamfpkefnhcngaaGreatW.PrintLast Go.Proofs.YtamfpkefnhcngaaGreatW.PrintMore
attribute [local go_sem] max2_int min2_int max_two min_two max_three min_three max_four min_four   -- for this text's walks alone
set_option linter.unusedVariables false
set_option linter.unusedSimpArgs false
attribute [local go_sem high] eqA60
theorem laws_FnSwingsToldOfAll.calls (k : Nat) (a0_0 : Int) (A0_1 : Option Addr) (c0_1 : Nat) (l0_1 : List Int) (a1_0 : Int) (A1_1 : Option Addr) (c1_1 : Nat) (l1_1 : List Int) (a2 : Int) (r : Bool) (w : World) (hr0_1 : Kd.C (Kd.int .i64) w A0_1 l0_1.length l0_1) (hc0_1 : l0_1.length ≤ c0_1) (hr1_1 : Kd.C (Kd.int .i64) w A1_1 l1_1.length l1_1) (hc1_1 : l1_1.length ≤ c1_1) (h : laws_FnSwingsToldOfAll.f k a0_0 l0_1 a1_0 l1_1 a2 = some r) :
  Calls Tryz.prog 5 #[.agg #[.int .i64 a0_0, .slice A0_1 l0_1.length c0_1], .agg #[.int .i64 a1_0, .slice A1_1 l1_1.length c1_1], .int .i64 a2] w fun e w' => e = .returned (.bool r) ∧ Below w.heap.size w w' := by
 have hu26 := Tryz.underlying26
 have hu60 := Tryz.underlying60
 have HR0_1 := Aside0.mk hr0_1
 have HC0_1 := Aside0.mk hc0_1
 clear hr0_1 hc0_1
 have HR1_1 := Aside0.mk hr1_1
 have HC1_1 := Aside0.mk hc1_1
 clear hr1_1 hc1_1
 have HB := Aside0.mk (Below.refl w.heap.size w)
 have H := h
 unfold laws_FnSwingsToldOfAll.f at H
 clear h
 replace H := oB H
 obtain ⟨⟨t103, t106⟩, A40, H⟩ := H
 (try dsimp only at H)
 have A4 := Aside0.mk A40
 clear A40
 replace H := oB H
 obtain ⟨⟨t107, t110⟩, A50, H⟩ := H
 (try dsimp only at H)
 have A5 := Aside0.mk A50
 clear A50
 replace H := oB H
 obtain ⟨⟨t111, t114⟩, A60, H⟩ := H
 (try dsimp only at H)
 have A6 := Aside0.mk A60
 clear A60
 replace H := oB H
 obtain ⟨⟨t115, t118⟩, A70, H⟩ := H
 (try dsimp only at H)
 have A7 := Aside0.mk A70
 clear A70
 replace H := oB H
 obtain ⟨⟨t119, t122⟩, A80, H⟩ := H
 (try dsimp only at H)
 have A8 := Aside0.mk A80
 clear A80
 replace H := oB H
 obtain ⟨⟨t123, t126⟩, A90, H⟩ := H
 (try dsimp only at H)
 have A9 := Aside0.mk A90
 clear A90
 replace H := oB H
 obtain ⟨⟨t127, t128, t129⟩, A100, H⟩ := H
 (try dsimp only at H)
 have A10 := Aside0.mk A100
 clear A100
 replace H := oB H
 obtain ⟨⟨t131, t132, t133⟩, A110, H⟩ := H
 (try dsimp only at H)
 have A11 := Aside0.mk A110
 clear A110
 replace H := oB H
 obtain ⟨⟨t135, t138⟩, A120, H⟩ := H
 (try dsimp only at H)
 have A12 := Aside0.mk A120
 clear A120
 replace H := oB H
 obtain ⟨⟨t139, t142⟩, A130, H⟩ := H
 (try dsimp only at H)
 have A13 := Aside0.mk A130
 clear A130
 replace H := oB H
 obtain ⟨⟨t143, t146⟩, A140, H⟩ := H
 (try dsimp only at H)
 have A14 := Aside0.mk A140
 clear A140
 replace H := oB H
 obtain ⟨⟨t147, t150⟩, A150, H⟩ := H
 (try dsimp only at H)
 have A15 := Aside0.mk A150
 clear A150
 replace H := oB H
 obtain ⟨⟨t151, t154⟩, A160, H⟩ := H
 (try dsimp only at H)
 have A16 := Aside0.mk A160
 clear A160
 replace H := oB H
 obtain ⟨⟨t155, t158⟩, A170, H⟩ := H
 (try dsimp only at H)
 have A17 := Aside0.mk A170
 clear A170
 replace H := ite_no H
 obtain ⟨c18, H⟩ := H
 replace c18 := of_nbne c18
 subst t106
 replace H := oA H
 obtain ⟨t159, A19, H⟩ := H
 (try dsimp only at H)
 replace H := ite_yes H
 obtain ⟨c20, H⟩ := H
 subst c20
 replace H := ite_no H
 obtain ⟨c21, H⟩ := H
 replace c21 := of_nbne c21
 subst t114
 replace H := oA H
 obtain ⟨t160, A22, H⟩ := H
 (try dsimp only at H)
 replace H := ite_yes H
 obtain ⟨c23, H⟩ := H
 subst c23
 replace H := ite_no H
 obtain ⟨c24, H⟩ := H
 replace c24 := of_nbne c24
 subst t122
 replace H := oA H
 obtain ⟨t161, A25, H⟩ := H
 (try dsimp only at H)
 replace H := ite_yes H
 obtain ⟨c26, H⟩ := H
 subst c26
 replace H := ite_no H
 obtain ⟨c27, H⟩ := H
 replace c27 := of_nbne c27
 subst t129
 replace H := ite_no H
 obtain ⟨c28, H⟩ := H
 have c28b0 : (!(t127 == t131) || (!(t128 == t132))) = false := by simpa using c28
 clear c28
 replace H := ite_no H
 obtain ⟨c29, H⟩ := H
 replace c29 := of_nbne c29
 subst t138
 replace H := oA H
 obtain ⟨t162, A30, H⟩ := H
 (try dsimp only at H)
 replace H := ite_yes H
 obtain ⟨c31, H⟩ := H
 subst c31
 replace H := ite_no H
 obtain ⟨c32, H⟩ := H
 replace c32 := of_nbne c32
 subst t146
 replace H := oA H
 obtain ⟨t163, A33, H⟩ := H
 (try dsimp only at H)
 replace H := ite_yes H
 obtain ⟨c34, H⟩ := H
 subst c34
 replace H := ite_no H
 obtain ⟨c35, H⟩ := H
 replace c35 := of_nbne c35
 subst t154
 replace H := oA H
 obtain ⟨t164, A36, H⟩ := H
 (try dsimp only at H)
 replace H := ite_yes H
 obtain ⟨c37, H⟩ := H
 subst c37
 replace H := oA H
 obtain ⟨t165, A38, H⟩ := H
 (try dsimp only at H)
 replace H := ite_no H
 obtain ⟨c39, H⟩ := H
 replace c39 := of_nbne c39
 subst t110
 replace H := ite_no H
 obtain ⟨c40, H⟩ := H
 replace c40 := of_nbne c40
 subst t118
 replace H := ite_no H
 obtain ⟨c41, H⟩ := H
 replace c41 := of_nbne c41
 subst t126
 replace H := ite_no H
 obtain ⟨c42, H⟩ := H
 replace c42 := of_nbne c42
 subst t133
 replace H := ite_no H
 obtain ⟨c43, H⟩ := H
 replace c43 := of_nbne c43
 subst t142
 replace H := ite_no H
 obtain ⟨c44, H⟩ := H
 replace c44 := of_nbne c44
 subst t150
 replace H := ite_no H
 obtain ⟨c45, H⟩ := H
 replace c45 := of_nbne c45
 subst t158
 have HC46 := Aside0.mk H
 clear H
 go_enter Tryz.func5, Tryz.ntmps5
 go_upto_region 1 with (first | ((with_reducible refine gate_dst (N := 3) rfl ?_); (try (refine gate_guard (by rfl) ?_; dsimp only)); refine xE (N := 3) (cs := #[.int .i64 a0_0, .slice A0_1 l0_1.length c0_1]) (t := 26) ?_; intro gb101 hg w47 BK101 hb; have GW101 := gS hg HB; have GE101 := gS hg HB; replace HB := sB HB hb; clear hb hg) | ((with_reducible refine gate_dst (N := 4) rfl ?_); (try (refine gate_guard (by rfl) ?_; dsimp only)); refine xE (N := 4) (cs := #[.int .i64 a1_0, .slice A1_1 l1_1.length c1_1]) (t := 26) ?_; intro gb102 hg w48 BK102 hb; have GW102 := gS hg HB; have GE102 := gS hg HB; have NB101_102 := nL hg (blk_lt BK101.out); have NB102_101 := nG hg (blk_lt BK101.out); replace BK101 := bB BK101 hb; replace HB := sB HB hb; clear hb hg; have hnb49 := NB101_102.out; have hnc49 := NB102_101.out; obtain ⟨hcz50_0, hcz50_1, hfz50_0, hfz50_1⟩ := zZ BK101))
 go_upto_region 2 with (first | ((with_reducible refine gate_callee (f := 56) rfl ?_); refine gL 65 Tryz.func56 #[.agg #[.int .i64 a0_0, .slice A0_1 l0_1.length c0_1]] ?_; (with_reducible refine (impl_SwingsOf.calls k a0_0 _ _ l0_1 t103 t165 _ (Kd.C_below HR0_1.out HB.out) HC0_1.out A4.out).mono ?_); rintro e w51 ⟨v104, rfl, ho0, hb⟩; refine ⟨_, rfl, ?_⟩; have HO105 := Aside0.mk (Kd.R_lower ho0 (below_size HB.out)); replace BK101 := bB BK101 hb; replace BK102 := bB BK102 hb; replace HB := sB HB hb; (try clear hb); (try clear ho0); (try clear hcz50_0 hcz50_1 hfz50_0 hfz50_1); obtain ⟨hcz52_0, hcz52_1, hfz52_0, hfz52_1⟩ := zZ BK101))
 go_upto_region 3 with (first | ((with_reducible refine gate_callee (f := 57) rfl ?_); refine gL 70 Tryz.func57 #[.agg #[.int .i64 a0_0, .slice A0_1 l0_1.length c0_1]] ?_; (with_reducible refine (spec_SwingsOf.calls k a0_0 _ _ l0_1 t107 t165 _ (Kd.C_below HR0_1.out HB.out) HC0_1.out A5.out).mono ?_); rintro e w53 ⟨v108, rfl, ho0, hb⟩; refine ⟨_, rfl, ?_⟩; have HO109 := Aside0.mk (Kd.R_lower (Kd.R_new' ho0 (Kd.R_lt HO105.out)) (below_size HB.out)); replace HO105 := rE HO105 (Kd.R_base ho0) hb; replace BK101 := bB BK101 hb; replace BK102 := bB BK102 hb; replace HB := sB HB hb; (try clear hb); (try clear ho0); (try clear hcz52_0 hcz52_1 hfz52_0 hfz52_1); obtain ⟨hcz54_0, hcz54_1, hfz54_0, hfz54_1⟩ := zZ BK101))
 go_upto_region 4 with (first | ((with_reducible refine gate_callee (f := 58) rfl ?_); refine gL 75 Tryz.func58 #[.agg #[.int .i64 a0_0, .slice A0_1 l0_1.length c0_1]] ?_; (with_reducible refine (impl_SwingPowers.calls k a0_0 _ _ l0_1 t111 t165 _ (Kd.C_below HR0_1.out HB.out) HC0_1.out A6.out).mono ?_); rintro e w55 ⟨v112, rfl, ho0, hb⟩; refine ⟨_, rfl, ?_⟩; have HO113 := Aside0.mk (Kd.R_lower ho0 (below_size HB.out)); replace HO105 := rB HO105 hb; replace HO109 := rB HO109 hb; replace BK101 := bB BK101 hb; replace BK102 := bB BK102 hb; replace HB := sB HB hb; (try clear hb); (try clear ho0); (try clear hcz54_0 hcz54_1 hfz54_0 hfz54_1); obtain ⟨hcz56_0, hcz56_1, hfz56_0, hfz56_1⟩ := zZ BK101))
 go_upto_region 5 with (first | ((with_reducible refine gate_callee (f := 59) rfl ?_); refine gL 80 Tryz.func59 #[.agg #[.int .i64 a0_0, .slice A0_1 l0_1.length c0_1]] ?_; (with_reducible refine (spec_SwingPowers.calls k a0_0 _ _ l0_1 t115 t165 _ (Kd.C_below HR0_1.out HB.out) HC0_1.out A7.out).mono ?_); rintro e w57 ⟨v116, rfl, ho0, hb⟩; refine ⟨_, rfl, ?_⟩; have HO117 := Aside0.mk (Kd.R_lower (Kd.R_new' ho0 (Kd.R_lt HO113.out)) (below_size HB.out)); replace HO105 := rB HO105 hb; replace HO109 := rB HO109 hb; replace HO113 := rE HO113 (Kd.R_base ho0) hb; replace BK101 := bB BK101 hb; replace BK102 := bB BK102 hb; replace HB := sB HB hb; (try clear hb); (try clear ho0); (try clear hcz56_0 hcz56_1 hfz56_0 hfz56_1); obtain ⟨hcz58_0, hcz58_1, hfz58_0, hfz58_1⟩ := zZ BK101))
 go_upto_region 6 with (first | ((with_reducible refine gate_callee (f := 60) rfl ?_); refine gL 85 Tryz.func60 #[.agg #[.int .i64 a0_0, .slice A0_1 l0_1.length c0_1]] ?_; (with_reducible refine (impl_SwingShares.calls k a0_0 _ _ l0_1 t119 t165 _ (Kd.C_below HR0_1.out HB.out) HC0_1.out A8.out).mono ?_); rintro e w59 ⟨v120, rfl, ho0, hb⟩; refine ⟨_, rfl, ?_⟩; have HO121 := Aside0.mk (Kd.R_lower (Kd.R_new' (Kd.R_new' ho0 (Kd.R_lt HO113.out)) (Kd.R_lt HO117.out)) (below_size HB.out)); replace HO105 := rB HO105 hb; replace HO109 := rB HO109 hb; replace HO113 := rE HO113 (Kd.R_base ho0) hb; replace HO117 := rE HO117 (Kd.R_base ho0) hb; replace BK101 := bB BK101 hb; replace BK102 := bB BK102 hb; replace HB := sB HB hb; (try clear hb); (try clear ho0); (try clear hcz58_0 hcz58_1 hfz58_0 hfz58_1); obtain ⟨hcz60_0, hcz60_1, hfz60_0, hfz60_1⟩ := zZ BK101))
 go_upto_region 7 with (first | ((with_reducible refine gate_callee (f := 61) rfl ?_); refine gL 90 Tryz.func61 #[.agg #[.int .i64 a0_0, .slice A0_1 l0_1.length c0_1]] ?_; (with_reducible refine (spec_SwingShares.calls k a0_0 _ _ l0_1 t123 t165 _ (Kd.C_below HR0_1.out HB.out) HC0_1.out A9.out).mono ?_); rintro e w61 ⟨v124, rfl, ho0, hb⟩; refine ⟨_, rfl, ?_⟩; have HO125 := Aside0.mk (Kd.R_lower (Kd.R_new' (Kd.R_new' (Kd.R_new' ho0 (Kd.R_lt HO113.out)) (Kd.R_lt HO117.out)) (Kd.R_lt HO121.out)) (below_size HB.out)); replace HO105 := rB HO105 hb; replace HO109 := rB HO109 hb; replace HO113 := rE HO113 (Kd.R_base ho0) hb; replace HO117 := rE HO117 (Kd.R_base ho0) hb; replace HO121 := rE HO121 (Kd.R_base ho0) hb; replace BK101 := bB BK101 hb; replace BK102 := bB BK102 hb; replace HB := sB HB hb; (try clear hb); (try clear ho0); (try clear hcz60_0 hcz60_1 hfz60_0 hfz60_1); obtain ⟨hcz62_0, hcz62_1, hfz62_0, hfz62_1⟩ := zZ BK101))
 go_upto_region 8 with (first | ((with_reducible refine gate_callee (f := 62) rfl ?_); refine gL 95 Tryz.func62 #[.agg #[.int .i64 a0_0, .slice A0_1 l0_1.length c0_1]] ?_; (with_reducible refine (impl_DecidePower.calls k a0_0 _ _ l0_1 t127 t128 t165 _ (Kd.C_below HR0_1.out HB.out) HC0_1.out A10.out).mono ?_); rintro e w63 ⟨rfl, hb⟩; refine ⟨_, rfl, ?_⟩; replace HO105 := rB HO105 hb; replace HO109 := rB HO109 hb; replace HO113 := rB HO113 hb; replace HO117 := rB HO117 hb; replace HO121 := rB HO121 hb; replace HO125 := rB HO125 hb; replace BK101 := bB BK101 hb; replace BK102 := bB BK102 hb; replace HB := sB HB hb; (try clear hb)) | ((with_reducible refine gate_dst (N := 19) rfl ?_); (try (refine gate_guard (by rfl) ?_; dsimp only)); refine xE (N := 19) (cs := #[.int .i64 0, .int .i64 0]) (t := 60) ?_; intro gb130 hg w64 BK130 hb; have GW130 := gS hg HB; have GE130 := gS hg HB; have NB101_130 := nL hg (blk_lt BK101.out); have NB130_101 := nG hg (blk_lt BK101.out); have NB102_130 := nL hg (blk_lt BK102.out); have NB130_102 := nG hg (blk_lt BK102.out); replace HO105 := rB HO105 hb; replace HO109 := rB HO109 hb; replace HO113 := rF HO113 gb130 hg hb; replace HO117 := rF HO117 gb130 hg hb; replace HO121 := rF HO121 gb130 hg hb; replace HO125 := rF HO125 gb130 hg hb; replace BK101 := bB BK101 hb; replace BK102 := bB BK102 hb; replace HB := sB HB hb; clear hb hg; have hnb65 := NB130_101.out; have hnc65 := NB101_130.out; have hnb66 := NB130_102.out; have hnc66 := NB102_130.out; (try clear hcz62_0 hcz62_1 hfz62_0 hfz62_1); obtain ⟨hcz67_0, hcz67_1, hfz67_0, hfz67_1⟩ := zZ BK130; obtain ⟨hcz68_0, hcz68_1, hfz68_0, hfz68_1⟩ := zZ BK101))
 go_upto_region 9 with (first | ((with_reducible refine gate_callee (f := 63) rfl ?_); refine gL 100 Tryz.func63 #[.agg #[.int .i64 a0_0, .slice A0_1 l0_1.length c0_1]] ?_; (with_reducible refine (spec_DecidePower.calls k a0_0 _ _ l0_1 t131 t132 t165 _ (Kd.C_below HR0_1.out (by repeat (first | exact HB.out | apply ba | refine bs ?_ GE130.out))) HC0_1.out A11.out).mono ?_); rintro e w69 ⟨rfl, hb⟩; refine ⟨_, rfl, ?_⟩; replace HO105 := Aside0.mk (Kd.R_below (by exact (Kd.R_mono (Kd.R_far (p := ⟨gb130, 1, none⟩) (Kd.R_far (p := ⟨gb130, 0, none⟩) (Kd.R_types HO105.out BK130.out (by decide)) (fun _ hk => hk.2) (.int .i64 t127)) (fun _ hk => hk.2) (.int .i64 t128)) (fun _ h_ => h_.1))) hb); replace HO109 := Aside0.mk (Kd.R_below (by exact (Kd.R_mono (Kd.R_far (p := ⟨gb130, 1, none⟩) (Kd.R_far (p := ⟨gb130, 0, none⟩) (Kd.R_types HO109.out BK130.out (by decide)) (fun _ hk => hk.2) (.int .i64 t127)) (fun _ hk => hk.2) (.int .i64 t128)) (fun _ h_ => h_.1))) hb); replace HO113 := Aside0.mk (Kd.R_below (by exact (Kd.R_mono (Kd.R_far (p := ⟨gb130, 1, none⟩) (Kd.R_far (p := ⟨gb130, 0, none⟩) (Kd.R_mono HO113.out (fun k_ hk => (⟨hk, hk.2⟩ : _ ∧ k_ ≠ gb130))) (fun _ hk => hk.2) (.int .i64 t127)) (fun _ hk => hk.2) (.int .i64 t128)) (fun _ h_ => h_.1))) hb); replace HO117 := Aside0.mk (Kd.R_below (by exact (Kd.R_mono (Kd.R_far (p := ⟨gb130, 1, none⟩) (Kd.R_far (p := ⟨gb130, 0, none⟩) (Kd.R_mono HO117.out (fun k_ hk => (⟨hk, hk.2⟩ : _ ∧ k_ ≠ gb130))) (fun _ hk => hk.2) (.int .i64 t127)) (fun _ hk => hk.2) (.int .i64 t128)) (fun _ h_ => h_.1))) hb); replace HO121 := Aside0.mk (Kd.R_below (by exact (Kd.R_mono (Kd.R_far (p := ⟨gb130, 1, none⟩) (Kd.R_far (p := ⟨gb130, 0, none⟩) (Kd.R_mono HO121.out (fun k_ hk => (⟨hk, hk.2⟩ : _ ∧ k_ ≠ gb130))) (fun _ hk => hk.2) (.int .i64 t127)) (fun _ hk => hk.2) (.int .i64 t128)) (fun _ h_ => h_.1))) hb); replace HO125 := Aside0.mk (Kd.R_below (by exact (Kd.R_mono (Kd.R_far (p := ⟨gb130, 1, none⟩) (Kd.R_far (p := ⟨gb130, 0, none⟩) (Kd.R_mono HO125.out (fun k_ hk => (⟨hk, hk.2⟩ : _ ∧ k_ ≠ gb130))) (fun _ hk => hk.2) (.int .i64 t127)) (fun _ hk => hk.2) (.int .i64 t128)) (fun _ h_ => h_.1))) hb); replace BK101 := Aside0.mk (blk_below (g := gb101) (o := .cells #[.int .i64 a0_0, .slice A0_1 l0_1.length c0_1] 26 (0, 0)) (by refine blk_far ?_ NB101_130.out _; refine blk_far ?_ NB101_130.out _; exact BK101.out) hb); replace BK102 := Aside0.mk (blk_below (g := gb102) (o := .cells #[.int .i64 a1_0, .slice A1_1 l1_1.length c1_1] 26 (0, 0)) (by refine blk_far ?_ NB102_130.out _; refine blk_far ?_ NB102_130.out _; exact BK102.out) hb); replace BK130 := Aside0.mk (blk_below (g := gb130) (o := .cells #[.int .i64 t127, .int .i64 t128] 60 (0, 0)) (by refine blk_put (cs := #[.int .i64 t127, .int .i64 0]) ?_ 1 _ rfl; refine blk_put (cs := #[.int .i64 0, .int .i64 0]) ?_ 0 _ rfl; exact BK130.out) hb); replace HB := Aside0.mk (below_step (by repeat (first | exact HB.out | apply ba | refine bs ?_ GE130.out)) hb); (try clear hb)) | ((with_reducible refine gate_dst (N := 21) rfl ?_); (try (refine gate_guard (by rfl) ?_; dsimp only)); refine xE (N := 21) (cs := #[.int .i64 0, .int .i64 0]) (t := 60) ?_; intro gb134 hg w70 BK134 hb; have GW134 := gS hg HB; have GE134 := gS hg HB; have NB101_134 := nL hg (blk_lt BK101.out); have NB134_101 := nG hg (blk_lt BK101.out); have NB102_134 := nL hg (blk_lt BK102.out); have NB134_102 := nG hg (blk_lt BK102.out); have NB130_134 := nL hg (blk_lt BK130.out); have NB134_130 := nG hg (blk_lt BK130.out); replace HO105 := rB HO105 hb; replace HO109 := rB HO109 hb; replace HO113 := rF HO113 gb134 hg hb; replace HO117 := rF HO117 gb134 hg hb; replace HO121 := rF HO121 gb134 hg hb; replace HO125 := rF HO125 gb134 hg hb; replace BK101 := bB BK101 hb; replace BK102 := bB BK102 hb; replace BK130 := bB BK130 hb; replace HB := sB HB hb; clear hb hg; have hnb71 := NB134_101.out; have hnc71 := NB101_134.out; have hnb72 := NB134_102.out; have hnc72 := NB102_134.out; have hnb73 := NB134_130.out; have hnc73 := NB130_134.out; (try clear hcz67_0 hcz67_1 hfz67_0 hfz67_1 hcz68_0 hcz68_1 hfz68_0 hfz68_1); obtain ⟨hcz74_0, hcz74_1, hfz74_0, hfz74_1⟩ := zZ BK134; obtain ⟨hcz75_0, hcz75_1, hfz75_0, hfz75_1⟩ := zZ BK101))
 go_upto_region 10 with (first | ((with_reducible refine gate_callee (f := 64) rfl ?_); refine gL 105 Tryz.func64 #[.agg #[.int .i64 a0_0, .slice A0_1 l0_1.length c0_1]] ?_; (with_reducible refine (impl_BlockPowers.calls k a0_0 _ _ l0_1 t135 t165 _ (Kd.C_below HR0_1.out (by repeat (first | exact HB.out | apply ba | refine bs ?_ GE134.out))) HC0_1.out A12.out).mono ?_); rintro e w76 ⟨v136, rfl, ho0, hb⟩; refine ⟨_, rfl, ?_⟩; have HO137 := Aside0.mk (Kd.R_lower (Kd.R_newB (Kd.R_newB (Kd.R_new' (Kd.R_new' (Kd.R_new' (Kd.R_new' ho0 (Kd.R_lt (by exact (Kd.R_mono (Kd.R_far (p := ⟨gb134, 1, none⟩) (Kd.R_far (p := ⟨gb134, 0, none⟩) (Kd.R_mono HO113.out (fun k_ hk => (⟨hk, hk.2⟩ : _ ∧ k_ ≠ gb134))) (fun _ hk => hk.2) (.int .i64 t131)) (fun _ hk => hk.2) (.int .i64 t132)) (fun _ h_ => h_.1))))) (Kd.R_lt (by exact (Kd.R_mono (Kd.R_far (p := ⟨gb134, 1, none⟩) (Kd.R_far (p := ⟨gb134, 0, none⟩) (Kd.R_mono HO117.out (fun k_ hk => (⟨hk, hk.2⟩ : _ ∧ k_ ≠ gb134))) (fun _ hk => hk.2) (.int .i64 t131)) (fun _ hk => hk.2) (.int .i64 t132)) (fun _ h_ => h_.1))))) (Kd.R_lt (by exact (Kd.R_mono (Kd.R_far (p := ⟨gb134, 1, none⟩) (Kd.R_far (p := ⟨gb134, 0, none⟩) (Kd.R_mono HO121.out (fun k_ hk => (⟨hk, hk.2⟩ : _ ∧ k_ ≠ gb134))) (fun _ hk => hk.2) (.int .i64 t131)) (fun _ hk => hk.2) (.int .i64 t132)) (fun _ h_ => h_.1))))) (Kd.R_lt (by exact (Kd.R_mono (Kd.R_far (p := ⟨gb134, 1, none⟩) (Kd.R_far (p := ⟨gb134, 0, none⟩) (Kd.R_mono HO125.out (fun k_ hk => (⟨hk, hk.2⟩ : _ ∧ k_ ≠ gb134))) (fun _ hk => hk.2) (.int .i64 t131)) (fun _ hk => hk.2) (.int .i64 t132)) (fun _ h_ => h_.1))))) (g := gb130) (o := .cells #[.int .i64 t127, .int .i64 t128] 60 (0, 0)) (by refine blk_far ?_ NB130_134.out _; refine blk_far ?_ NB130_134.out _; exact BK130.out)) (g := gb134) (o := .cells #[.int .i64 t131, .int .i64 t132] 60 (0, 0)) (by refine blk_put (cs := #[.int .i64 t131, .int .i64 0]) ?_ 1 _ rfl; refine blk_put (cs := #[.int .i64 0, .int .i64 0]) ?_ 0 _ rfl; exact BK134.out)) (below_size (by repeat (first | exact HB.out | apply ba | refine bs ?_ GE134.out)))); replace HO105 := Aside0.mk (Kd.R_below (by exact (Kd.R_mono (Kd.R_far (p := ⟨gb134, 1, none⟩) (Kd.R_far (p := ⟨gb134, 0, none⟩) (Kd.R_types HO105.out BK134.out (by decide)) (fun _ hk => hk.2) (.int .i64 t131)) (fun _ hk => hk.2) (.int .i64 t132)) (fun _ h_ => h_.1))) hb); replace HO109 := Aside0.mk (Kd.R_below (by exact (Kd.R_mono (Kd.R_far (p := ⟨gb134, 1, none⟩) (Kd.R_far (p := ⟨gb134, 0, none⟩) (Kd.R_types HO109.out BK134.out (by decide)) (fun _ hk => hk.2) (.int .i64 t131)) (fun _ hk => hk.2) (.int .i64 t132)) (fun _ h_ => h_.1))) hb); replace HO113 := Aside0.mk (Kd.R_elder' (by exact (Kd.R_mono (Kd.R_far (p := ⟨gb134, 1, none⟩) (Kd.R_far (p := ⟨gb134, 0, none⟩) (Kd.R_mono HO113.out (fun k_ hk => (⟨hk, hk.2⟩ : _ ∧ k_ ≠ gb134))) (fun _ hk => hk.2) (.int .i64 t131)) (fun _ hk => hk.2) (.int .i64 t132)) (fun _ h_ => h_.1))) (Kd.R_base ho0) hb); replace HO117 := Aside0.mk (Kd.R_elder' (by exact (Kd.R_mono (Kd.R_far (p := ⟨gb134, 1, none⟩) (Kd.R_far (p := ⟨gb134, 0, none⟩) (Kd.R_mono HO117.out (fun k_ hk => (⟨hk, hk.2⟩ : _ ∧ k_ ≠ gb134))) (fun _ hk => hk.2) (.int .i64 t131)) (fun _ hk => hk.2) (.int .i64 t132)) (fun _ h_ => h_.1))) (Kd.R_base ho0) hb); replace HO121 := Aside0.mk (Kd.R_elder' (by exact (Kd.R_mono (Kd.R_far (p := ⟨gb134, 1, none⟩) (Kd.R_far (p := ⟨gb134, 0, none⟩) (Kd.R_mono HO121.out (fun k_ hk => (⟨hk, hk.2⟩ : _ ∧ k_ ≠ gb134))) (fun _ hk => hk.2) (.int .i64 t131)) (fun _ hk => hk.2) (.int .i64 t132)) (fun _ h_ => h_.1))) (Kd.R_base ho0) hb); replace HO125 := Aside0.mk (Kd.R_elder' (by exact (Kd.R_mono (Kd.R_far (p := ⟨gb134, 1, none⟩) (Kd.R_far (p := ⟨gb134, 0, none⟩) (Kd.R_mono HO125.out (fun k_ hk => (⟨hk, hk.2⟩ : _ ∧ k_ ≠ gb134))) (fun _ hk => hk.2) (.int .i64 t131)) (fun _ hk => hk.2) (.int .i64 t132)) (fun _ h_ => h_.1))) (Kd.R_base ho0) hb); replace BK101 := Aside0.mk (blk_below (g := gb101) (o := .cells #[.int .i64 a0_0, .slice A0_1 l0_1.length c0_1] 26 (0, 0)) (by refine blk_far ?_ NB101_134.out _; refine blk_far ?_ NB101_134.out _; exact BK101.out) hb); replace BK102 := Aside0.mk (blk_below (g := gb102) (o := .cells #[.int .i64 a1_0, .slice A1_1 l1_1.length c1_1] 26 (0, 0)) (by refine blk_far ?_ NB102_134.out _; refine blk_far ?_ NB102_134.out _; exact BK102.out) hb); replace BK130 := Aside0.mk (blk_below (g := gb130) (o := .cells #[.int .i64 t127, .int .i64 t128] 60 (0, 0)) (by refine blk_far ?_ NB130_134.out _; refine blk_far ?_ NB130_134.out _; exact BK130.out) hb); replace BK134 := Aside0.mk (blk_below (g := gb134) (o := .cells #[.int .i64 t131, .int .i64 t132] 60 (0, 0)) (by refine blk_put (cs := #[.int .i64 t131, .int .i64 0]) ?_ 1 _ rfl; refine blk_put (cs := #[.int .i64 0, .int .i64 0]) ?_ 0 _ rfl; exact BK134.out) hb); replace HB := Aside0.mk (below_step (by repeat (first | exact HB.out | apply ba | refine bs ?_ GE134.out)) hb); (try clear hb); (try clear ho0); (try clear hcz74_0 hcz74_1 hfz74_0 hfz74_1 hcz75_0 hcz75_1 hfz75_0 hfz75_1); obtain ⟨hcz77_0, hcz77_1, hfz77_0, hfz77_1⟩ := zZ BK101))
 go_upto_region 11 with (first | ((with_reducible refine gate_callee (f := 65) rfl ?_); refine gL 110 Tryz.func65 #[.agg #[.int .i64 a0_0, .slice A0_1 l0_1.length c0_1]] ?_; (with_reducible refine (spec_BlockPowers.calls k a0_0 _ _ l0_1 t139 t165 _ (Kd.C_below HR0_1.out HB.out) HC0_1.out A13.out).mono ?_); rintro e w78 ⟨v140, rfl, ho0, hb⟩; refine ⟨_, rfl, ?_⟩; have HO141 := Aside0.mk (Kd.R_lower (Kd.R_newB (Kd.R_newB (Kd.R_new' (Kd.R_new' (Kd.R_new' (Kd.R_new' (Kd.R_new' ho0 (Kd.R_lt HO113.out)) (Kd.R_lt HO117.out)) (Kd.R_lt HO121.out)) (Kd.R_lt HO125.out)) (Kd.R_lt HO137.out)) (g := gb130) (o := .cells #[.int .i64 t127, .int .i64 t128] 60 (0, 0)) BK130.out) (g := gb134) (o := .cells #[.int .i64 t131, .int .i64 t132] 60 (0, 0)) BK134.out) (below_size HB.out)); replace HO105 := rB HO105 hb; replace HO109 := rB HO109 hb; replace HO113 := rE HO113 (Kd.R_base ho0) hb; replace HO117 := rE HO117 (Kd.R_base ho0) hb; replace HO121 := rE HO121 (Kd.R_base ho0) hb; replace HO125 := rE HO125 (Kd.R_base ho0) hb; replace HO137 := rE HO137 (Kd.R_base ho0) hb; replace BK101 := bB BK101 hb; replace BK102 := bB BK102 hb; replace BK130 := bB BK130 hb; replace BK134 := bB BK134 hb; replace HB := sB HB hb; (try clear hb); (try clear ho0); (try clear hcz77_0 hcz77_1 hfz77_0 hfz77_1); obtain ⟨hcz79_0, hcz79_1, hfz79_0, hfz79_1⟩ := zZ BK101))
 go_upto_region 12 with (first | ((with_reducible refine gate_callee (f := 66) rfl ?_); refine gL 115 Tryz.func66 #[.agg #[.int .i64 a0_0, .slice A0_1 l0_1.length c0_1]] ?_; (with_reducible refine (impl_StartPowers.calls k a0_0 _ _ l0_1 t143 t165 _ (Kd.C_below HR0_1.out HB.out) HC0_1.out A14.out).mono ?_); rintro e w80 ⟨v144, rfl, ho0, hb⟩; refine ⟨_, rfl, ?_⟩; have HO145 := Aside0.mk (Kd.R_lower (Kd.R_newB (Kd.R_newB (Kd.R_new' (Kd.R_new' (Kd.R_new' (Kd.R_new' (Kd.R_new' (Kd.R_new' ho0 (Kd.R_lt HO113.out)) (Kd.R_lt HO117.out)) (Kd.R_lt HO121.out)) (Kd.R_lt HO125.out)) (Kd.R_lt HO137.out)) (Kd.R_lt HO141.out)) (g := gb130) (o := .cells #[.int .i64 t127, .int .i64 t128] 60 (0, 0)) BK130.out) (g := gb134) (o := .cells #[.int .i64 t131, .int .i64 t132] 60 (0, 0)) BK134.out) (below_size HB.out)); replace HO105 := rB HO105 hb; replace HO109 := rB HO109 hb; replace HO113 := rE HO113 (Kd.R_base ho0) hb; replace HO117 := rE HO117 (Kd.R_base ho0) hb; replace HO121 := rE HO121 (Kd.R_base ho0) hb; replace HO125 := rE HO125 (Kd.R_base ho0) hb; replace HO137 := rE HO137 (Kd.R_base ho0) hb; replace HO141 := rE HO141 (Kd.R_base ho0) hb; replace BK101 := bB BK101 hb; replace BK102 := bB BK102 hb; replace BK130 := bB BK130 hb; replace BK134 := bB BK134 hb; replace HB := sB HB hb; (try clear hb); (try clear ho0); (try clear hcz79_0 hcz79_1 hfz79_0 hfz79_1); obtain ⟨hcz81_0, hcz81_1, hfz81_0, hfz81_1⟩ := zZ BK101))
 go_upto_region 13 with (first | ((with_reducible refine gate_callee (f := 67) rfl ?_); refine gL 120 Tryz.func67 #[.agg #[.int .i64 a0_0, .slice A0_1 l0_1.length c0_1]] ?_; (with_reducible refine (spec_StartPowers.calls k a0_0 _ _ l0_1 t147 t165 _ (Kd.C_below HR0_1.out HB.out) HC0_1.out A15.out).mono ?_); rintro e w82 ⟨v148, rfl, ho0, hb⟩; refine ⟨_, rfl, ?_⟩; have HO149 := Aside0.mk (Kd.R_lower (Kd.R_newB (Kd.R_newB (Kd.R_new' (Kd.R_new' (Kd.R_new' (Kd.R_new' (Kd.R_new' (Kd.R_new' (Kd.R_new' ho0 (Kd.R_lt HO113.out)) (Kd.R_lt HO117.out)) (Kd.R_lt HO121.out)) (Kd.R_lt HO125.out)) (Kd.R_lt HO137.out)) (Kd.R_lt HO141.out)) (Kd.R_lt HO145.out)) (g := gb130) (o := .cells #[.int .i64 t127, .int .i64 t128] 60 (0, 0)) BK130.out) (g := gb134) (o := .cells #[.int .i64 t131, .int .i64 t132] 60 (0, 0)) BK134.out) (below_size HB.out)); replace HO105 := rB HO105 hb; replace HO109 := rB HO109 hb; replace HO113 := rE HO113 (Kd.R_base ho0) hb; replace HO117 := rE HO117 (Kd.R_base ho0) hb; replace HO121 := rE HO121 (Kd.R_base ho0) hb; replace HO125 := rE HO125 (Kd.R_base ho0) hb; replace HO137 := rE HO137 (Kd.R_base ho0) hb; replace HO141 := rE HO141 (Kd.R_base ho0) hb; replace HO145 := rE HO145 (Kd.R_base ho0) hb; replace BK101 := bB BK101 hb; replace BK102 := bB BK102 hb; replace BK130 := bB BK130 hb; replace BK134 := bB BK134 hb; replace HB := sB HB hb; (try clear hb); (try clear ho0); (try clear hcz81_0 hcz81_1 hfz81_0 hfz81_1); obtain ⟨hcz83_0, hcz83_1, hfz83_0, hfz83_1⟩ := zZ BK101))
 go_upto_region 14 with (first | ((with_reducible refine gate_callee (f := 68) rfl ?_); refine gL 125 Tryz.func68 #[.agg #[.int .i64 a0_0, .slice A0_1 l0_1.length c0_1]] ?_; (with_reducible refine (impl_AgreeChances.calls k a0_0 _ _ l0_1 t151 t165 _ (Kd.C_below HR0_1.out HB.out) HC0_1.out A16.out).mono ?_); rintro e w84 ⟨v152, rfl, ho0, hb⟩; refine ⟨_, rfl, ?_⟩; have HO153 := Aside0.mk (Kd.R_lower (Kd.R_newB (Kd.R_newB (Kd.R_new' (Kd.R_new' (Kd.R_new' (Kd.R_new' (Kd.R_new' (Kd.R_new' (Kd.R_new' (Kd.R_new' ho0 (Kd.R_lt HO113.out)) (Kd.R_lt HO117.out)) (Kd.R_lt HO121.out)) (Kd.R_lt HO125.out)) (Kd.R_lt HO137.out)) (Kd.R_lt HO141.out)) (Kd.R_lt HO145.out)) (Kd.R_lt HO149.out)) (g := gb130) (o := .cells #[.int .i64 t127, .int .i64 t128] 60 (0, 0)) BK130.out) (g := gb134) (o := .cells #[.int .i64 t131, .int .i64 t132] 60 (0, 0)) BK134.out) (below_size HB.out)); replace HO105 := rB HO105 hb; replace HO109 := rB HO109 hb; replace HO113 := rE HO113 (Kd.R_base ho0) hb; replace HO117 := rE HO117 (Kd.R_base ho0) hb; replace HO121 := rE HO121 (Kd.R_base ho0) hb; replace HO125 := rE HO125 (Kd.R_base ho0) hb; replace HO137 := rE HO137 (Kd.R_base ho0) hb; replace HO141 := rE HO141 (Kd.R_base ho0) hb; replace HO145 := rE HO145 (Kd.R_base ho0) hb; replace HO149 := rE HO149 (Kd.R_base ho0) hb; replace BK101 := bB BK101 hb; replace BK102 := bB BK102 hb; replace BK130 := bB BK130 hb; replace BK134 := bB BK134 hb; replace HB := sB HB hb; (try clear hb); (try clear ho0); (try clear hcz83_0 hcz83_1 hfz83_0 hfz83_1); obtain ⟨hcz85_0, hcz85_1, hfz85_0, hfz85_1⟩ := zZ BK101))
 go_upto_region 15 with (first | ((with_reducible refine gate_callee (f := 69) rfl ?_); refine gL 130 Tryz.func69 #[.agg #[.int .i64 a0_0, .slice A0_1 l0_1.length c0_1]] ?_; (with_reducible refine (spec_AgreeChances.calls k a0_0 _ _ l0_1 t155 t165 _ (Kd.C_below HR0_1.out HB.out) HC0_1.out A17.out).mono ?_); rintro e w86 ⟨v156, rfl, ho0, hb⟩; refine ⟨_, rfl, ?_⟩; have HO157 := Aside0.mk (Kd.R_lower (Kd.R_newB (Kd.R_newB (Kd.R_new' (Kd.R_new' (Kd.R_new' (Kd.R_new' (Kd.R_new' (Kd.R_new' (Kd.R_new' (Kd.R_new' (Kd.R_new' ho0 (Kd.R_lt HO113.out)) (Kd.R_lt HO117.out)) (Kd.R_lt HO121.out)) (Kd.R_lt HO125.out)) (Kd.R_lt HO137.out)) (Kd.R_lt HO141.out)) (Kd.R_lt HO145.out)) (Kd.R_lt HO149.out)) (Kd.R_lt HO153.out)) (g := gb130) (o := .cells #[.int .i64 t127, .int .i64 t128] 60 (0, 0)) BK130.out) (g := gb134) (o := .cells #[.int .i64 t131, .int .i64 t132] 60 (0, 0)) BK134.out) (below_size HB.out)); replace HO105 := rB HO105 hb; replace HO109 := rB HO109 hb; replace HO113 := rE HO113 (Kd.R_base ho0) hb; replace HO117 := rE HO117 (Kd.R_base ho0) hb; replace HO121 := rE HO121 (Kd.R_base ho0) hb; replace HO125 := rE HO125 (Kd.R_base ho0) hb; replace HO137 := rE HO137 (Kd.R_base ho0) hb; replace HO141 := rE HO141 (Kd.R_base ho0) hb; replace HO145 := rE HO145 (Kd.R_base ho0) hb; replace HO149 := rE HO149 (Kd.R_base ho0) hb; replace HO153 := rE HO153 (Kd.R_base ho0) hb; replace BK101 := bB BK101 hb; replace BK102 := bB BK102 hb; replace BK130 := bB BK130 hb; replace BK134 := bB BK134 hb; replace HB := sB HB hb; (try clear hb); (try clear ho0); obtain ⟨Ao87, co87, eo87⟩ := Kd.R_slice HO105.out; subst eo87; obtain ⟨Ao88, co88, eo88⟩ := Kd.R_slice HO109.out; subst eo88))
 go_upto_if 243 with (first | (go_at_call 70; (with_reducible refine (laws_zSame.calls k _ _ t103 _ _ t107 true _ ?side1 ?side2 ?side3 ?side4 A19.out).mono ?_); (case side1 => have hx_ := (Kd.R_reads' HO105.out).2.2; exact cC); (case side2 => exact (Kd.R_reads' HO105.out).2.1); (case side3 => have hx_ := (Kd.R_reads' HO109.out).2.2; exact cC); (case side4 => exact (Kd.R_reads' HO109.out).2.1); rintro e w' ⟨rfl, ⟨nd, rfl⟩⟩; obtain ⟨Ao89, co89, eo89⟩ := Kd.R_slice HO113.out; subst eo89; obtain ⟨Ao90, co90, eo90⟩ := Kd.R_slice HO117.out; subst eo90) | (go_at_call 71; (with_reducible refine (laws_zShares.calls k _ _ t111 _ _ t115 true _ ?side1 ?side2 ?side3 ?side4 A22.out).mono ?_); (case side1 => have hx_ := (Kd.R_reads' HO113.out).2.2; exact cC); (case side2 => exact (Kd.R_reads' HO113.out).2.1); (case side3 => have hx_ := (Kd.R_reads' HO117.out).2.2; exact cC); (case side4 => exact (Kd.R_reads' HO117.out).2.1); rintro e w' ⟨rfl, ⟨nd, rfl⟩⟩; obtain ⟨Ao91, co91, eo91⟩ := Kd.R_slice HO121.out; subst eo91; obtain ⟨Ao92, co92, eo92⟩ := Kd.R_slice HO125.out; subst eo92) | (go_at_call 71; (with_reducible refine (laws_zShares.calls k _ _ t119 _ _ t123 true _ ?side1 ?side2 ?side3 ?side4 A25.out).mono ?_); (case side1 => have hx_ := (Kd.R_reads' HO121.out).2.2; exact cC); (case side2 => exact (Kd.R_reads' HO121.out).2.1); (case side3 => have hx_ := (Kd.R_reads' HO125.out).2.2; exact cC); (case side4 => exact (Kd.R_reads' HO125.out).2.1); rintro e w' ⟨rfl, ⟨nd, rfl⟩⟩; (try clear hcz85_0 hcz85_1 hfz85_0 hfz85_1); obtain ⟨hcz93_0, hcz93_1, hfz93_0, hfz93_1⟩ := zZ BK130; obtain ⟨hcz94_0, hcz94_1, hfz94_0, hfz94_1⟩ := zZ BK134; obtain ⟨Ao95, co95, eo95⟩ := Kd.R_slice HO137.out; subst eo95; obtain ⟨Ao96, co96, eo96⟩ := Kd.R_slice HO141.out; subst eo96) | (go_at_call 71; (with_reducible refine (laws_zShares.calls k _ _ t135 _ _ t139 true _ ?side1 ?side2 ?side3 ?side4 A30.out).mono ?_); (case side1 => have hx_ := (Kd.R_reads' HO137.out).2.2; exact cC); (case side2 => exact (Kd.R_reads' HO137.out).2.1); (case side3 => have hx_ := (Kd.R_reads' HO141.out).2.2; exact cC); (case side4 => exact (Kd.R_reads' HO141.out).2.1); rintro e w' ⟨rfl, ⟨nd, rfl⟩⟩; obtain ⟨Ao97, co97, eo97⟩ := Kd.R_slice HO145.out; subst eo97; obtain ⟨Ao98, co98, eo98⟩ := Kd.R_slice HO149.out; subst eo98) | (go_at_call 71; (with_reducible refine (laws_zShares.calls k _ _ t143 _ _ t147 true _ ?side1 ?side2 ?side3 ?side4 A33.out).mono ?_); (case side1 => have hx_ := (Kd.R_reads' HO145.out).2.2; exact cC); (case side2 => exact (Kd.R_reads' HO145.out).2.1); (case side3 => have hx_ := (Kd.R_reads' HO149.out).2.2; exact cC); (case side4 => exact (Kd.R_reads' HO149.out).2.1); rintro e w' ⟨rfl, ⟨nd, rfl⟩⟩; obtain ⟨Ao99, co99, eo99⟩ := Kd.R_slice HO153.out; subst eo99; obtain ⟨Ao100, co100, eo100⟩ := Kd.R_slice HO157.out; subst eo100) | (go_at_call 71; (with_reducible refine (laws_zShares.calls k _ _ t151 _ _ t155 true _ ?side1 ?side2 ?side3 ?side4 A36.out).mono ?_); (case side1 => have hx_ := (Kd.R_reads' HO153.out).2.2; exact cC); (case side2 => exact (Kd.R_reads' HO153.out).2.1); (case side3 => have hx_ := (Kd.R_reads' HO157.out).2.2; exact cC); (case side4 => exact (Kd.R_reads' HO157.out).2.1); rintro e w' ⟨rfl, ⟨nd, rfl⟩⟩; obtain ⟨hcz101_0, hcz101_1, hfz101_0, hfz101_1⟩ := zZ BK101) | (go_at_call 20; (with_reducible refine (impl_IsCommittee.calls k a0_0 _ _ l0_1 t165 _ ?side1 ?side2 A38.out).mono ?_); (case side1 =>  repeat (first | exact (Kd.C_below HR0_1.out (by repeat (first | exact HB.out | apply ba | apply bd | apply be | refine bs ?_ GE101.out | refine bs ?_ GE102.out | refine bs ?_ GE130.out | refine bs ?_ GE134.out))) | (with_reducible refine Kd.C_alloc ?_ _) | (with_reducible refine Kd.C_drewN ?_ _) | (with_reducible refine Kd.C_drew ?_))); (case side2 => exact HC0_1.out); rintro e w102 ⟨rfl, hb⟩; replace HO105 := rP HO105 hb; replace HO109 := rP HO109 hb; replace HO113 := rP HO113 hb; replace HO117 := rP HO117 hb; replace HO121 := rP HO121 hb; replace HO125 := rP HO125 hb; replace HO137 := rP HO137 hb; replace HO141 := rP HO141 hb; replace HO145 := rP HO145 hb; replace HO149 := rP HO149 hb; replace HO153 := rP HO153 hb; replace HO157 := rP HO157 hb; replace BK101 := bP BK101 hb; replace BK102 := bP BK102 hb; replace BK130 := bP BK130 hb; replace BK134 := bP BK134 hb; replace HB := sQ hb; (try clear hb)))
 (try simp only [Act.put, sA, sZ, sS])
 refine cutT_ [F,F,F,F,F,F,T,F,F,F,F,F,F,F,F,F,F,F,F,F,F,F,F,F,F,F,F,F,F,F,F,F,F,F,F,T,T,T,T,T,T,T,T,T,T,T,T,T,T,T,T,T,T,T,T,F,F,F,F,F,F,F,F,F,F,F,F,F,F,F,F,F,F,F,F,F,F,F,F,F,F,F,F,F,F,F,F,F,F,F,F,F,F,F,F,F,F,F,F,F,F,F,F,F,F,F,F,F,F,F,F,F,F,F,F,F,F,F,F,F,F,F,F,F,F,F,F,F,F,F,F,F,F,F,F,F,F,F,F,F,F,F,F,F,F,F,F,F,F,F,F,F,F,F,F,F,F,F,F,F,F,F,F,F,F,F,F,F,F,F,F,F,F,F,F,F,F,F,F,F,F,F,F,F,F,F,F,F,F,F,F,F,F,F,F,F,F,F,F,F,F,F,F,F,F,F,F,F,F,F,F,F,F,F,F,F,F,F,F,F,F,F,F,F,F,F,F,F,F,F,F,F,F,F,F,F,F,F,F,F,F,F,F,T,T,T,T,T,T,T,T,T,T,T,T,T,T,T,T,T,T,T,T,T,T,T,T,T,T,T,T,T,T,T,T,T,T,T,T,T,T,T,T,T,T,T,T,T,T,T,T,T,T,T,T,T,T,T,T,T,T,T,T,T,T,T,T,T,T,T,T,T,T,T,T,T,T,T,T,T,T,T,T,T,T,T,T,T,T,T,T,T,T,T,T,T,T,T,T,T,T,T,T,T,T,T,T,T,T,T,T,T,T,T,T,T,T,T,T,T,T,T,T,T,T,T,T,T,T,T,T,T,T,T,T,T,T,T,T,T,T,T,T,T,T,T,T,T,T,T,T,T,T,T,T,T,T,T,T,T,T,T,T,T,T,T,T,T,T,T,T,T,T,T,T,T,T,T,T,T,T,T,T,T,T,T,T,T,T,T,T,T,T,T,T,T,T,T,T,T,T,T,T,T,T,T,T,T,T,T,T,T,T,T,T,T,T,T,T,T,T,T,T,T,T,T,T,T,T,T,T,T,T,T,T,T,T,T,T,T,T,T,T,T,T,T,T,T,T,T,T,T,T,T,T,T,T,T,T,T,T,T,T,T,T,T,T,T,T] (fun T_ wc_ => (fun wc => ∃ (kq : Nat), Aside0 (laws_FnSwingsToldOfAll.j5 kq a2 a1_0 l1_1 = some r) ∧ Aside0 (kq ≤ k) ∧ Aside0 (wc.heap[gb101]? = some (.cells #[.int .i64 a0_0, (.slice A0_1 l0_1.length c0_1)] 26 (0, 0))) ∧ Aside0 (wc.heap[gb102]? = some (.cells #[.int .i64 a1_0, (.slice A1_1 l1_1.length c1_1)] 26 (0, 0))) ∧ Aside0 (wc.heap[gb130]? = some (.cells #[.int .i64 t127, .int .i64 t128] 60 (0, 0))) ∧ Aside0 (wc.heap[gb134]? = some (.cells #[.int .i64 t131, .int .i64 t132] 60 (0, 0))) ∧ Aside0 (Below w.heap.size w wc))  wc_) ?restj5 ?firstj5
 case firstj5 => as_aux_lemma =>
  intro J_ K_ hJ_j5 hM_
  have H := HC46.out
  clear HC46
  by_cases c103 : t165 = true
  rotate_left
  ·replace c103 := Bool.eq_false_iff.mpr c103
   subst c103
   replace H := iF H
   as_aux_lemma =>
    have H' := Aside0.mk H
    clear H
    go_wp2
    refine meetT_ hJ_j5 (by kernel_rfl) ?rel
    case rel => exact ⟨_, H', ⟨by first | omega | exact Nat.le_refl _⟩, ⟨by exact BK101.out⟩, ⟨by exact BK102.out⟩, ⟨by exact BK130.out⟩, ⟨by exact BK134.out⟩, ⟨wB⟩⟩
  subst c103
  replace H := iT H
  obtain ⟨ji104, hji104⟩ : ∃ j_ : Int, (shl .i64 1 (l0_1.length : Int)) = j_ := ⟨_, rfl⟩
  replace H : ((impl_CountWinning.f k a0_0 l0_1).bind fun bt166 => ((impl_DummiesOf.f k a0_0 l0_1).bind fun bt168 => (if (t103.length : Int) = (l0_1.length : Int) then (if (t111.length : Int) = (l0_1.length : Int) then (if (t119.length : Int) = (l0_1.length : Int) then (if (t135.length : Int) = (l0_1.length : Int) then (if (t143.length : Int) = (l0_1.length : Int) then (if (t151.length : Int) = (l0_1.length : Int) then (if bt166.2 = true then ((laws_zIs.f t127 t128 bt166.1 (ji104)).bind fun t172 => (if t172 = true then (if bt168.2 = true then ((laws_zSum.f k t103).bind fun t173 => (if t173 < 1 then (none) else (laws_FnSwingsToldOfAll.l0 k a2 t103 t111 t119 t135 t143 t151 (l0_1.length : Int) ji104 bt166.1 bt168.1 t103 (t103.length : Int) 0 a0_0 l0_1 a1_0 l1_1))) else (none)) else (none))) else (none)) else (none)) else (none)) else (none)) else (none)) else (none)) else (none)))) = some r := by first | (rw [hji104] at H; exact H) | (simp only [hji104] at H ⊢; exact H)
  have hji104_ : (IntKind.i64.wrap (1 * 2 ^ min (l0_1.length : Int).toNat 64)) = ji104 := hji104
  have hji104z : (l0_1.length : Int) ≤ 64 → (IntKind.i64.wrap (1 * 2 ^ (l0_1.length : Int).toNat)) = ji104 := shl_small hji104
  have hji104p : (IntKind.i64.wrap (1 * 2 ^ min l0_1.length 64)) = ji104 := hji104_
  have hji104q : (l0_1.length : Int) ≤ 64 → (IntKind.i64.wrap (1 * 2 ^ l0_1.length)) = ji104 := hji104z
  have hji104r : (IntKind.i64.wrap (2 ^ min l0_1.length 64)) = ji104 := by have h_ := hji104p; rw [Int.one_mul] at h_; exact h_
  have hji104s : (l0_1.length : Int) ≤ 64 → (IntKind.i64.wrap (2 ^ l0_1.length)) = ji104 := fun hle_ => by have h_ := hji104q hle_; rw [Int.one_mul] at h_; exact h_
  have hji104u : (IntKind.i64.wrap (2 ^ min (l0_1.length : Int).toNat 64)) = ji104 := by have h_ := hji104_; rw [Int.one_mul] at h_; exact h_
  have hji104v : (l0_1.length : Int) ≤ 64 → (IntKind.i64.wrap (2 ^ (l0_1.length : Int).toNat)) = ji104 := fun hle_ => by have h_ := hji104z hle_; rw [Int.one_mul] at h_; exact h_
  have hji104y : (wrap64 (1 * 2 ^ min (l0_1.length : Int).toNat 64)) = ji104 := (i64_w _).symm.trans hji104_
  have hji104x : (l0_1.length : Int) ≤ 64 → (wrap64 (1 * 2 ^ (l0_1.length : Int).toNat)) = ji104 := fun h_ => (i64_w _).symm.trans (hji104z h_)
  replace H := oB H
  obtain ⟨⟨t166, t167⟩, A1050, H⟩ := H
  (try dsimp only at H)
  have A105 := Aside0.mk A1050
  clear A1050
  replace H := oB H
  obtain ⟨⟨t168, t171⟩, A1060, H⟩ := H
  (try dsimp only at H)
  have A106 := Aside0.mk A1060
  clear A1060
  replace H := ite_yes H
  obtain ⟨c107, H⟩ := H
  have c107b0 : ((t103.length : Int) == (l0_1.length : Int)) = true := beq_iff_eq.mpr c107
  have c107b1 : ((t103.length : Int) != (l0_1.length : Int)) = false := bne_eq_false_iff_eq.mpr c107
  have c107b2 : (t103.length == l0_1.length) = true := by first | simpa using c107 | (simp at c107 ⊢; omega)
  clear c107
  (first | rw [c107b0] | (simp only [i64_w, i32_w]; rw [c107b0]) | skip)
  replace H := ite_yes H
  obtain ⟨c108, H⟩ := H
  have c108b0 : ((t111.length : Int) == (l0_1.length : Int)) = true := beq_iff_eq.mpr c108
  have c108b1 : ((t111.length : Int) != (l0_1.length : Int)) = false := bne_eq_false_iff_eq.mpr c108
  have c108b2 : (t111.length == l0_1.length) = true := by first | simpa using c108 | (simp at c108 ⊢; omega)
  clear c108
  replace H := ite_yes H
  obtain ⟨c109, H⟩ := H
  have c109b0 : ((t119.length : Int) == (l0_1.length : Int)) = true := beq_iff_eq.mpr c109
  have c109b1 : ((t119.length : Int) != (l0_1.length : Int)) = false := bne_eq_false_iff_eq.mpr c109
  have c109b2 : (t119.length == l0_1.length) = true := by first | simpa using c109 | (simp at c109 ⊢; omega)
  clear c109
  replace H := ite_yes H
  obtain ⟨c110, H⟩ := H
  have c110b0 : ((t135.length : Int) == (l0_1.length : Int)) = true := beq_iff_eq.mpr c110
  have c110b1 : ((t135.length : Int) != (l0_1.length : Int)) = false := bne_eq_false_iff_eq.mpr c110
  have c110b2 : (t135.length == l0_1.length) = true := by first | simpa using c110 | (simp at c110 ⊢; omega)
  clear c110
  replace H := ite_yes H
  obtain ⟨c111, H⟩ := H
  have c111b0 : ((t143.length : Int) == (l0_1.length : Int)) = true := beq_iff_eq.mpr c111
  have c111b1 : ((t143.length : Int) != (l0_1.length : Int)) = false := bne_eq_false_iff_eq.mpr c111
  have c111b2 : (t143.length == l0_1.length) = true := by first | simpa using c111 | (simp at c111 ⊢; omega)
  clear c111
  replace H := ite_yes H
  obtain ⟨c112, H⟩ := H
  have c112b0 : ((t151.length : Int) == (l0_1.length : Int)) = true := beq_iff_eq.mpr c112
  have c112b1 : ((t151.length : Int) != (l0_1.length : Int)) = false := bne_eq_false_iff_eq.mpr c112
  have c112b2 : (t151.length == l0_1.length) = true := by first | simpa using c112 | (simp at c112 ⊢; omega)
  clear c112
  replace H := ite_yes H
  obtain ⟨c113, H⟩ := H
  subst c113
  replace H := oA H
  obtain ⟨t172, A114, H⟩ := H
  (try dsimp only at H)
  replace H := ite_yes H
  obtain ⟨c115, H⟩ := H
  subst c115
  replace H := ite_yes H
  obtain ⟨c116, H⟩ := H
  subst c116
  replace H := oA H
  obtain ⟨t173, A117, H⟩ := H
  (try dsimp only at H)
  replace H := ite_no H
  obtain ⟨c118, H⟩ := H
  have c118b0 : decide (t173 < 1) = false := decide_eq_false c118
  clear c118
  have H' := Aside0.mk H
  clear H
  have hnb119 := NB101_102.out
  have hnc119 := NB102_101.out
  have hnb120 := NB101_130.out
  have hnc120 := NB130_101.out
  have hnb121 := NB101_134.out
  have hnc121 := NB134_101.out
  obtain ⟨hcz122_0, hcz122_1, hfz122_0, hfz122_1⟩ := zZ BK101
  go_upto_region 21 with (first | ((with_reducible refine gate_callee (f := 42) rfl ?_); refine gL 251 Tryz.func42 #[.agg #[.int .i64 a0_0, .slice A0_1 l0_1.length c0_1]] ?_; (with_reducible refine (impl_CountWinning.calls k a0_0 _ _ l0_1 t166 true _ (Kd.C_below HR0_1.out HB.out) HC0_1.out A105.out).mono ?_); rintro e w123 ⟨rfl, hb⟩; refine ⟨_, rfl, ?_⟩; replace HO105 := rB HO105 hb; replace HO109 := rB HO109 hb; replace HO113 := rB HO113 hb; replace HO117 := rB HO117 hb; replace HO121 := rB HO121 hb; replace HO125 := rB HO125 hb; replace HO137 := rB HO137 hb; replace HO141 := rB HO141 hb; replace HO145 := rB HO145 hb; replace HO149 := rB HO149 hb; replace HO153 := rB HO153 hb; replace HO157 := rB HO157 hb; replace BK101 := bB BK101 hb; replace BK102 := bB BK102 hb; replace BK130 := bB BK130 hb; replace BK134 := bB BK134 hb; replace HB := sB HB hb; (try clear hb); (try clear hcz122_0 hcz122_1 hfz122_0 hfz122_1); obtain ⟨hcz124_0, hcz124_1, hfz124_0, hfz124_1⟩ := zZ BK101))
  go_upto_region 22 with (first | ((with_reducible refine gate_callee (f := 30) rfl ?_); refine gL 256 Tryz.func30 #[.agg #[.int .i64 a0_0, .slice A0_1 l0_1.length c0_1]] ?_; (with_reducible refine (impl_DummiesOf.calls k a0_0 _ _ l0_1 t168 true _ (Kd.C_below HR0_1.out HB.out) HC0_1.out A106.out).mono ?_); rintro e w125 ⟨v169, rfl, ho0, hb⟩; refine ⟨_, rfl, ?_⟩; have HO170 := Aside0.mk (Kd.R_lower (Kd.R_new' (Kd.R_new' ho0 (Kd.R_lt HO105.out)) (Kd.R_lt HO109.out)) (below_size HB.out)); replace HO105 := rE HO105 (Kd.R_base ho0) hb; replace HO109 := rE HO109 (Kd.R_base ho0) hb; replace HO113 := rB HO113 hb; replace HO117 := rB HO117 hb; replace HO121 := rB HO121 hb; replace HO125 := rB HO125 hb; replace HO137 := rB HO137 hb; replace HO141 := rB HO141 hb; replace HO145 := rB HO145 hb; replace HO149 := rB HO149 hb; replace HO153 := rB HO153 hb; replace HO157 := rB HO157 hb; replace BK101 := bB BK101 hb; replace BK102 := bB BK102 hb; replace BK130 := bB BK130 hb; replace BK134 := bB BK134 hb; replace HB := sB HB hb; (try clear hb); (try clear ho0); have hnb126 := NB130_102.out; have hnc126 := NB102_130.out; have hnb127 := NB130_134.out; have hnc127 := NB134_130.out; (try clear hcz124_0 hcz124_1 hfz124_0 hfz124_1); obtain ⟨hcz128_0, hcz128_1, hfz128_0, hfz128_1⟩ := zZ BK130))
  go_wp2_with (first | (go_at_call 72; (with_reducible refine (laws_zIs.calls t127 t128 t166 ji104 true _ A114.out).mono ?_); rintro e w129 ⟨rfl, hb⟩; replace HO105 := rB HO105 hb; replace HO109 := rB HO109 hb; replace HO113 := rB HO113 hb; replace HO117 := rB HO117 hb; replace HO121 := rB HO121 hb; replace HO125 := rB HO125 hb; replace HO137 := rB HO137 hb; replace HO141 := rB HO141 hb; replace HO145 := rB HO145 hb; replace HO149 := rB HO149 hb; replace HO153 := rB HO153 hb; replace HO157 := rB HO157 hb; replace HO170 := rB HO170 hb; replace BK101 := bB BK101 hb; replace BK102 := bB BK102 hb; replace BK130 := bB BK130 hb; replace BK134 := bB BK134 hb; replace HB := sB HB hb; (try clear hb)) | (go_at_call 73; (with_reducible refine (laws_zSum.calls k _ _ t103 t173 _ ?side1 ?side2 A117.out).mono ?_); (case side1 => have hx_ := (Kd.R_reads' HO105.out).2.2; exact cC); (case side2 => exact (Kd.R_reads' HO105.out).2.1); rintro e w' ⟨rfl, ⟨nd, rfl⟩⟩))
  refine loopT_ [F,F,F,F,F,F,T,F,F,F,F,F,F,F,F,F,F,F,F,F,F,F,F,F,F,F,F,F,F,F,F,F,F,F,F,F,F,F,F,F,F,T,T,T,T,T,T,T,T,T,T,T,T,T,T,F,F,F,F,F,F,F,F,F,F,F,F,F,F,F,F,F,F,F,F,F,F,F,F,F,F,F,F,F,F,F,F,F,F,F,F,F,F,F,F,F,F,F,F,F,F,F,F,F,F,F,F,F,F,F,F,F,F,F,F,F,F,F,F,F,F,F,F,F,F,F,F,F,F,F,F,F,F,F,F,F,F,F,F,F,F,F,F,F,F,F,F,F,F,F,F,F,F,F,F,F,F,F,F,F,F,F,F,F,F,F,F,F,F,F,F,F,F,F,F,F,F,F,F,F,F,F,F,F,F,F,F,F,F,F,F,F,F,F,F,F,F,F,F,F,F,F,F,F,F,F,F,F,F,F,F,F,F,F,F,F,F,F,F,F,F,F,F,F,F,F,F,F,F,F,F,F,F,F,F,F,F,F,F,F,F,F,F,F,F,F,F,F,F,F,F,F,F,F,F,F,F,F,F,F,F,F,F,F,F,F,F,F,F,F,F,F,F,F,F,F,F,F,F,F,F,F,F,F,F,F,F,F,F,F,F,F,F,F,F,F,F,F,F,F,F,F,F,F,F,F,F,F,F,F,F,F,F,F,F,T,T,T,T,T,T,T,T,T,T,T,T,T,T,T,T,T,T,T,T,T,T,T,T,T,T,T,T,T,T,T,T,T,T,T,T,T,T,T,T,T,T,T,T,T,T,T,T,T,T,T,T,T,T,T,T,T,T,T,T,T,T,T,T,T,T,T,T,T,T,T,T,T,T,T,T,T,T,T,T,T,T,T,T,T,T,T,T,T,T,T,T,T,T,T,T,T,T,T,T,T,T,T,T,T,T,T,T,T,T,T,T,T,T,T,T,T,T,T,T,T,T,T,T,T,T,T,T,T,T,T,T,T,T,T,T,T,T,T,T,T,T,T,T,T,T,T,T,T,T,T,T,T,T,T,T,T,T,T,T,T,T,T,T,T,T,T,T,T,T,T,T,T,T,T,T,T,T,T,T,T,T,T,T,T,T,T,T,T,T,T,T,T,T] k (fun kq_ T_ w_ => (fun kq v315 w' => ∃ (x315_1 : Int), v315 = .int .i64 x315_1 ∧ Aside0 (laws_FnSwingsToldOfAll.l0 kq a2 t103 t111 t119 t135 t143 t151 (l0_1.length : Int) ji104 t166 t168 t103 (t103.length : Int) x315_1 a0_0 l0_1 a1_0 l1_1 = some r) ∧ Aside0 (kq ≤ k) ∧ Aside0 (Kd.R (Kd.int .i64) 3 w' w.heap.size (fun k_ => nb v169 k_) (.slice Ao87 t103.length co87) t103) ∧ Aside0 (Kd.R k60 60 w' w.heap.size (fun k_ => nb (.slice Ao91 t119.length co91) k_ ∧ nb (.slice Ao95 t135.length co95) k_ ∧ nb (.slice Ao97 t143.length co97) k_ ∧ nb (.slice Ao99 t151.length co99) k_ ∧ k_ ≠ gb130 ∧ k_ ≠ gb134) (.slice Ao89 t111.length co89) t111) ∧ Aside0 (Kd.R k60 60 w' w.heap.size (fun k_ => nb (.slice Ao89 t111.length co89) k_ ∧ nb (.slice Ao95 t135.length co95) k_ ∧ nb (.slice Ao97 t143.length co97) k_ ∧ nb (.slice Ao99 t151.length co99) k_ ∧ k_ ≠ gb130 ∧ k_ ≠ gb134) (.slice Ao91 t119.length co91) t119) ∧ Aside0 (Kd.R k60 60 w' w.heap.size (fun k_ => nb (.slice Ao89 t111.length co89) k_ ∧ nb (.slice Ao91 t119.length co91) k_ ∧ nb (.slice Ao97 t143.length co97) k_ ∧ nb (.slice Ao99 t151.length co99) k_ ∧ k_ ≠ gb130 ∧ k_ ≠ gb134) (.slice Ao95 t135.length co95) t135) ∧ Aside0 (Kd.R k60 60 w' w.heap.size (fun k_ => nb (.slice Ao89 t111.length co89) k_ ∧ nb (.slice Ao91 t119.length co91) k_ ∧ nb (.slice Ao95 t135.length co95) k_ ∧ nb (.slice Ao99 t151.length co99) k_ ∧ k_ ≠ gb130 ∧ k_ ≠ gb134) (.slice Ao97 t143.length co97) t143) ∧ Aside0 (Kd.R k60 60 w' w.heap.size (fun k_ => nb (.slice Ao89 t111.length co89) k_ ∧ nb (.slice Ao91 t119.length co91) k_ ∧ nb (.slice Ao95 t135.length co95) k_ ∧ nb (.slice Ao97 t143.length co97) k_ ∧ k_ ≠ gb130 ∧ k_ ≠ gb134) (.slice Ao99 t151.length co99) t151) ∧ Aside0 (Kd.R (Kd.int .i64) 3 w' w.heap.size (fun k_ => nb (.slice Ao87 t103.length co87) k_ ∧ nb (.slice Ao87 t103.length co87) k_) v169 t168) ∧ Aside0 (Kd.R (Kd.int .i64) 3 w' w.heap.size (fun k_ => nb v169 k_) (.slice Ao87 t103.length co87) t103) ∧ Aside0 (w'.heap[gb101]? = some (.cells #[.int .i64 a0_0, (.slice A0_1 l0_1.length c0_1)] 26 (0, 0))) ∧ Aside0 (w'.heap[gb102]? = some (.cells #[.int .i64 a1_0, (.slice A1_1 l1_1.length c1_1)] 26 (0, 0))) ∧ Aside0 (w'.heap[gb130]? = some (.cells #[.int .i64 t127, .int .i64 t128] 60 (0, 0))) ∧ Aside0 (w'.heap[gb134]? = some (.cells #[.int .i64 t131, .int .i64 t132] 60 (0, 0))) ∧ Aside0 (Below w.heap.size w w')) kq_ (T_ 315) w_) (by kernel_rfl) ?atStart ?round
  case atStart => exact ⟨(0), gR, H', ⟨Nat.le_refl _⟩, ⟨by (with_reducible repeat (first | apply qA | apply qN | apply qD)); exact Kd.R_mono HO105.out (fun _ hk => by first | exact hk.2 | simp_all)⟩, ⟨by (with_reducible repeat (first | apply qA | apply qN | apply qD)); exact Kd.R_mono HO113.out (fun _ hk => by first | exact ⟨hk.1.1.1.1.1.1.1.1.1.2, ⟨hk.1.1.1.1.1.2, ⟨hk.1.1.1.2, ⟨hk.1.2, ⟨hk.1.1.1.1.1.1.1.2, hk.1.1.1.1.1.1.2⟩⟩⟩⟩⟩ | simp_all)⟩, ⟨by (with_reducible repeat (first | apply qA | apply qN | apply qD)); exact Kd.R_mono HO121.out (fun _ hk => by first | exact ⟨hk.1.1.1.1.1.1.1.1.1.1.2, ⟨hk.1.1.1.1.1.2, ⟨hk.1.1.1.2, ⟨hk.1.2, ⟨hk.1.1.1.1.1.1.1.2, hk.1.1.1.1.1.1.2⟩⟩⟩⟩⟩ | simp_all)⟩, ⟨by (with_reducible repeat (first | apply qA | apply qN | apply qD)); exact Kd.R_mono HO137.out (fun _ hk => by first | exact ⟨hk.1.1.1.1.1.1.1.1.1.1.2, ⟨hk.1.1.1.1.1.1.1.1.2, ⟨hk.1.1.1.2, ⟨hk.1.2, ⟨hk.1.1.1.1.1.1.2, hk.1.1.1.1.1.2⟩⟩⟩⟩⟩ | simp_all)⟩, ⟨by (with_reducible repeat (first | apply qA | apply qN | apply qD)); exact Kd.R_mono HO145.out (fun _ hk => by first | exact ⟨hk.1.1.1.1.1.1.1.1.1.1.2, ⟨hk.1.1.1.1.1.1.1.1.2, ⟨hk.1.1.1.1.1.1.2, ⟨hk.1.2, ⟨hk.1.1.1.1.2, hk.1.1.1.2⟩⟩⟩⟩⟩ | simp_all)⟩, ⟨by (with_reducible repeat (first | apply qA | apply qN | apply qD)); exact Kd.R_mono HO153.out (fun _ hk => by first | exact ⟨hk.1.1.1.1.1.1.1.1.1.1.2, ⟨hk.1.1.1.1.1.1.1.1.2, ⟨hk.1.1.1.1.1.1.2, ⟨hk.1.1.1.1.2, ⟨hk.1.1.2, hk.1.2⟩⟩⟩⟩⟩ | simp_all)⟩, ⟨by (with_reducible repeat (first | apply qA | apply qN | apply qD)); exact Kd.R_mono HO170.out (fun _ hk => by first | exact ⟨hk.1.2, hk.1.2⟩ | simp_all)⟩, ⟨by (with_reducible repeat (first | apply qA | apply qN | apply qD)); exact Kd.R_mono HO105.out (fun _ hk => by first | exact hk.2 | simp_all)⟩, ⟨bQ BK101⟩, ⟨bQ BK102⟩, ⟨bQ BK130⟩, ⟨bQ BK134⟩, ⟨wB⟩⟩
  case round => as_aux_lemma =>
   intro gk T_ wr hrel J_ K_ hJ_l0 hM_
   (try clear hji104 hji104_ hji104z hji104p hji104q hji104r hji104s hji104u hji104v hji104y hji104x)
   simp only [putT, putM, T, F, Nat.reduceAdd]
   (try dsimp only at hrel)
   generalize T_ 315 = u315 at hrel ⊢
   clear H'
   (try clear c1); (try clear c2); (try clear p2); (try clear c3); (try clear c4); (try clear c5); (try clear c6); (try clear p6); (try clear c7); (try clear c10); (try clear c11); (try clear c12); (try clear c18); (try clear c20); (try clear c21); (try clear c23); (try clear c24); (try clear c26); (try clear c27); (try clear c28); (try clear c28b0); (try clear c29); (try clear c30); (try clear c31); (try clear c32); (try clear c34); (try clear c35); (try clear c37); (try clear c39); (try clear c40); (try clear c41); (try clear c42); (try clear c43); (try clear c44); (try clear c45); (try clear c49); (try clear c56); (try clear c57); (try clear c58); (try clear c59); (try clear c60); (try clear c61); (try clear c62); (try clear c63); (try clear c64); (try clear p64); (try clear c65); (try clear c66); (try clear c67); (try clear c68); (try clear c69); (try clear c71); (try clear c72); (try clear c73); (try clear c103); (try clear c107); (try clear c107b0); (try clear c107b1); (try clear c107b2); (try clear c108); (try clear c108b0); (try clear c108b1); (try clear c108b2); (try clear c109); (try clear c109b0); (try clear c109b1); (try clear c109b2); (try clear c110); (try clear c110b0); (try clear c110b1); (try clear c110b2); (try clear c111); (try clear c111b0); (try clear c111b1); (try clear c111b2); (try clear c112); (try clear c112b0); (try clear c112b1); (try clear c112b2); (try clear c113); (try clear c115); (try clear c116); (try clear c118); (try clear c118b0); (try clear c119); (try clear c120); (try clear c121); (try clear c126); (try clear c127); (try clear hcz101_0); (try clear hcz101_1); (try clear hcz128_0); (try clear hcz128_1); (try clear hcz93_0); (try clear hcz93_1); (try clear hcz94_0); (try clear hcz94_1); (try clear hfz101_0); (try clear hfz101_1); (try clear hfz128_0); (try clear hfz128_1); (try clear hfz93_0); (try clear hfz93_1); (try clear hfz94_0); (try clear hfz94_1)
   obtain ⟨x315_1, rfl, HA, HK1, HO_7, HO_11, HO_15, HO_23, HO_27, HO_31, HO_39, HO_313, BK101, BK102, BK130, BK134, HB⟩ := hrel
   cases gk with
   | zero => exact absurd HA.out (by simp [laws_FnSwingsToldOfAll.l0])
   | succ k1 =>
    have H := HA.out
    clear HA
    simp only [laws_FnSwingsToldOfAll.l0] at H
    by_cases c130 : x315_1 < (t103.length : Int)
    rotate_left
    ·rw [if_neg c130] at H
     have c130b0 : decide (x315_1 < (t103.length : Int)) = false := decide_eq_false c130
     clear c130
     as_aux_lemma =>
      have H' := Aside0.mk H
      clear H
      go_wp2
      refine meetT_ hJ_j5 (by kernel_rfl) ?rel
      case rel => exact ⟨_, H', ⟨oN'⟩, ⟨by exact BK101.out⟩, ⟨by exact BK102.out⟩, ⟨by exact BK130.out⟩, ⟨by exact BK134.out⟩, ⟨wB⟩⟩
    rw [if_pos c130] at H
    have c130b0 := decide_eq_true c130
    clear c130
    replace H := ite_yes H
    obtain ⟨c131, H⟩ := H
    have c131b0 : decide (0 ≤ x315_1) = true := decide_eq_true c131
    clear c131
    replace H := ite_yes H
    obtain ⟨c132, H⟩ := H
    have c132b0 : decide (x315_1 < (t103.length : Int)) = true := decide_eq_true c132
    clear c132
    replace H := ite_yes H
    obtain ⟨c133, H⟩ := H
    have c133b0 : decide (x315_1 < (t111.length : Int)) = true := decide_eq_true c133
    clear c133
    replace H := oA H
    obtain ⟨t176, A134, H⟩ := H
    (try dsimp only at H)
    replace H := ite_yes H
    obtain ⟨c135, H⟩ := H
    subst c135
    replace H := ite_yes H
    obtain ⟨c136, H⟩ := H
    have c136b0 : decide (x315_1 < (t119.length : Int)) = true := decide_eq_true c136
    clear c136
    replace H := oA H
    obtain ⟨t178, A137, H⟩ := H
    (try dsimp only at H)
    replace H := oA H
    obtain ⟨t179, A138, H⟩ := H
    (try dsimp only at H)
    replace H := ite_yes H
    obtain ⟨c139, H⟩ := H
    subst c139
    replace H := ite_yes H
    obtain ⟨c140, H⟩ := H
    have c140b0 : decide (x315_1 < (t135.length : Int)) = true := decide_eq_true c140
    clear c140
    replace H := oA H
    obtain ⟨t181, A141, H⟩ := H
    (try dsimp only at H)
    replace H := ite_yes H
    obtain ⟨c142, H⟩ := H
    subst c142
    replace H := ite_yes H
    obtain ⟨c143, H⟩ := H
    have c143b0 : decide (x315_1 < (t143.length : Int)) = true := decide_eq_true c143
    clear c143
    replace H := oA H
    obtain ⟨t183, A144, H⟩ := H
    (try dsimp only at H)
    replace H := ite_yes H
    obtain ⟨c145, H⟩ := H
    subst c145
    replace H := ite_yes H
    obtain ⟨c146, H⟩ := H
    have c146b0 : decide (x315_1 < (t151.length : Int)) = true := decide_eq_true c146
    clear c146
    replace H := oA H
    obtain ⟨t185, A147, H⟩ := H
    (try dsimp only at H)
    replace H := ite_yes H
    obtain ⟨c148, H⟩ := H
    subst c148
    replace H := oA H
    obtain ⟨t186, A149, H⟩ := H
    (try dsimp only at H)
    replace H := ite_no H
    obtain ⟨c150, H⟩ := H
    have c150b0 : (((rd t103 x315_1) == 0) != t186) = false := by simpa using c150
    (try (have c150b1 : decide (((rd t103 x315_1) == 0) = t186) = true := by simpa using c150))
    (try (have c150b2 : (((rd t103 x315_1) == 0) == t186) = true := by simpa using c150))
    clear c150
    replace H := oB H
    obtain ⟨⟨t187, t190⟩, A1510, H⟩ := H
    (try dsimp only at H)
    have A151 := Aside0.mk A1510
    clear A1510
    replace H := oB H
    obtain ⟨⟨t191, t194⟩, A1520, H⟩ := H
    (try dsimp only at H)
    have A152 := Aside0.mk A1520
    clear A1520
    replace H := ite_yes H
    obtain ⟨c153, H⟩ := H
    subst c153
    replace H := ite_yes H
    obtain ⟨c154, H⟩ := H
    have c154b0 : ((t187.length : Int) == (rd t103 x315_1)) = true := beq_iff_eq.mpr c154
    have c154b1 : ((t187.length : Int) != (rd t103 x315_1)) = false := bne_eq_false_iff_eq.mpr c154
    clear c154
    replace H := ite_yes H
    obtain ⟨c155, H⟩ := H
    subst c155
    replace H := ite_yes H
    obtain ⟨c156, H⟩ := H
    have c156b0 : ((t191.length : Int) == (l0_1.length : Int)) = true := beq_iff_eq.mpr c156
    have c156b1 : ((t191.length : Int) != (l0_1.length : Int)) = false := bne_eq_false_iff_eq.mpr c156
    have c156b2 : (t191.length == l0_1.length) = true := by first | simpa using c156 | (simp at c156 ⊢; omega)
    clear c156
    replace H := oA H
    obtain ⟨t195, A157, H⟩ := H
    (try dsimp only at H)
    replace H := ite_yes H
    obtain ⟨c158, H⟩ := H
    have c158b0 : (t195 == (rd t103 x315_1)) = true := beq_iff_eq.mpr c158
    have c158b1 : (t195 != (rd t103 x315_1)) = false := bne_eq_false_iff_eq.mpr c158
    clear c158
    have H' := Aside0.mk H
    clear H
    have p174 : 0 ≤ (x315_1 : Int) := oD
    have q174 : x315_1 < (t103.length : Int) := oD
    obtain ⟨ad174, e174, hx174_0⟩ := Kd.at_int (Kd.R_reads' HO_313.out).2.2 x315_1 p174 q174
    cases e174
    replace p174 := eq_true p174
    replace q174 := eq_true q174
    try go_wp2
    replace HO_7 := rD HO_7
    replace HO_11 := rD HO_11
    replace HO_15 := rD HO_15
    replace HO_23 := rD HO_23
    replace HO_27 := rD HO_27
    replace HO_31 := rD HO_31
    replace HO_39 := rD HO_39
    replace HO_313 := rD HO_313
    replace BK101 := bD BK101
    replace BK102 := bD BK102
    replace BK130 := bD BK130
    replace BK134 := bD BK134
    replace HB := Aside0.mk (below_drew1 HB.out)
    have p175 : 0 ≤ (x315_1 : Int) := oD
    have q175 : x315_1 < (t111.length : Int) := oD
    obtain ⟨ad175, e175, hx175_0, hx175_1⟩ := at_T60 (Kd.R_reads' HO_11.out).2.2 x315_1 p175 q175
    cases e175
    replace p175 := eq_true p175
    replace q175 := eq_true q175
    have p177 : 0 ≤ (x315_1 : Int) := oD
    have q177 : x315_1 < (t119.length : Int) := oD
    obtain ⟨ad177, e177, hx177_0, hx177_1⟩ := at_T60 (Kd.R_reads' HO_15.out).2.2 x315_1 p177 q177
    cases e177
    replace p177 := eq_true p177
    replace q177 := eq_true q177
    have p180 : 0 ≤ (x315_1 : Int) := oD
    have q180 : x315_1 < (t135.length : Int) := oD
    obtain ⟨ad180, e180, hx180_0, hx180_1⟩ := at_T60 (Kd.R_reads' HO_23.out).2.2 x315_1 p180 q180
    cases e180
    replace p180 := eq_true p180
    replace q180 := eq_true q180
    have p182 : 0 ≤ (x315_1 : Int) := oD
    have q182 : x315_1 < (t143.length : Int) := oD
    obtain ⟨ad182, e182, hx182_0, hx182_1⟩ := at_T60 (Kd.R_reads' HO_27.out).2.2 x315_1 p182 q182
    cases e182
    replace p182 := eq_true p182
    replace q182 := eq_true q182
    have p184 : 0 ≤ (x315_1 : Int) := oD
    have q184 : x315_1 < (t151.length : Int) := oD
    obtain ⟨ad184, e184, hx184_0, hx184_1⟩ := at_T60 (Kd.R_reads' HO_31.out).2.2 x315_1 p184 q184
    cases e184
    replace p184 := eq_true p184
    replace q184 := eq_true q184
    refine start_ (n := 63) (S := fun w' => w'.cell? (ad175.add ((x315_1).toNat * 2)) = some (.int .i64 ((rd_T60 t111 x315_1).f0)) ∧ w'.cell? ⟨(ad175.add ((x315_1).toNat * 2)).block, (ad175.add ((x315_1).toNat * 2)).off + 1, none⟩ = some (.int .i64 ((rd_T60 t111 x315_1).f1)) ∧ w'.cell? (ad177.add ((x315_1).toNat * 2)) = some (.int .i64 ((rd_T60 t119 x315_1).f0)) ∧ w'.cell? ⟨(ad177.add ((x315_1).toNat * 2)).block, (ad177.add ((x315_1).toNat * 2)).off + 1, none⟩ = some (.int .i64 ((rd_T60 t119 x315_1).f1)) ∧ w'.cell? (ad180.add ((x315_1).toNat * 2)) = some (.int .i64 ((rd_T60 t135 x315_1).f0)) ∧ w'.cell? ⟨(ad180.add ((x315_1).toNat * 2)).block, (ad180.add ((x315_1).toNat * 2)).off + 1, none⟩ = some (.int .i64 ((rd_T60 t135 x315_1).f1)) ∧ w'.cell? (ad182.add ((x315_1).toNat * 2)) = some (.int .i64 ((rd_T60 t143 x315_1).f0)) ∧ w'.cell? ⟨(ad182.add ((x315_1).toNat * 2)).block, (ad182.add ((x315_1).toNat * 2)).off + 1, none⟩ = some (.int .i64 ((rd_T60 t143 x315_1).f1)) ∧ w'.cell? (ad184.add ((x315_1).toNat * 2)) = some (.int .i64 ((rd_T60 t151 x315_1).f0)) ∧ w'.cell? ⟨(ad184.add ((x315_1).toNat * 2)).block, (ad184.add ((x315_1).toNat * 2)).off + 1, none⟩ = some (.int .i64 ((rd_T60 t151 x315_1).f1))) (ds := []) #[F,F,F,F,F,F,F,F,F,F,F,F,F,F,F,F,F,F,F,F,F,F,F,F,F,F,F,F,F,F,F,F,F,F,F,F,F,F,F,F,F,F,F,F,F,F,F,F,F,F,F,F,F,F,F,F,F,F,F,F,F,F,F] (by kernel_rfl) rfl rfl ⟨hx175_0, hx175_1, hx177_0, hx177_1, hx180_0, hx180_1, hx182_0, hx182_1, hx184_0, hx184_1⟩ (fun hHeld => ?_); refine with_tabW laws_FnSwingsToldOfAll.tab27 laws_FnSwingsToldOfAll.bits27 (fun HT_ HW_ => ?_)
    generalize wr.drew = w159 at HO_7 HO_11 HO_15 HO_23 HO_27 HO_31 HO_39 HO_313 BK101 BK102 BK130 BK134 HB hx175_0 hx175_1 hx177_0 hx177_1 hx180_0 hx180_1 hx182_0 hx182_1 hx184_0 hx184_1 hHeld ⊢
    refine pU 0 HT_ ?_
    refine pU 1 HT_ ?_
    refine pU 2 HT_ ?_
    refine pU 4 HT_ ?_
    refine pU 5 HT_ ?_
    refine pU 6 HT_ ?_
    refine tK 3 HT_ HW_ hHeld (hy := by rintro w' ⟨s0, s1, s2, s3, s4, s5, s6, s7, s8, s9⟩; go_simp; with_reducible rfl) ?_
    refine oN 7 HT_ (fun K hK => ?_)
    refine goes_ Tryz.func72 (by kernel_rfl) rfl #[.agg #[.int .i64 ((rd_T60 t111 x315_1).f0), .int .i64 ((rd_T60 t111 x315_1).f1)], .int .i64 (rd t103 x315_1), .int .i64 (wrap64 (Int.tdiv ji104 2))] (by rfl) rfl rfl (by (try simp only [mA, mC, mN]); first | done | (simp only [hji104]; rfl) | rfl | (simp only [List.length_drop, List.length_take]; rfl)) ?_
    with_reducible refine (laws_zIs.calls ((rd_T60 t111 x315_1).f0) ((rd_T60 t111 x315_1).f1) (rd t103 x315_1) (wrap64 (Int.tdiv ji104 2)) true _ A134.out).mono ?_
    rintro e w160 ⟨rfl, hb⟩
    have HS0_ := (hb.cell (World.block_lt_of_cell? _ _ (hHeld.1))).trans (hHeld.1)
    have HS1_ := (hb.cell (World.block_lt_of_cell? _ _ (hHeld.2.1))).trans (hHeld.2.1)
    have HS2_ := (hb.cell (World.block_lt_of_cell? _ _ (hHeld.2.2.1))).trans (hHeld.2.2.1)
    have HS3_ := (hb.cell (World.block_lt_of_cell? _ _ (hHeld.2.2.2.1))).trans (hHeld.2.2.2.1)
    have HS4_ := (hb.cell (World.block_lt_of_cell? _ _ (hHeld.2.2.2.2.1))).trans (hHeld.2.2.2.2.1)
    have HS5_ := (hb.cell (World.block_lt_of_cell? _ _ (hHeld.2.2.2.2.2.1))).trans (hHeld.2.2.2.2.2.1)
    have HS6_ := (hb.cell (World.block_lt_of_cell? _ _ (hHeld.2.2.2.2.2.2.1))).trans (hHeld.2.2.2.2.2.2.1)
    have HS7_ := (hb.cell (World.block_lt_of_cell? _ _ (hHeld.2.2.2.2.2.2.2.1))).trans (hHeld.2.2.2.2.2.2.2.1)
    have HS8_ := (hb.cell (World.block_lt_of_cell? _ _ (hHeld.2.2.2.2.2.2.2.2.1))).trans (hHeld.2.2.2.2.2.2.2.2.1)
    have HS9_ := (hb.cell (World.block_lt_of_cell? _ _ (hHeld.2.2.2.2.2.2.2.2.2))).trans (hHeld.2.2.2.2.2.2.2.2.2)
    refine ⟨_, rfl, ?_⟩
    replace HO_7 := rB HO_7 hb
    replace HO_11 := rB HO_11 hb
    replace HO_15 := rB HO_15 hb
    replace HO_23 := rB HO_23 hb
    replace HO_27 := rB HO_27 hb
    replace HO_31 := rB HO_31 hb
    replace HO_39 := rB HO_39 hb
    replace HO_313 := rB HO_313 hb
    replace BK101 := bB BK101 hb
    replace BK102 := bB BK102 hb
    replace BK130 := bB BK130 hb
    replace BK134 := bB BK134 hb
    replace HB := sB HB hb
    (try clear hb)
    (try clear hb2)
    (try clear hk)
    (try clear hi)
    refine hK.out _ _ ⟨HS0_, HS1_, HS2_, HS3_, HS4_, HS5_, HS6_, HS7_, HS8_, HS9_⟩ (fun hHeld => ?_)
    clear hK K
    refine nM ?_
    refine pU 8 HT_ ?_
    refine pU 9 HT_ ?_
    refine pU 10 HT_ ?_
    refine pU 11 HT_ ?_
    refine pU 12 HT_ ?_
    refine pU 14 HT_ ?_
    refine pU 15 HT_ ?_
    refine tK 13 HT_ HW_ hHeld (hy := by rintro w' ⟨s0, s1, s2, s3, s4, s5, s6, s7, s8, s9⟩; go_simp; with_reducible rfl) ?_
    refine oN 16 HT_ (fun K hK => ?_)
    refine gE Tryz.func73 #[.slice (some ad174) t103.length co87] ?_
    with_reducible refine (laws_zSum.calls k1 _ _ t103 t178 _ ?side1 ?side2 A137.out).mono ?_
    (case side1 => have hx_ := (Kd.R_reads' HO_7.out).2.2; exact cC)
    (case side2 => exact (Kd.R_reads' HO_7.out).2.1)
    rintro e w' ⟨rfl, ⟨nd, rfl⟩⟩
    refine ⟨_, rfl, ?_⟩
    refine hK.out _ _ ⟨hHeld.1, hHeld.2.1, hHeld.2.2.1, hHeld.2.2.2.1, hHeld.2.2.2.2.1, hHeld.2.2.2.2.2.1, hHeld.2.2.2.2.2.2.1, hHeld.2.2.2.2.2.2.2.1, hHeld.2.2.2.2.2.2.2.2.1, hHeld.2.2.2.2.2.2.2.2.2⟩ (fun hHeld => ?_)
    clear hK K
    refine nM ?_
    refine oN 17 HT_ (fun K hK => ?_)
    refine gE Tryz.func72 #[.agg #[.int .i64 ((rd_T60 t119 x315_1).f0), .int .i64 ((rd_T60 t119 x315_1).f1)], .int .i64 (rd t103 x315_1), .int .i64 t178] ?_
    with_reducible refine (laws_zIs.calls ((rd_T60 t119 x315_1).f0) ((rd_T60 t119 x315_1).f1) (rd t103 x315_1) t178 true _ A138.out).mono ?_
    rintro e w161 ⟨rfl, hb⟩
    have HS0_ := (hb.cell (World.block_lt_of_cell? _ _ (hHeld.1))).trans (hHeld.1)
    have HS1_ := (hb.cell (World.block_lt_of_cell? _ _ (hHeld.2.1))).trans (hHeld.2.1)
    have HS2_ := (hb.cell (World.block_lt_of_cell? _ _ (hHeld.2.2.1))).trans (hHeld.2.2.1)
    have HS3_ := (hb.cell (World.block_lt_of_cell? _ _ (hHeld.2.2.2.1))).trans (hHeld.2.2.2.1)
    have HS4_ := (hb.cell (World.block_lt_of_cell? _ _ (hHeld.2.2.2.2.1))).trans (hHeld.2.2.2.2.1)
    have HS5_ := (hb.cell (World.block_lt_of_cell? _ _ (hHeld.2.2.2.2.2.1))).trans (hHeld.2.2.2.2.2.1)
    have HS6_ := (hb.cell (World.block_lt_of_cell? _ _ (hHeld.2.2.2.2.2.2.1))).trans (hHeld.2.2.2.2.2.2.1)
    have HS7_ := (hb.cell (World.block_lt_of_cell? _ _ (hHeld.2.2.2.2.2.2.2.1))).trans (hHeld.2.2.2.2.2.2.2.1)
    have HS8_ := (hb.cell (World.block_lt_of_cell? _ _ (hHeld.2.2.2.2.2.2.2.2.1))).trans (hHeld.2.2.2.2.2.2.2.2.1)
    have HS9_ := (hb.cell (World.block_lt_of_cell? _ _ (hHeld.2.2.2.2.2.2.2.2.2))).trans (hHeld.2.2.2.2.2.2.2.2.2)
    refine ⟨_, rfl, ?_⟩
    replace HO_7 := rP HO_7 hb
    replace HO_11 := rP HO_11 hb
    replace HO_15 := rP HO_15 hb
    replace HO_23 := rP HO_23 hb
    replace HO_27 := rP HO_27 hb
    replace HO_31 := rP HO_31 hb
    replace HO_39 := rP HO_39 hb
    replace HO_313 := rP HO_313 hb
    replace BK101 := bP BK101 hb
    replace BK102 := bP BK102 hb
    replace BK130 := bP BK130 hb
    replace BK134 := bP BK134 hb
    replace HB := sQ hb
    (try clear hb)
    (try clear hb2)
    (try clear hk)
    (try clear hi)
    refine hK.out _ _ ⟨HS0_, HS1_, HS2_, HS3_, HS4_, HS5_, HS6_, HS7_, HS8_, HS9_⟩ (fun hHeld => ?_)
    clear hK K
    refine nM ?_
    refine pU 18 HT_ ?_
    refine pU 19 HT_ ?_
    refine pU 20 HT_ ?_
    refine pU 21 HT_ ?_
    refine pU 22 HT_ ?_
    refine pU 23 HT_ ?_
    refine pU 25 HT_ ?_
    refine pU 26 HT_ ?_
    refine tK 24 HT_ HW_ hHeld (hy := by rintro w' ⟨s0, s1, s2, s3, s4, s5, s6, s7, s8, s9⟩; go_simp; with_reducible rfl) ?_
    refine oN 27 HT_ (fun K hK => ?_)
    refine gE Tryz.func72 #[.agg #[.int .i64 ((rd_T60 t135 x315_1).f0), .int .i64 ((rd_T60 t135 x315_1).f1)], .int .i64 (rd t103 x315_1), .int .i64 t166] ?_
    with_reducible refine (laws_zIs.calls ((rd_T60 t135 x315_1).f0) ((rd_T60 t135 x315_1).f1) (rd t103 x315_1) t166 true _ A141.out).mono ?_
    rintro e w162 ⟨rfl, hb⟩
    have HS0_ := (hb.cell (World.block_lt_of_cell? _ _ (hHeld.1))).trans (hHeld.1)
    have HS1_ := (hb.cell (World.block_lt_of_cell? _ _ (hHeld.2.1))).trans (hHeld.2.1)
    have HS2_ := (hb.cell (World.block_lt_of_cell? _ _ (hHeld.2.2.1))).trans (hHeld.2.2.1)
    have HS3_ := (hb.cell (World.block_lt_of_cell? _ _ (hHeld.2.2.2.1))).trans (hHeld.2.2.2.1)
    have HS4_ := (hb.cell (World.block_lt_of_cell? _ _ (hHeld.2.2.2.2.1))).trans (hHeld.2.2.2.2.1)
    have HS5_ := (hb.cell (World.block_lt_of_cell? _ _ (hHeld.2.2.2.2.2.1))).trans (hHeld.2.2.2.2.2.1)
    have HS6_ := (hb.cell (World.block_lt_of_cell? _ _ (hHeld.2.2.2.2.2.2.1))).trans (hHeld.2.2.2.2.2.2.1)
    have HS7_ := (hb.cell (World.block_lt_of_cell? _ _ (hHeld.2.2.2.2.2.2.2.1))).trans (hHeld.2.2.2.2.2.2.2.1)
    have HS8_ := (hb.cell (World.block_lt_of_cell? _ _ (hHeld.2.2.2.2.2.2.2.2.1))).trans (hHeld.2.2.2.2.2.2.2.2.1)
    have HS9_ := (hb.cell (World.block_lt_of_cell? _ _ (hHeld.2.2.2.2.2.2.2.2.2))).trans (hHeld.2.2.2.2.2.2.2.2.2)
    refine ⟨_, rfl, ?_⟩
    replace HO_7 := rP HO_7 hb
    replace HO_11 := rP HO_11 hb
    replace HO_15 := rP HO_15 hb
    replace HO_23 := rP HO_23 hb
    replace HO_27 := rP HO_27 hb
    replace HO_31 := rP HO_31 hb
    replace HO_39 := rP HO_39 hb
    replace HO_313 := rP HO_313 hb
    replace BK101 := bP BK101 hb
    replace BK102 := bP BK102 hb
    replace BK130 := bP BK130 hb
    replace BK134 := bP BK134 hb
    replace HB := sQ hb
    (try clear hb)
    (try clear hb2)
    (try clear hk)
    (try clear hi)
    refine hK.out _ _ ⟨HS0_, HS1_, HS2_, HS3_, HS4_, HS5_, HS6_, HS7_, HS8_, HS9_⟩ (fun hHeld => ?_)
    clear hK K
    refine nM ?_
    refine pU 28 HT_ ?_
    refine pU 29 HT_ ?_
    refine pU 30 HT_ ?_
    refine pU 31 HT_ ?_
    refine pU 32 HT_ ?_
    refine pU 33 HT_ ?_
    refine pU 35 HT_ ?_
    refine pU 36 HT_ ?_
    refine pU 37 HT_ ?_
    refine pU 38 HT_ ?_
    refine tK 34 HT_ HW_ hHeld (hy := by rintro w' ⟨s0, s1, s2, s3, s4, s5, s6, s7, s8, s9⟩; go_simp; with_reducible rfl) ?_
    refine oN 39 HT_ (fun K hK => ?_)
    refine goes_ Tryz.func72 (by kernel_rfl) rfl #[.agg #[.int .i64 ((rd_T60 t143 x315_1).f0), .int .i64 ((rd_T60 t143 x315_1).f1)], .int .i64 (rd t103 x315_1), .int .i64 (wrap64 (ji104 - t166))] (by rfl) rfl rfl (by (try simp only [mA, mC, mN]); first | done | (simp only [hji104]; rfl) | rfl | (simp only [List.length_drop, List.length_take]; rfl)) ?_
    with_reducible refine (laws_zIs.calls ((rd_T60 t143 x315_1).f0) ((rd_T60 t143 x315_1).f1) (rd t103 x315_1) (wrap64 (ji104 - t166)) true _ A144.out).mono ?_
    rintro e w163 ⟨rfl, hb⟩
    have HS0_ := (hb.cell (World.block_lt_of_cell? _ _ (hHeld.1))).trans (hHeld.1)
    have HS1_ := (hb.cell (World.block_lt_of_cell? _ _ (hHeld.2.1))).trans (hHeld.2.1)
    have HS2_ := (hb.cell (World.block_lt_of_cell? _ _ (hHeld.2.2.1))).trans (hHeld.2.2.1)
    have HS3_ := (hb.cell (World.block_lt_of_cell? _ _ (hHeld.2.2.2.1))).trans (hHeld.2.2.2.1)
    have HS4_ := (hb.cell (World.block_lt_of_cell? _ _ (hHeld.2.2.2.2.1))).trans (hHeld.2.2.2.2.1)
    have HS5_ := (hb.cell (World.block_lt_of_cell? _ _ (hHeld.2.2.2.2.2.1))).trans (hHeld.2.2.2.2.2.1)
    have HS6_ := (hb.cell (World.block_lt_of_cell? _ _ (hHeld.2.2.2.2.2.2.1))).trans (hHeld.2.2.2.2.2.2.1)
    have HS7_ := (hb.cell (World.block_lt_of_cell? _ _ (hHeld.2.2.2.2.2.2.2.1))).trans (hHeld.2.2.2.2.2.2.2.1)
    have HS8_ := (hb.cell (World.block_lt_of_cell? _ _ (hHeld.2.2.2.2.2.2.2.2.1))).trans (hHeld.2.2.2.2.2.2.2.2.1)
    have HS9_ := (hb.cell (World.block_lt_of_cell? _ _ (hHeld.2.2.2.2.2.2.2.2.2))).trans (hHeld.2.2.2.2.2.2.2.2.2)
    refine ⟨_, rfl, ?_⟩
    replace HO_7 := rP HO_7 hb
    replace HO_11 := rP HO_11 hb
    replace HO_15 := rP HO_15 hb
    replace HO_23 := rP HO_23 hb
    replace HO_27 := rP HO_27 hb
    replace HO_31 := rP HO_31 hb
    replace HO_39 := rP HO_39 hb
    replace HO_313 := rP HO_313 hb
    replace BK101 := bP BK101 hb
    replace BK102 := bP BK102 hb
    replace BK130 := bP BK130 hb
    replace BK134 := bP BK134 hb
    replace HB := sQ hb
    (try clear hb)
    (try clear hb2)
    (try clear hk)
    (try clear hi)
    refine hK.out _ _ ⟨HS0_, HS1_, HS2_, HS3_, HS4_, HS5_, HS6_, HS7_, HS8_, HS9_⟩ (fun hHeld => ?_)
    clear hK K
    refine nM ?_
    refine pU 40 HT_ ?_
    refine pU 41 HT_ ?_
    refine pU 42 HT_ ?_
    refine pU 43 HT_ ?_
    refine pU 44 HT_ ?_
    refine pU 45 HT_ ?_
    refine pU 47 HT_ ?_
    refine pU 48 HT_ ?_
    refine pU 49 HT_ ?_
    refine pU 50 HT_ ?_
    refine pU 51 HT_ ?_
    refine tK 46 HT_ HW_ hHeld (hy := by rintro w' ⟨s0, s1, s2, s3, s4, s5, s6, s7, s8, s9⟩; go_simp; with_reducible rfl) ?_
    refine oN 52 HT_ (fun K hK => ?_)
    refine goes_ Tryz.func72 (by kernel_rfl) rfl #[.agg #[.int .i64 ((rd_T60 t151 x315_1).f0), .int .i64 ((rd_T60 t151 x315_1).f1)], .int .i64 (wrap64 ((wrap64 (Int.tdiv ji104 2)) + (rd t103 x315_1))), .int .i64 ji104] (by rfl) rfl rfl (by (try simp only [mA, mC, mN]); first | done | (simp only [hji104]; rfl) | rfl | (simp only [List.length_drop, List.length_take]; rfl)) ?_
    with_reducible refine (laws_zIs.calls ((rd_T60 t151 x315_1).f0) ((rd_T60 t151 x315_1).f1) (wrap64 ((wrap64 (Int.tdiv ji104 2)) + (rd t103 x315_1))) ji104 true _ A147.out).mono ?_
    rintro e w164 ⟨rfl, hb⟩
    have HS0_ := (hb.cell (World.block_lt_of_cell? _ _ (hHeld.1))).trans (hHeld.1)
    have HS1_ := (hb.cell (World.block_lt_of_cell? _ _ (hHeld.2.1))).trans (hHeld.2.1)
    have HS2_ := (hb.cell (World.block_lt_of_cell? _ _ (hHeld.2.2.1))).trans (hHeld.2.2.1)
    have HS3_ := (hb.cell (World.block_lt_of_cell? _ _ (hHeld.2.2.2.1))).trans (hHeld.2.2.2.1)
    have HS4_ := (hb.cell (World.block_lt_of_cell? _ _ (hHeld.2.2.2.2.1))).trans (hHeld.2.2.2.2.1)
    have HS5_ := (hb.cell (World.block_lt_of_cell? _ _ (hHeld.2.2.2.2.2.1))).trans (hHeld.2.2.2.2.2.1)
    have HS6_ := (hb.cell (World.block_lt_of_cell? _ _ (hHeld.2.2.2.2.2.2.1))).trans (hHeld.2.2.2.2.2.2.1)
    have HS7_ := (hb.cell (World.block_lt_of_cell? _ _ (hHeld.2.2.2.2.2.2.2.1))).trans (hHeld.2.2.2.2.2.2.2.1)
    have HS8_ := (hb.cell (World.block_lt_of_cell? _ _ (hHeld.2.2.2.2.2.2.2.2.1))).trans (hHeld.2.2.2.2.2.2.2.2.1)
    have HS9_ := (hb.cell (World.block_lt_of_cell? _ _ (hHeld.2.2.2.2.2.2.2.2.2))).trans (hHeld.2.2.2.2.2.2.2.2.2)
    refine ⟨_, rfl, ?_⟩
    replace HO_7 := rP HO_7 hb
    replace HO_11 := rP HO_11 hb
    replace HO_15 := rP HO_15 hb
    replace HO_23 := rP HO_23 hb
    replace HO_27 := rP HO_27 hb
    replace HO_31 := rP HO_31 hb
    replace HO_39 := rP HO_39 hb
    replace HO_313 := rP HO_313 hb
    replace BK101 := bP BK101 hb
    replace BK102 := bP BK102 hb
    replace BK130 := bP BK130 hb
    replace BK134 := bP BK134 hb
    replace HB := sQ hb
    (try clear hb)
    (try clear hb2)
    (try clear hk)
    (try clear hi)
    obtain ⟨Ao165, co165, eo165⟩ := Kd.R_slice HO_39.out
    (first | subst eo165 | (injection eo165 with f1_ f2_ f3_; have f4_ := f1_.symm; have f5_ := f3_.symm; clear f1_ f2_ f3_; subst f4_; subst f5_))
    refine hK.out _ _ ⟨HS0_, HS1_, HS2_, HS3_, HS4_, HS5_, HS6_, HS7_, HS8_, HS9_⟩ (fun hHeld => ?_)
    clear hK K
    refine nM ?_
    refine pU 53 HT_ ?_
    refine pU 54 HT_ ?_
    refine pU 55 HT_ ?_
    refine pU 56 HT_ ?_
    refine pU 57 HT_ ?_
    refine pU 58 HT_ ?_
    refine pU 59 HT_ ?_
    refine oN 60 HT_ (fun K hK => ?_)
    refine gE Tryz.func74 #[.slice Ao165 t168.length co165, .int .i64 x315_1] ?_
    with_reducible refine (laws_zHas.calls k1 _ _ t168 x315_1 t186 _ ?side1 ?side2 A149.out).mono ?_
    (case side1 => have hx_ := (Kd.R_reads' HO_39.out).2.2; exact cC)
    (case side2 => exact (Kd.R_reads' HO_39.out).2.1)
    rintro e w' ⟨rfl, ⟨nd, rfl⟩⟩
    refine ⟨_, rfl, ?_⟩
    refine hK.out _ _ ⟨hHeld.1, hHeld.2.1, hHeld.2.2.1, hHeld.2.2.2.1, hHeld.2.2.2.2.1, hHeld.2.2.2.2.2.1, hHeld.2.2.2.2.2.2.1, hHeld.2.2.2.2.2.2.2.1, hHeld.2.2.2.2.2.2.2.2.1, hHeld.2.2.2.2.2.2.2.2.2⟩ (fun hHeld => ?_)
    clear hK K
    refine nM ?_
    refine pU 61 HT_ ?_
    refine pU 62 HT_ ?_
    refine done_ (done_of HT_.out (by kernel_rfl)) ?_
    have hnb166 := NB101_102.out
    have hnc166 := NB102_101.out
    have hnb167 := NB101_130.out
    have hnc167 := NB130_101.out
    have hnb168 := NB101_134.out
    have hnc168 := NB134_101.out
    obtain ⟨hcz169_0, hcz169_1, hfz169_0, hfz169_1⟩ := zZ BK101
    go_upto_region 30 with (first | ((with_reducible refine gate_callee (f := 75) rfl ?_); refine gL 386 Tryz.func75 #[.agg #[.int .i64 a0_0, .slice A0_1 l0_1.length c0_1], .int .i64 x315_1] ?_; (with_reducible refine (impl_SwingSets.calls k1 a0_0 _ _ l0_1 x315_1 t187 true _ ?side1 ?side2 A151.out).mono ?_); (case side1 =>  repeat (first | exact (Kd.C_below HR0_1.out (by repeat (first | exact HB.out | apply ba | apply bd | apply be | refine bs ?_ GE101.out | refine bs ?_ GE102.out | refine bs ?_ GE130.out | refine bs ?_ GE134.out))) | (with_reducible refine Kd.C_alloc ?_ _) | (with_reducible refine Kd.C_drewN ?_ _) | (with_reducible refine Kd.C_drew ?_))); (case side2 => exact HC0_1.out); rintro e w170 ⟨v188, rfl, ho0, hb⟩; refine ⟨_, rfl, ?_⟩; have HO189 := Aside0.mk (Kd.S_lower (Kd.S_new' (Kd.S_new' (Kd.S_new' ho0 (Kd.R_lt (rQ HO_7))) (Kd.R_lt (rQ HO_39))) (Kd.R_lt (rQ HO_313))) (below_size (by repeat (first | exact HB.out | apply ba | apply bd | apply be | refine bs ?_ GE101.out | refine bs ?_ GE102.out | refine bs ?_ GE130.out | refine bs ?_ GE134.out)))); replace HO_7 := rP HO_7 hb; replace HO_11 := rP HO_11 hb; replace HO_15 := rP HO_15 hb; replace HO_23 := rP HO_23 hb; replace HO_27 := rP HO_27 hb; replace HO_31 := rP HO_31 hb; replace HO_39 := rP HO_39 hb; replace HO_313 := rP HO_313 hb; replace BK101 := bP BK101 hb; replace BK102 := bP BK102 hb; replace BK130 := bP BK130 hb; replace BK134 := bP BK134 hb; replace HB := sQ hb; (try clear hb); (try clear ho0); (try clear hcz169_0 hcz169_1 hfz169_0 hfz169_1); obtain ⟨hcz171_0, hcz171_1, hfz171_0, hfz171_1⟩ := zZ BK101))
    go_upto_region 31 with (first | ((with_reducible refine gate_callee (f := 76) rfl ?_); refine gL 392 Tryz.func76 #[.agg #[.int .i64 a0_0, .slice A0_1 l0_1.length c0_1], .int .i64 x315_1] ?_; (with_reducible refine (impl_SwingsBySize.calls k1 a0_0 _ _ l0_1 x315_1 t191 true _ ?side1 ?side2 A152.out).mono ?_); (case side1 => have hx_ := (Kd.C_below HR0_1.out HB.out); exact cC); (case side2 => exact HC0_1.out); rintro e w172 ⟨v192, rfl, ho0, hb⟩; refine ⟨_, rfl, ?_⟩; have HO193 := Aside0.mk (Kd.R_lower (Kd.R_new' (Kd.R_new' (Kd.R_new' ho0 (Kd.R_lt (rQ HO_7))) (Kd.R_lt (rQ HO_39))) (Kd.R_lt (rQ HO_313))) (below_size (by repeat (first | exact HB.out | apply ba | apply bd | apply be | refine bs ?_ GE101.out | refine bs ?_ GE102.out | refine bs ?_ GE130.out | refine bs ?_ GE134.out)))); replace HO_7 := rE HO_7 (Kd.R_base ho0) hb; replace HO_11 := rP HO_11 hb; replace HO_15 := rP HO_15 hb; replace HO_23 := rP HO_23 hb; replace HO_27 := rP HO_27 hb; replace HO_31 := rP HO_31 hb; replace HO_39 := rE HO_39 (Kd.R_base ho0) hb; replace HO_313 := rE HO_313 (Kd.R_base ho0) hb; replace HO189 := tE HO189 (Kd.R_base ho0) hb; replace BK101 := bP BK101 hb; replace BK102 := bP BK102 hb; replace BK130 := bP BK130 hb; replace BK134 := bP BK134 hb; replace HB := sQ hb; (try clear hb); (try clear ho0); obtain ⟨Ao173, co173, eo173⟩ := Kd.S_slice HO189.out; subst eo173; obtain ⟨Ao174, co174, eo174⟩ := Kd.R_slice HO193.out; subst eo174))
    try go_wp2_with (first | (go_at_call 73; (with_reducible refine (laws_zSum.calls k1 _ _ t191 t195 _ ?side1 ?side2 A157.out).mono ?_); (case side1 => have hx_ := (Kd.R_reads' HO193.out).2.2; exact cC); (case side2 => exact (Kd.R_reads' HO193.out).2.1); rintro e w' ⟨rfl, ⟨nd, rfl⟩⟩))
    refine loopT_ [F,F,F,F,F,F,T,F,F,F,F,F,F,F,F,F,F,F,F,F,F,F,F,F,F,F,F,F,F,F,F,F,F,F,F,F,F,F,F,F,F,F,F,F,F,F,F,T,T,T,T,T,T,T,T,F,F,F,F,F,F,F,F,F,F,F,F,F,F,F,F,F,F,F,F,F,F,F,F,F,F,F,F,F,F,F,F,F,F,F,F,F,F,F,F,F,F,F,F,F,F,F,F,F,F,F,F,F,F,F,F,F,F,F,F,F,F,F,F,F,F,F,F,F,F,F,F,F,F,F,F,F,F,F,F,F,F,F,F,F,F,F,F,F,F,F,F,F,F,F,F,F,F,F,F,F,F,F,F,F,F,F,F,F,F,F,F,F,F,F,F,F,F,F,F,F,F,F,F,F,F,F,F,F,F,F,F,F,F,F,F,F,F,F,F,F,F,F,F,F,F,F,F,F,F,F,F,F,F,F,F,F,F,F,F,F,F,F,F,F,F,F,F,F,F,F,F,F,F,F,F,F,F,F,F,F,F,F,F,F,F,F,F,F,F,F,F,F,F,F,F,F,F,F,F,F,F,F,F,F,F,F,F,F,F,F,F,F,F,F,F,F,F,F,F,F,F,F,F,F,F,F,F,F,F,F,F,F,F,F,F,F,F,F,F,F,F,F,F,F,F,F,F,F,F,F,F,F,F,F,F,F,F,F,F,F,F,F,F,F,F,F,F,F,F,F,F,F,F,F,F,F,F,F,F,F,F,F,F,F,F,F,F,F,F,F,F,F,F,F,F,F,F,F,F,F,F,F,F,F,F,F,F,F,F,F,F,F,F,F,F,F,F,F,F,F,F,F,F,F,F,F,F,F,F,F,F,F,F,F,F,F,F,F,F,F,F,F,F,F,F,F,F,F,F,F,F,F,F,F,F,F,F,F,F,F,F,F,F,F,F,T,T,T,T,T,T,T,T,T,T,T,T,T,T,T,T,T,T,T,T,T,T,T,T,T,T,T,T,T,T,T,T,T,T,T,T,T,T,T,T,T,T,T,T,T,T,T,T,T,T,T,T,T,T,T,T,T,T,T,T,T,T,T,T,T,T,T,T,T,T,T,T,T,T,T,T,T,T,T,T,T,T,T,T,T,T,T] k1 (fun kq_ T_ w_ => (fun kq v421 w' => ∃ (x421_2 : Int), v421 = .int .i64 x421_2 ∧ Aside0 (laws_FnSwingsToldOfAll.l1 kq a2 t103 t111 t119 t135 t143 t151 (l0_1.length : Int) ji104 t166 t168 x315_1 t187 t191 t103 (t103.length : Int) x315_1 t187 (t187.length : Int) x421_2 a0_0 l0_1 a1_0 l1_1 = some r) ∧ Aside0 (kq ≤ k1) ∧ Aside0 (Kd.R (Kd.int .i64) 3 w' w.heap.size (fun k_ => nb (.slice Ao165 t168.length co165) k_ ∧ nb (.slice Ao174 t191.length co174) k_) (.slice (some ad174) t103.length co87) t103) ∧ Aside0 (Kd.R k60 60 w' w.heap.size (fun k_ => nb (.slice (some ad177) t119.length co91) k_ ∧ nb (.slice (some ad180) t135.length co95) k_ ∧ nb (.slice (some ad182) t143.length co97) k_ ∧ nb (.slice (some ad184) t151.length co99) k_ ∧ k_ ≠ gb130 ∧ k_ ≠ gb134) (.slice (some ad175) t111.length co89) t111) ∧ Aside0 (Kd.R k60 60 w' w.heap.size (fun k_ => nb (.slice (some ad175) t111.length co89) k_ ∧ nb (.slice (some ad180) t135.length co95) k_ ∧ nb (.slice (some ad182) t143.length co97) k_ ∧ nb (.slice (some ad184) t151.length co99) k_ ∧ k_ ≠ gb130 ∧ k_ ≠ gb134) (.slice (some ad177) t119.length co91) t119) ∧ Aside0 (Kd.R k60 60 w' w.heap.size (fun k_ => nb (.slice (some ad175) t111.length co89) k_ ∧ nb (.slice (some ad177) t119.length co91) k_ ∧ nb (.slice (some ad182) t143.length co97) k_ ∧ nb (.slice (some ad184) t151.length co99) k_ ∧ k_ ≠ gb130 ∧ k_ ≠ gb134) (.slice (some ad180) t135.length co95) t135) ∧ Aside0 (Kd.R k60 60 w' w.heap.size (fun k_ => nb (.slice (some ad175) t111.length co89) k_ ∧ nb (.slice (some ad177) t119.length co91) k_ ∧ nb (.slice (some ad180) t135.length co95) k_ ∧ nb (.slice (some ad184) t151.length co99) k_ ∧ k_ ≠ gb130 ∧ k_ ≠ gb134) (.slice (some ad182) t143.length co97) t143) ∧ Aside0 (Kd.R k60 60 w' w.heap.size (fun k_ => nb (.slice (some ad175) t111.length co89) k_ ∧ nb (.slice (some ad177) t119.length co91) k_ ∧ nb (.slice (some ad180) t135.length co95) k_ ∧ nb (.slice (some ad182) t143.length co97) k_ ∧ k_ ≠ gb130 ∧ k_ ≠ gb134) (.slice (some ad184) t151.length co99) t151) ∧ Aside0 (Kd.R (Kd.int .i64) 3 w' w.heap.size (fun k_ => nb (.slice (some ad174) t103.length co87) k_ ∧ nb (.slice Ao174 t191.length co174) k_ ∧ nb (.slice (some ad174) t103.length co87) k_) (.slice Ao165 t168.length co165) t168) ∧ Aside0 (Kd.S (Kd.slice 3 (Kd.int .i64)) 24 w' w.heap.size (fun k_ => nb (.slice (some ad174) t103.length co87) k_ ∧ nb (.slice Ao165 t168.length co165) k_ ∧ nb (.slice Ao174 t191.length co174) k_ ∧ nb (.slice (some ad174) t103.length co87) k_) (.slice Ao173 t187.length co173) t187) ∧ Aside0 (Kd.R (Kd.int .i64) 3 w' w.heap.size (fun k_ => nb (.slice (some ad174) t103.length co87) k_ ∧ nb (.slice Ao165 t168.length co165) k_ ∧ nb (.slice (some ad174) t103.length co87) k_) (.slice Ao174 t191.length co174) t191) ∧ Aside0 (Kd.R (Kd.int .i64) 3 w' w.heap.size (fun k_ => nb (.slice Ao165 t168.length co165) k_ ∧ nb (.slice Ao174 t191.length co174) k_) (.slice (some ad174) t103.length co87) t103) ∧ Aside0 (Kd.S (Kd.slice 3 (Kd.int .i64)) 24 w' w.heap.size (fun k_ => nb (.slice (some ad174) t103.length co87) k_ ∧ nb (.slice Ao165 t168.length co165) k_ ∧ nb (.slice Ao174 t191.length co174) k_ ∧ nb (.slice (some ad174) t103.length co87) k_) (.slice Ao173 t187.length co173) t187) ∧ Aside0 (w'.heap[gb101]? = some (.cells #[.int .i64 a0_0, (.slice A0_1 l0_1.length c0_1)] 26 (0, 0))) ∧ Aside0 (w'.heap[gb102]? = some (.cells #[.int .i64 a1_0, (.slice A1_1 l1_1.length c1_1)] 26 (0, 0))) ∧ Aside0 (w'.heap[gb130]? = some (.cells #[.int .i64 t127, .int .i64 t128] 60 (0, 0))) ∧ Aside0 (w'.heap[gb134]? = some (.cells #[.int .i64 t131, .int .i64 t132] 60 (0, 0))) ∧ Aside0 (Below w.heap.size w w')) kq_ (T_ 421) w_) (by kernel_rfl) ?atStart ?round
    case atStart => exact ⟨(0), gR, H', ⟨Nat.le_refl _⟩, ⟨rQ HO_7⟩, ⟨rQ HO_11⟩, ⟨rQ HO_15⟩, ⟨rQ HO_23⟩, ⟨rQ HO_27⟩, ⟨rQ HO_31⟩, ⟨by (with_reducible repeat (first | apply qA | apply qN | apply qD)); exact Kd.R_mono HO_39.out (fun _ hk => by first | exact ⟨hk.1.1, ⟨hk.2, hk.1.2⟩⟩ | simp_all)⟩, ⟨by (with_reducible repeat (first | apply Kd.S_alloc | apply Kd.S_drewN | apply Kd.S_drew)); exact Kd.S_mono HO189.out (fun _ hk => by first | exact ⟨hk.1.1.1.2, ⟨hk.1.1.2, ⟨hk.2, hk.1.2⟩⟩⟩ | simp_all)⟩, ⟨by (with_reducible repeat (first | apply qA | apply qN | apply qD)); exact Kd.R_mono HO193.out (fun _ hk => by first | exact ⟨hk.1.1.2, ⟨hk.1.2, hk.2⟩⟩ | simp_all)⟩, ⟨rQ HO_313⟩, ⟨by (with_reducible repeat (first | apply Kd.S_alloc | apply Kd.S_drewN | apply Kd.S_drew)); exact Kd.S_mono HO189.out (fun _ hk => by first | exact ⟨hk.1.1.1.2, ⟨hk.1.1.2, ⟨hk.2, hk.1.2⟩⟩⟩ | simp_all)⟩, ⟨bQ BK101⟩, ⟨bQ BK102⟩, ⟨bQ BK130⟩, ⟨bQ BK134⟩, ⟨wB⟩⟩
    case round => as_aux_lemma =>
     intro gk T_ wr hrel J_ K_ hJ_l1 hM_
     simp only [putT, putM, T, F, Nat.reduceAdd]
     (try dsimp only at hrel)
     generalize T_ 421 = u421 at hrel ⊢
     clear H'
     (try clear c1); (try clear p2); (try clear p6); (try clear c7); (try clear c16); (try clear p64); (try clear c72); (try clear c74); (try clear c75); (try clear c76); (try clear c166); (try clear c167); (try clear c168); (try clear hcz171_0); (try clear hcz171_1); (try clear hfz171_0); (try clear hfz171_1)
     obtain ⟨x421_2, rfl, HA, HK2, HO_7, HO_11, HO_15, HO_23, HO_27, HO_31, HO_39, HO_43, HO_45, HO_313, HO_419, BK101, BK102, BK130, BK134, HB⟩ := hrel
     cases gk with
     | zero => exact absurd HA.out (by simp [laws_FnSwingsToldOfAll.l1])
     | succ k2 =>
      have H := HA.out
      clear HA
      simp only [laws_FnSwingsToldOfAll.l1] at H
      by_cases c175 : x421_2 < (t187.length : Int)
      rotate_left
      ·rw [if_neg c175] at H
       have c175b0 : decide (x421_2 < (t187.length : Int)) = false := decide_eq_false c175
       clear c175
       as_aux_lemma =>
        have H' := Aside0.mk H
        clear H
        go_wp2
        refine roundT_ k2 ?measure hJ_l0 (by kernel_rfl) ?rel
        case measure => have := HK1.out; have := HK2.out; omega
        case rel => exact ⟨(wrap64 (x315_1 + 1)), gR, H', ⟨by have := HK1.out; have := HK2.out; omega⟩, ⟨by exact Kd.R_mono HO_7.out (fun _ hk => by first | exact hk.1 | simp_all)⟩, ⟨by exact HO_11.out⟩, ⟨by exact HO_15.out⟩, ⟨by exact HO_23.out⟩, ⟨by exact HO_27.out⟩, ⟨by exact HO_31.out⟩, ⟨by exact Kd.R_mono HO_39.out (fun _ hk => by first | exact ⟨hk.1, hk.2.2⟩ | simp_all)⟩, ⟨by exact Kd.R_mono HO_313.out (fun _ hk => by first | exact hk.1 | simp_all)⟩, ⟨by exact BK101.out⟩, ⟨by exact BK102.out⟩, ⟨by exact BK130.out⟩, ⟨by exact BK134.out⟩, ⟨wB⟩⟩
      rw [if_pos c175] at H
      have c175b0 := decide_eq_true c175
      clear c175
      replace H := ite_yes H
      obtain ⟨c176, H⟩ := H
      have c176b0 : decide (0 ≤ x421_2) = true := decide_eq_true c176
      clear c176
      replace H := ite_yes H
      obtain ⟨c177, H⟩ := H
      have c177b0 : decide (x421_2 < (t187.length : Int)) = true := decide_eq_true c177
      clear c177
      replace H := oB H
      obtain ⟨⟨t197, t198⟩, A1780, H⟩ := H
      (try dsimp only at H)
      have A178 := Aside0.mk A1780
      clear A1780
      obtain ⟨y199, hy199⟩ : ∃ y_ : List Int, y_ = (([] : List Int)) := ⟨_, rfl⟩
      replace H : (if y199.length + (rd_L2 t187 x421_2).length < 17592186044416 then (laws_FnSwingsToldOfAll.l2 k2 a2 t103 t111 t119 t135 t143 t151 (l0_1.length : Int) ji104 t166 t168 x315_1 t187 t191 x421_2 (rd_L2 t187 x421_2) t197 t198 (y199 ++ (rd_L2 t187 x421_2)) 0 t103 (t103.length : Int) x315_1 t187 (t187.length : Int) x421_2 a0_0 l0_1 a1_0 l1_1) else (none)) = some r := by first | (rw [hy199]; with_reducible exact H) | (have H2_ := (Option.bind_some _ _).symm.trans H; rw [hy199]; with_reducible exact H2_) | (have H2_ := (Option.bind_some _ _).symm.trans H; with_reducible exact H2_) | with_reducible exact H | (rw [hy199]; exact H) | exact H
      have Ny199 := Aside0.mk hy199
      clear hy199
      replace H := ite_yes H
      obtain ⟨c179, H⟩ := H
      have LMc179 := Aside0.mk c179
      clear c179
      obtain ⟨y202, hy202⟩ : ∃ y_ : List Int, y_ = (y199 ++ (rd_L2 t187 x421_2)) := ⟨_, rfl⟩
      replace H : (laws_FnSwingsToldOfAll.l2 k2 a2 t103 t111 t119 t135 t143 t151 (l0_1.length : Int) ji104 t166 t168 x315_1 t187 t191 x421_2 (rd_L2 t187 x421_2) t197 t198 y202 0 t103 (t103.length : Int) x315_1 t187 (t187.length : Int) x421_2 a0_0 l0_1 a1_0 l1_1) = some r := by first | (rw [hy202]; with_reducible exact H) | (have H2_ := (Option.bind_some _ _).symm.trans H; rw [hy202]; with_reducible exact H2_) | (have H2_ := (Option.bind_some _ _).symm.trans H; with_reducible exact H2_) | with_reducible exact H | (rw [hy202]; exact H) | exact H
      have Ny202 := Aside0.mk hy202
      clear hy202
      have H' := Aside0.mk H
      clear H
      have p196 : 0 ≤ (x421_2 : Int) := oD
      have q196 : x421_2 < (t187.length : Int) := oD
      obtain ⟨ad196, A196_0, c196_0, e196, hx196_0, hl196_0, hi196_0⟩ := at_L2 (Kd.S_reads' HO_419.out).2.2 x421_2 p196 q196
      cases e196
      obtain ⟨ce196, hce196, hMe196, hcc196⟩ := Kd.S_get HO_419.out [] x421_2 p196 (by first | exact q196 | exact oD | (have e_ := (Kd.S_reads' HO_419.out).1; omega))
      obtain ⟨ve196_0, rfl, ge196_0⟩ := hMe196
      have hv196_0 := hcc196 0 _ rfl
      rw [Nat.add_zero, show ((Kd.slice 3 (Kd.int .i64))).sz = 1 from rfl, Nat.mul_one] at hv196_0
      replace hv196_0 := Option.some.inj (hv196_0.symm.trans hx196_0)
      rw [hv196_0] at ge196_0
      have HL196_0 := Aside0.mk (show Kd.R (Kd.int .i64) 3 _ _ _ _ (rd_L2 t187 x421_2) from ge196_0)
      clear hv196_0 ge196_0
      clear hcc196 hce196
      have HR196_0 := Aside0.mk hi196_0
      have HC196_0 := Aside0.mk hl196_0
      clear hi196_0 hl196_0
      replace p196 := eq_true p196
      replace q196 := eq_true q196
      have hnb180 := NB101_102.out
      have hnc180 := NB102_101.out
      have hnb181 := NB101_130.out
      have hnc181 := NB130_101.out
      have hnb182 := NB101_134.out
      have hnc182 := NB134_101.out
      obtain ⟨hcz183_0, hcz183_1, hfz183_0, hfz183_1⟩ := zZ BK101
      go_wp2_with (first | ((with_reducible refine gate_callee (f := 12) rfl ?_); refine gL 429 Tryz.func12 #[.agg #[.int .i64 a0_0, .slice A0_1 l0_1.length c0_1], .slice A196_0 (rd_L2 t187 x421_2).length c196_0] ?_; (with_reducible refine (impl_IsWinning.calls k2 a0_0 _ _ l0_1 _ _ (rd_L2 t187 x421_2) t197 t198 _ (Kd.C_below HR0_1.out HB.out) HC0_1.out (by repeat (first | (with_reducible exact HR196_0.out) | (with_reducible refine Kd.C_alloc ?_ _) | (with_reducible refine Kd.C_drewN ?_ _) | (with_reducible refine Kd.C_drew ?_) | exact HR196_0.out)) HC196_0.out A178.out).mono ?_); rintro e w184 ⟨rfl, hb⟩; refine ⟨_, rfl, ?_⟩; replace HO_7 := rB HO_7 hb; replace HO_11 := rB HO_11 hb; replace HO_15 := rB HO_15 hb; replace HO_23 := rB HO_23 hb; replace HO_27 := rB HO_27 hb; replace HO_31 := rB HO_31 hb; replace HO_39 := rB HO_39 hb; replace HO_43 := tB HO_43 hb; replace HO_45 := rB HO_45 hb; replace HO_313 := rB HO_313 hb; replace HO_419 := tB HO_419 hb; replace HL196_0 := rB HL196_0 hb; replace BK101 := bB BK101 hb; replace BK102 := bB BK102 hb; replace BK130 := bB BK130 hb; replace BK134 := bB BK134 hb; replace HR196_0 := Aside0.mk (Kd.C_below (by repeat (first | (with_reducible exact HR196_0.out) | (with_reducible refine Kd.C_alloc ?_ _) | (with_reducible refine Kd.C_drewN ?_ _) | (with_reducible refine Kd.C_drew ?_) | exact HR196_0.out)) hb); replace HB := sB HB hb; (try clear hb)) | ((with_reducible refine gate_dst (N := 432) rfl ?_); (try (refine gate_guard (by rfl) ?_; dsimp only)); refine Kd.R_lit (Kd.int .i64) _ 3 ?hg (N := 432) ?hd (xs := ([] : List Int)) (inner := []) (ok := fun _ => True) (okp := fun _ => True) ?hr ?hp (fun _ hk => hk) trivial (Below.refl _ _) (Nat.le_refl _) (by simp) ?_; (case hd => rfl); (case hg => rfl); (case hr => first | (go_simp; done) | (go_simp; rfl)); (case hp => exact (Reps.none _ _)); intro v200 w185 ho186 hb hg_ hnew_; clear hg_ hnew_; (first | rw [← Ny199.out] at ho186 | (simp only [Int.reduceToNat] at ho186; rw [← Ny199.out] at ho186)); have HO201 := Aside0.mk (Kd.R_lower (Kd.R_new' (Kd.R_new' (Kd.R_new' (Kd.R_new' (Kd.R_new' ho186 (Kd.R_lt HO_7.out)) (Kd.R_lt HO_39.out)) (Kd.R_lt HO_45.out)) (Kd.R_lt HO_313.out)) (Kd.R_lt HL196_0.out)) (below_size HB.out)); replace HO_7 := rE HO_7 (Kd.R_base ho186) hb; replace HO_11 := rB HO_11 hb; replace HO_15 := rB HO_15 hb; replace HO_23 := rB HO_23 hb; replace HO_27 := rB HO_27 hb; replace HO_31 := rB HO_31 hb; replace HO_39 := rE HO_39 (Kd.R_base ho186) hb; replace HO_43 := tE HO_43 (Kd.R_base ho186) hb; replace HO_45 := rE HO_45 (Kd.R_base ho186) hb; replace HO_313 := rE HO_313 (Kd.R_base ho186) hb; replace HO_419 := tE HO_419 (Kd.R_base ho186) hb; replace HL196_0 := Aside0.mk (Kd.R_elder' HL196_0.out (Kd.R_base ho186) hb); replace BK101 := bB BK101 hb; replace BK102 := bB BK102 hb; replace BK130 := bB BK130 hb; replace BK134 := bB BK134 hb; replace HR196_0 := Aside0.mk (Kd.C_below (by repeat (first | (with_reducible exact HR196_0.out) | (with_reducible refine Kd.C_alloc ?_ _) | (with_reducible refine Kd.C_drewN ?_ _) | (with_reducible refine Kd.C_drew ?_) | exact HR196_0.out)) hb); replace HB := sB HB hb; clear hb ho186) | ((with_reducible refine gate_builtin (b := .append) (xs := #[.tmp 432, .tmp 433]) rfl ?_); (try (refine gate_guard (by rfl) ?_; dsimp only)); at_builtin; refine Kd.R_append_rows (Kd.int .i64) (w0 := w) w.heap.size rfl (.tmp 432) (.tmp 433) 24 3 (.int .i64 0) 8 rfl Tryz.underlying24 info3 rfl (by decide) (by omega) v200 y199 (rd_L2 t187 x421_2) _ _ _ (fun k_ => nb (.slice (some ad174) t103.length co87) k_ ∧ nb (.slice Ao165 t168.length co165) k_ ∧ nb (.slice Ao174 t191.length co174) k_ ∧ nb (.slice (some ad174) t103.length co87) k_ ∧ some k_ ≠ (.slice A196_0 (rd_L2 t187 x421_2).length c196_0 : Value).ownBlock) (fun _ => False) rfl rfl ?aO ?aR (fun _ _ h => h) (fun _ h => h.elim) ?aF ?aB ?aS ?aL ?_; (case aR => repeat (first | exact (by repeat (first | (with_reducible exact HR196_0.out) | (with_reducible refine Kd.C_alloc ?_ _) | (with_reducible refine Kd.C_drewN ?_ _) | (with_reducible refine Kd.C_drew ?_) | exact HR196_0.out)) | (with_reducible refine Kd.C_alloc ?_ _) | (with_reducible refine Kd.C_drewN ?_ _) | (with_reducible refine Kd.C_drew ?_))); (case aB => exact HB.out); (case aF => exact (fun k_ hk => ⟨Kd.fresh' (Kd.R_lt HO_7.out) k_ hk, Kd.fresh' (Kd.R_lt HO_39.out) k_ hk, Kd.fresh' (Kd.R_lt HO_45.out) k_ hk, Kd.fresh' (Kd.R_lt HO_313.out) k_ hk, Kd.fresh' (Kd.R_lt HL196_0.out) k_ hk⟩)); (case aO => exact (by exact Kd.R_mono HO201.out (fun _ hk => ⟨hk.1.1.1.1.2, ⟨hk.1.1.1.2, ⟨hk.1.1.2, ⟨hk.1.2, hk.2⟩⟩⟩⟩))); (case aS => exact (below_size HB.out)); (case aL => have := LMc179.out; omega); intro v203 w187 ho hb hg hat; rw [← Ny202.out] at ho; have HO204 := Aside0.mk (ho); replace HO_7 := Aside0.mk (Kd.R_after (ok := (fun k_ => nb (.slice Ao165 t168.length co165) k_ ∧ nb (.slice Ao174 t191.length co174) k_)) HO_7.out hg hat); replace HO_11 := Aside0.mk (Kd.R_over' HO_11.out (Kd.R_typed HO201.out) (by decide) hg); replace HO_15 := Aside0.mk (Kd.R_over' HO_15.out (Kd.R_typed HO201.out) (by decide) hg); replace HO_23 := Aside0.mk (Kd.R_over' HO_23.out (Kd.R_typed HO201.out) (by decide) hg); replace HO_27 := Aside0.mk (Kd.R_over' HO_27.out (Kd.R_typed HO201.out) (by decide) hg); replace HO_31 := Aside0.mk (Kd.R_over' HO_31.out (Kd.R_typed HO201.out) (by decide) hg); replace HO_39 := Aside0.mk (Kd.R_after (ok := (fun k_ => nb (.slice (some ad174) t103.length co87) k_ ∧ nb (.slice Ao174 t191.length co174) k_ ∧ nb (.slice (some ad174) t103.length co87) k_)) HO_39.out hg hat); replace HO_43 := Aside0.mk (Kd.S_after (ok := (fun k_ => nb (.slice (some ad174) t103.length co87) k_ ∧ nb (.slice Ao165 t168.length co165) k_ ∧ nb (.slice Ao174 t191.length co174) k_ ∧ nb (.slice (some ad174) t103.length co87) k_)) HO_43.out hg hat); replace HO_45 := Aside0.mk (Kd.R_after (ok := (fun k_ => nb (.slice (some ad174) t103.length co87) k_ ∧ nb (.slice Ao165 t168.length co165) k_ ∧ nb (.slice (some ad174) t103.length co87) k_)) HO_45.out hg hat); replace HO_313 := Aside0.mk (Kd.R_after (ok := (fun k_ => nb (.slice Ao165 t168.length co165) k_ ∧ nb (.slice Ao174 t191.length co174) k_)) HO_313.out hg hat); replace HO_419 := Aside0.mk (Kd.S_after (ok := (fun k_ => nb (.slice (some ad174) t103.length co87) k_ ∧ nb (.slice Ao165 t168.length co165) k_ ∧ nb (.slice Ao174 t191.length co174) k_ ∧ nb (.slice (some ad174) t103.length co87) k_)) HO_419.out hg hat); replace BK101 := Aside0.mk (blk_grown (g := gb101) (o := .cells #[.int .i64 a0_0, .slice A0_1 l0_1.length c0_1] 26 (0, 0)) BK101.out hg (Kd.R_ne HO201.out BK101.out (by decide))); replace BK102 := Aside0.mk (blk_grown (g := gb102) (o := .cells #[.int .i64 a1_0, .slice A1_1 l1_1.length c1_1] 26 (0, 0)) BK102.out hg (Kd.R_ne HO201.out BK102.out (by decide))); replace BK130 := Aside0.mk (blk_grown (g := gb130) (o := .cells #[.int .i64 t127, .int .i64 t128] 60 (0, 0)) BK130.out hg (Kd.R_ne HO201.out BK130.out (by decide))); replace BK134 := Aside0.mk (blk_grown (g := gb134) (o := .cells #[.int .i64 t131, .int .i64 t132] 60 (0, 0)) BK134.out hg (Kd.R_ne HO201.out BK134.out (by decide))); replace HL196_0 := Aside0.mk (Kd.R_after (ok := (fun k_ => nb (.slice (some ad174) t103.length co87) k_ ∧ nb (.slice Ao165 t168.length co165) k_ ∧ nb (.slice Ao174 t191.length co174) k_ ∧ nb (.slice (some ad174) t103.length co87) k_ ∧ nb (.slice (some ad196) t187.length co173) k_)) (by exact Kd.R_mono HL196_0.out (fun _ hk => ⟨⟨hk.1.1.1, ⟨hk.1.1.2.1, ⟨hk.1.1.2.2.1, ⟨hk.1.1.2.2.2, hk.1.2⟩⟩⟩⟩, hk.2⟩)) hg hat); replace HB := Aside0.mk (hb); clear ho hb hg hat))
      refine loopT_ [F,F,F,F,F,F,F,F,F,F,F,F,F,F,F,F,F,F,F,F,F,F,F,F,F,F,F,F,F,F,F,F,F,F,F,F,F,F,F,F,F,F,F,F,F,F,F,F,F,F,F,F,T,F,F,F,F,F,F,F,F,F,F,F,F,F,F,F,F,F,F,F,F,F,F,F,F,F,F,F,F,F,F,F,F,F,F,F,F,F,F,F,F,F,F,F,F,F,F,F,F,F,F,F,F,F,F,F,F,F,F,F,F,F,F,F,F,F,F,F,F,F,F,F,F,F,F,F,F,F,F,F,F,F,F,F,F,F,F,F,F,F,F,F,F,F,F,F,F,F,F,F,F,F,F,F,F,F,F,F,F,F,F,F,F,F,F,F,F,F,F,F,F,F,F,F,F,F,F,F,F,F,F,F,F,F,F,F,F,F,F,F,F,F,F,F,F,F,F,F,F,F,F,F,F,F,F,F,F,F,F,F,F,F,F,F,F,F,F,F,F,F,F,F,F,F,F,F,F,F,F,F,F,F,F,F,F,F,F,F,F,F,F,F,F,F,F,F,F,F,F,F,F,F,F,F,F,F,F,F,F,F,F,F,F,F,F,F,F,F,F,F,F,F,F,F,F,F,F,F,F,F,F,F,F,F,F,F,F,F,F,F,F,F,F,F,F,F,F,F,F,F,F,F,F,F,F,F,F,F,F,F,F,F,F,F,F,F,F,F,F,F,F,F,F,F,F,F,F,F,F,F,F,F,F,F,F,F,F,F,F,F,F,F,F,F,F,F,F,F,F,F,F,F,F,F,F,F,F,F,F,F,F,F,F,F,F,F,F,F,F,F,F,F,F,F,F,F,F,F,F,F,F,F,F,F,F,F,F,F,F,F,F,F,F,F,F,F,F,F,F,F,F,F,F,F,F,F,F,F,F,F,F,F,F,F,F,F,F,F,F,F,F,F,F,F,F,F,F,F,F,F,F,F,F,T,T,T,T,T,T,T,T,T,T,T,T,T,T] k2 (fun kq_ T_ w_ => (fun kq v52 w' => ∃ (x52_3 : Int), v52 = .int .i64 x52_3 ∧ Aside0 (laws_FnSwingsToldOfAll.l2 kq a2 t103 t111 t119 t135 t143 t151 (l0_1.length : Int) ji104 t166 t168 x315_1 t187 t191 x421_2 (rd_L2 t187 x421_2) t197 t198 y202 x52_3 t103 (t103.length : Int) x315_1 t187 (t187.length : Int) x421_2 a0_0 l0_1 a1_0 l1_1 = some r) ∧ Aside0 (kq ≤ k2) ∧ Aside0 (Kd.R (Kd.int .i64) 3 w' w.heap.size (fun k_ => nb (.slice Ao165 t168.length co165) k_ ∧ nb (.slice Ao174 t191.length co174) k_ ∧ nb v203 k_) (.slice (some ad174) t103.length co87) t103) ∧ Aside0 (Kd.R k60 60 w' w.heap.size (fun k_ => nb (.slice (some ad177) t119.length co91) k_ ∧ nb (.slice (some ad180) t135.length co95) k_ ∧ nb (.slice (some ad182) t143.length co97) k_ ∧ nb (.slice (some ad184) t151.length co99) k_ ∧ k_ ≠ gb130 ∧ k_ ≠ gb134) (.slice (some ad175) t111.length co89) t111) ∧ Aside0 (Kd.R k60 60 w' w.heap.size (fun k_ => nb (.slice (some ad175) t111.length co89) k_ ∧ nb (.slice (some ad180) t135.length co95) k_ ∧ nb (.slice (some ad182) t143.length co97) k_ ∧ nb (.slice (some ad184) t151.length co99) k_ ∧ k_ ≠ gb130 ∧ k_ ≠ gb134) (.slice (some ad177) t119.length co91) t119) ∧ Aside0 (Kd.R k60 60 w' w.heap.size (fun k_ => nb (.slice (some ad175) t111.length co89) k_ ∧ nb (.slice (some ad177) t119.length co91) k_ ∧ nb (.slice (some ad182) t143.length co97) k_ ∧ nb (.slice (some ad184) t151.length co99) k_ ∧ k_ ≠ gb130 ∧ k_ ≠ gb134) (.slice (some ad180) t135.length co95) t135) ∧ Aside0 (Kd.R k60 60 w' w.heap.size (fun k_ => nb (.slice (some ad175) t111.length co89) k_ ∧ nb (.slice (some ad177) t119.length co91) k_ ∧ nb (.slice (some ad180) t135.length co95) k_ ∧ nb (.slice (some ad184) t151.length co99) k_ ∧ k_ ≠ gb130 ∧ k_ ≠ gb134) (.slice (some ad182) t143.length co97) t143) ∧ Aside0 (Kd.R k60 60 w' w.heap.size (fun k_ => nb (.slice (some ad175) t111.length co89) k_ ∧ nb (.slice (some ad177) t119.length co91) k_ ∧ nb (.slice (some ad180) t135.length co95) k_ ∧ nb (.slice (some ad182) t143.length co97) k_ ∧ k_ ≠ gb130 ∧ k_ ≠ gb134) (.slice (some ad184) t151.length co99) t151) ∧ Aside0 (Kd.R (Kd.int .i64) 3 w' w.heap.size (fun k_ => nb (.slice (some ad174) t103.length co87) k_ ∧ nb (.slice Ao174 t191.length co174) k_ ∧ nb v203 k_ ∧ nb (.slice (some ad174) t103.length co87) k_) (.slice Ao165 t168.length co165) t168) ∧ Aside0 (Kd.S (Kd.slice 3 (Kd.int .i64)) 24 w' w.heap.size (fun k_ => nb (.slice (some ad174) t103.length co87) k_ ∧ nb (.slice Ao165 t168.length co165) k_ ∧ nb (.slice Ao174 t191.length co174) k_ ∧ nb v203 k_ ∧ nb (.slice (some ad174) t103.length co87) k_) (.slice (some ad196) t187.length co173) t187) ∧ Aside0 (Kd.R (Kd.int .i64) 3 w' w.heap.size (fun k_ => nb (.slice (some ad174) t103.length co87) k_ ∧ nb (.slice Ao165 t168.length co165) k_ ∧ nb v203 k_ ∧ nb (.slice (some ad174) t103.length co87) k_) (.slice Ao174 t191.length co174) t191) ∧ Aside0 (Kd.R (Kd.int .i64) 3 w' w.heap.size (fun k_ => nb (.slice (some ad174) t103.length co87) k_ ∧ nb (.slice Ao165 t168.length co165) k_ ∧ nb (.slice Ao174 t191.length co174) k_ ∧ nb (.slice (some ad174) t103.length co87) k_) v203 y202) ∧ Aside0 (Kd.R (Kd.int .i64) 3 w' w.heap.size (fun k_ => nb (.slice Ao165 t168.length co165) k_ ∧ nb (.slice Ao174 t191.length co174) k_ ∧ nb v203 k_) (.slice (some ad174) t103.length co87) t103) ∧ Aside0 (Kd.S (Kd.slice 3 (Kd.int .i64)) 24 w' w.heap.size (fun k_ => nb (.slice (some ad174) t103.length co87) k_ ∧ nb (.slice Ao165 t168.length co165) k_ ∧ nb (.slice Ao174 t191.length co174) k_ ∧ nb v203 k_ ∧ nb (.slice (some ad174) t103.length co87) k_) (.slice (some ad196) t187.length co173) t187) ∧ Aside0 (Kd.R (Kd.int .i64) 3 w' w.heap.size (fun k_ => nb (.slice (some ad174) t103.length co87) k_ ∧ nb (.slice Ao165 t168.length co165) k_ ∧ nb (.slice Ao174 t191.length co174) k_ ∧ nb v203 k_ ∧ nb (.slice (some ad174) t103.length co87) k_) (.slice A196_0 (rd_L2 t187 x421_2).length c196_0) (rd_L2 t187 x421_2)) ∧ Aside0 (w'.heap[gb101]? = some (.cells #[.int .i64 a0_0, (.slice A0_1 l0_1.length c0_1)] 26 (0, 0))) ∧ Aside0 (w'.heap[gb102]? = some (.cells #[.int .i64 a1_0, (.slice A1_1 l1_1.length c1_1)] 26 (0, 0))) ∧ Aside0 (w'.heap[gb130]? = some (.cells #[.int .i64 t127, .int .i64 t128] 60 (0, 0))) ∧ Aside0 (w'.heap[gb134]? = some (.cells #[.int .i64 t131, .int .i64 t132] 60 (0, 0))) ∧ Aside0 (Below w.heap.size w w')) kq_ (T_ 52) w_) (by kernel_rfl) ?atStart ?round
      case atStart => exact ⟨(0), gR, H', ⟨Nat.le_refl _⟩, ⟨by exact Kd.R_mono HO_7.out (fun _ hk => by first | exact ⟨hk.1.1, ⟨hk.1.2, hk.2⟩⟩ | simp_all)⟩, ⟨by exact HO_11.out⟩, ⟨by exact HO_15.out⟩, ⟨by exact HO_23.out⟩, ⟨by exact HO_27.out⟩, ⟨by exact HO_31.out⟩, ⟨by exact Kd.R_mono HO_39.out (fun _ hk => by first | exact ⟨hk.1.1, ⟨hk.1.2.1, ⟨hk.2, hk.1.2.2⟩⟩⟩ | simp_all)⟩, ⟨by exact Kd.S_mono HO_43.out (fun _ hk => by first | exact ⟨hk.1.1, ⟨hk.1.2.1, ⟨hk.1.2.2.1, ⟨hk.2, hk.1.2.2.2⟩⟩⟩⟩ | simp_all)⟩, ⟨by exact Kd.R_mono HO_45.out (fun _ hk => by first | exact ⟨hk.1.1, ⟨hk.1.2.1, ⟨hk.2, hk.1.2.2⟩⟩⟩ | simp_all)⟩, ⟨by exact Kd.R_mono HO204.out (fun _ hk => by first | exact ⟨hk.1, ⟨hk.2.1, ⟨hk.2.2.1, hk.2.2.2.1⟩⟩⟩ | simp_all)⟩, ⟨by exact Kd.R_mono HO_313.out (fun _ hk => by first | exact ⟨hk.1.1, ⟨hk.1.2, hk.2⟩⟩ | simp_all)⟩, ⟨by exact Kd.S_mono HO_419.out (fun _ hk => by first | exact ⟨hk.1.1, ⟨hk.1.2.1, ⟨hk.1.2.2.1, ⟨hk.2, hk.1.2.2.2⟩⟩⟩⟩ | simp_all)⟩, ⟨by exact Kd.R_mono HL196_0.out (fun _ hk => by first | exact ⟨hk.1.1, ⟨hk.1.2.1, ⟨hk.1.2.2.1, ⟨hk.2, hk.1.2.2.2⟩⟩⟩⟩ | simp_all)⟩, ⟨by exact BK101.out⟩, ⟨by exact BK102.out⟩, ⟨by exact BK130.out⟩, ⟨by exact BK134.out⟩, ⟨wB⟩⟩
      case round => as_aux_lemma =>
       intro gk T_ wr hrel J_ K_ hJ_l2 hM_
       simp only [putT, putM, T, F, Nat.reduceAdd]
       (try dsimp only at hrel)
       generalize T_ 52 = u52 at hrel ⊢
       clear H'
       (try clear c1); (try clear p1); (try clear q1); (try clear hx1); (try clear p2); (try clear p6); (try clear c7); (try clear c12); (try clear c16); (try clear c17); (try clear c18); (try clear c19); (try clear p19); (try clear q19); (try clear hx19); (try clear p64); (try clear c72); (try clear c74); (try clear c75); (try clear c76); (try clear c166); (try clear c167); (try clear c168); (try clear c175); (try clear c175b0); (try clear c176); (try clear c176b0); (try clear c177); (try clear c177b0); (try clear c179); (try clear c180); (try clear c181); (try clear c182); (try clear hcz171_0); (try clear hcz171_1); (try clear hcz183_0); (try clear hcz183_1); (try clear hfz171_0); (try clear hfz171_1); (try clear hfz183_0); (try clear hfz183_1); (try clear hx196_0); (try clear p196); (try clear p2); (try clear p6); (try clear p64); (try clear q196)
       obtain ⟨x52_3, rfl, HA, HK3, HO_7, HO_11, HO_15, HO_23, HO_27, HO_31, HO_39, HO_43, HO_45, HO_51, HO_313, HO_419, HL196_0, BK101, BK102, BK130, BK134, HB⟩ := hrel
       cases gk with
       | zero => exact absurd HA.out (by simp [laws_FnSwingsToldOfAll.l2])
       | succ k3 =>
        have H := HA.out
        clear HA
        simp only [laws_FnSwingsToldOfAll.l2] at H
        have HC188 := Aside0.mk H
        clear H
        go_upto_region 39 with (fail)
        refine cutT_ [F,F,F,F,F,F,F,F,F,F,F,F,F,F,F,F,F,F,F,F,F,F,F,F,F,F,F,F,F,F,F,F,F,F,F,F,F,F,F,F,F,F,F,F,F,F,F,F,F,F,F,F,F,F,F,F,F,F,F,F,F,F,F,F,F,F,F,F,F,F,F,F,F,F,F,F,F,F,F,F,F,F,F,F,F,F,F,F,F,F,F,F,F,F,F,F,F,F,F,F,F,F,F,F,F,F,F,F,F,F,F,F,F,F,F,F,F,F,F,F,F,F,F,F,F,F,F,F,F,F,F,F,F,F,F,F,F,F,F,F,F,F,F,F,F,F,F,F,F,F,F,F,F,F,F,F,F,F,F,F,F,F,F,F,F,F,F,F,F,F,F,F,F,F,F,F,F,F,F,F,F,F,F,F,F,F,F,F,F,F,F,F,F,F,F,F,F,F,F,F,F,F,F,F,F,F,F,F,F,F,F,F,F,F,F,F,F,F,F,F,F,F,F,F,F,F,F,F,F,F,F,F,F,F,F,F,F,F,F,F,F,F,F,F,F,F,F,F,F,F,F,F,F,F,F,F,F,F,F,F,F,F,F,F,F,F,F,F,F,F,F,F,F,F,F,F,F,F,F,F,F,F,F,F,F,F,F,F,F,F,F,F,F,F,F,F,F,F,F,F,F,F,F,F,F,F,F,F,F,F,F,F,F,F,F,F,F,F,F,F,F,F,F,F,F,F,F,F,F,F,F,F,F,F,F,F,F,F,F,F,F,F,F,F,F,F,F,F,F,F,F,F,F,F,F,F,F,F,F,F,F,F,F,F,F,F,F,F,F,F,F,F,F,F,F,F,F,F,F,F,F,F,F,F,F,F,F,F,F,F,F,F,F,F,F,F,F,F,F,F,F,F,F,F,F,F,F,F,F,F,F,F,F,F,F,F,F,F,F,F,F,F,F,F,F,F,F,F,F,F,F,F,F,F,F,T,T,T,T,T,T,T,T,T,T,T,T] (fun T_ wc_ => (fun v446 wc => ∃ (kq : Nat) (x446_187 : Bool), v446 = .bool x446_187 ∧ Aside0 (laws_FnSwingsToldOfAll.j3 kq a2 t103 t111 t119 t135 t143 t151 (l0_1.length : Int) ji104 t166 t168 x315_1 t187 t191 x421_2 (rd_L2 t187 x421_2) t197 t198 y202 x52_3 t103 (t103.length : Int) x315_1 t187 (t187.length : Int) x421_2 x446_187 a0_0 l0_1 a1_0 l1_1 = some r) ∧ Aside0 (kq ≤ k3) ∧ Aside0 (Kd.R (Kd.int .i64) 3 wc w.heap.size (fun k_ => nb (.slice Ao165 t168.length co165) k_ ∧ nb (.slice Ao174 t191.length co174) k_ ∧ nb v203 k_) (.slice (some ad174) t103.length co87) t103) ∧ Aside0 (Kd.R k60 60 wc w.heap.size (fun k_ => nb (.slice (some ad177) t119.length co91) k_ ∧ nb (.slice (some ad180) t135.length co95) k_ ∧ nb (.slice (some ad182) t143.length co97) k_ ∧ nb (.slice (some ad184) t151.length co99) k_ ∧ k_ ≠ gb130 ∧ k_ ≠ gb134) (.slice (some ad175) t111.length co89) t111) ∧ Aside0 (Kd.R k60 60 wc w.heap.size (fun k_ => nb (.slice (some ad175) t111.length co89) k_ ∧ nb (.slice (some ad180) t135.length co95) k_ ∧ nb (.slice (some ad182) t143.length co97) k_ ∧ nb (.slice (some ad184) t151.length co99) k_ ∧ k_ ≠ gb130 ∧ k_ ≠ gb134) (.slice (some ad177) t119.length co91) t119) ∧ Aside0 (Kd.R k60 60 wc w.heap.size (fun k_ => nb (.slice (some ad175) t111.length co89) k_ ∧ nb (.slice (some ad177) t119.length co91) k_ ∧ nb (.slice (some ad182) t143.length co97) k_ ∧ nb (.slice (some ad184) t151.length co99) k_ ∧ k_ ≠ gb130 ∧ k_ ≠ gb134) (.slice (some ad180) t135.length co95) t135) ∧ Aside0 (Kd.R k60 60 wc w.heap.size (fun k_ => nb (.slice (some ad175) t111.length co89) k_ ∧ nb (.slice (some ad177) t119.length co91) k_ ∧ nb (.slice (some ad180) t135.length co95) k_ ∧ nb (.slice (some ad184) t151.length co99) k_ ∧ k_ ≠ gb130 ∧ k_ ≠ gb134) (.slice (some ad182) t143.length co97) t143) ∧ Aside0 (Kd.R k60 60 wc w.heap.size (fun k_ => nb (.slice (some ad175) t111.length co89) k_ ∧ nb (.slice (some ad177) t119.length co91) k_ ∧ nb (.slice (some ad180) t135.length co95) k_ ∧ nb (.slice (some ad182) t143.length co97) k_ ∧ k_ ≠ gb130 ∧ k_ ≠ gb134) (.slice (some ad184) t151.length co99) t151) ∧ Aside0 (Kd.R (Kd.int .i64) 3 wc w.heap.size (fun k_ => nb (.slice (some ad174) t103.length co87) k_ ∧ nb (.slice Ao174 t191.length co174) k_ ∧ nb v203 k_ ∧ nb (.slice (some ad174) t103.length co87) k_) (.slice Ao165 t168.length co165) t168) ∧ Aside0 (Kd.S (Kd.slice 3 (Kd.int .i64)) 24 wc w.heap.size (fun k_ => nb (.slice (some ad174) t103.length co87) k_ ∧ nb (.slice Ao165 t168.length co165) k_ ∧ nb (.slice Ao174 t191.length co174) k_ ∧ nb v203 k_ ∧ nb (.slice (some ad174) t103.length co87) k_) (.slice (some ad196) t187.length co173) t187) ∧ Aside0 (Kd.R (Kd.int .i64) 3 wc w.heap.size (fun k_ => nb (.slice (some ad174) t103.length co87) k_ ∧ nb (.slice Ao165 t168.length co165) k_ ∧ nb v203 k_ ∧ nb (.slice (some ad174) t103.length co87) k_) (.slice Ao174 t191.length co174) t191) ∧ Aside0 (Kd.R (Kd.int .i64) 3 wc w.heap.size (fun k_ => nb (.slice (some ad174) t103.length co87) k_ ∧ nb (.slice Ao165 t168.length co165) k_ ∧ nb (.slice Ao174 t191.length co174) k_ ∧ nb (.slice (some ad174) t103.length co87) k_) v203 y202) ∧ Aside0 (Kd.R (Kd.int .i64) 3 wc w.heap.size (fun k_ => nb (.slice Ao165 t168.length co165) k_ ∧ nb (.slice Ao174 t191.length co174) k_ ∧ nb v203 k_) (.slice (some ad174) t103.length co87) t103) ∧ Aside0 (Kd.S (Kd.slice 3 (Kd.int .i64)) 24 wc w.heap.size (fun k_ => nb (.slice (some ad174) t103.length co87) k_ ∧ nb (.slice Ao165 t168.length co165) k_ ∧ nb (.slice Ao174 t191.length co174) k_ ∧ nb v203 k_ ∧ nb (.slice (some ad174) t103.length co87) k_) (.slice (some ad196) t187.length co173) t187) ∧ Aside0 (Kd.R (Kd.int .i64) 3 wc w.heap.size (fun k_ => nb (.slice (some ad174) t103.length co87) k_ ∧ nb (.slice Ao165 t168.length co165) k_ ∧ nb (.slice Ao174 t191.length co174) k_ ∧ nb v203 k_ ∧ nb (.slice (some ad174) t103.length co87) k_) (.slice A196_0 (rd_L2 t187 x421_2).length c196_0) (rd_L2 t187 x421_2)) ∧ Aside0 (wc.heap[gb101]? = some (.cells #[.int .i64 a0_0, (.slice A0_1 l0_1.length c0_1)] 26 (0, 0))) ∧ Aside0 (wc.heap[gb102]? = some (.cells #[.int .i64 a1_0, (.slice A1_1 l1_1.length c1_1)] 26 (0, 0))) ∧ Aside0 (wc.heap[gb130]? = some (.cells #[.int .i64 t127, .int .i64 t128] 60 (0, 0))) ∧ Aside0 (wc.heap[gb134]? = some (.cells #[.int .i64 t131, .int .i64 t132] 60 (0, 0))) ∧ Aside0 (Below w.heap.size w wc)) (T_ 446) wc_) ?restj3 ?firstj3
        case firstj3 => as_aux_lemma =>
         intro J_ K_ hJ_j3 hM_
         have H := HC188.out
         clear HC188
         by_cases c189 : x52_3 < (y202.length : Int)
         rotate_left
         ·rw [if_neg c189] at H
          have c189b0 : decide (x52_3 < (y202.length : Int)) = false := decide_eq_false c189
          clear c189
          (first | rw [c189b0] | (simp only [i64_w, i32_w]; rw [c189b0]) | skip)
          as_aux_lemma =>
           have H' := Aside0.mk H
           clear H
           obtain ⟨Ao192, co192, eo192⟩ := Kd.R_slice HO_51.out
           subst eo192
           go_wp2
           refine meetT_ hJ_j3 (by kernel_rfl) ?rel
           case rel => exact ⟨_, (false), gR, H', ⟨by have := HK1.out; have := HK2.out; have := HK3.out; first | omega | exact Nat.le_refl _⟩, ⟨by exact HO_7.out⟩, ⟨by exact HO_11.out⟩, ⟨by exact HO_15.out⟩, ⟨by exact HO_23.out⟩, ⟨by exact HO_27.out⟩, ⟨by exact HO_31.out⟩, ⟨by exact HO_39.out⟩, ⟨by exact HO_43.out⟩, ⟨by exact HO_45.out⟩, ⟨by exact HO_51.out⟩, ⟨by exact HO_313.out⟩, ⟨by exact HO_419.out⟩, ⟨by exact HL196_0.out⟩, ⟨by exact BK101.out⟩, ⟨by exact BK102.out⟩, ⟨by exact BK130.out⟩, ⟨by exact BK134.out⟩, ⟨wB⟩⟩
         rw [if_pos c189] at H
         have c189b0 := decide_eq_true c189
         clear c189
         (first | rw [c189b0] | (simp only [i64_w, i32_w]; rw [c189b0]) | skip)
         replace H := ite_yes H
         obtain ⟨c190, H⟩ := H
         have c190b0 : decide (0 ≤ x52_3) = true := decide_eq_true c190
         clear c190
         as_aux_lemma =>
          have H' := Aside0.mk H
          clear H
          obtain ⟨Ao191, co191, eo191⟩ := Kd.R_slice HO_51.out
          subst eo191
          have p205 : 0 ≤ (x52_3 : Int) := oD
          have q205 : x52_3 < (y202.length : Int) := oD
          obtain ⟨ad205, e205, hx205_0⟩ := Kd.at_int (Kd.R_reads' HO_51.out).2.2 x52_3 p205 q205
          cases e205
          replace p205 := eq_true p205
          replace q205 := eq_true q205
          go_wp2
          refine meetT_ hJ_j3 (by kernel_rfl) ?rel
          case rel => exact ⟨_, (decide ((rd y202 x52_3) < x315_1)), gR, H', ⟨by have := HK1.out; have := HK2.out; have := HK3.out; first | omega | exact Nat.le_refl _⟩, ⟨by exact HO_7.out⟩, ⟨by exact HO_11.out⟩, ⟨by exact HO_15.out⟩, ⟨by exact HO_23.out⟩, ⟨by exact HO_27.out⟩, ⟨by exact HO_31.out⟩, ⟨by exact HO_39.out⟩, ⟨by exact HO_43.out⟩, ⟨by exact HO_45.out⟩, ⟨by exact HO_51.out⟩, ⟨by exact HO_313.out⟩, ⟨by exact HO_419.out⟩, ⟨by exact HL196_0.out⟩, ⟨by exact BK101.out⟩, ⟨by exact BK102.out⟩, ⟨by exact BK130.out⟩, ⟨by exact BK134.out⟩, ⟨wB⟩⟩
        case restj3 => as_aux_lemma =>
         intro T_ wc hcut
         simp only [putT, putM, T, F, Nat.reduceAdd]
         (try dsimp only at hcut)
         generalize T_ 446 = u446 at hcut ⊢
         clear HC188
         (try clear c1); (try clear p1); (try clear q1); (try clear hx1); (try clear p2); (try clear q2); (try clear hx2); (try clear p6); (try clear c7); (try clear c12); (try clear c16); (try clear c17); (try clear c18); (try clear c19); (try clear p19); (try clear q19); (try clear hx19); (try clear p20); (try clear q20); (try clear hx20); (try clear p64); (try clear c72); (try clear c74); (try clear c75); (try clear c76); (try clear c166); (try clear c167); (try clear c168); (try clear c175); (try clear c175b0); (try clear c176); (try clear c176b0); (try clear c177); (try clear c177b0); (try clear c179); (try clear c180); (try clear c181); (try clear c182); (try clear c189); (try clear c189b0); (try clear c190); (try clear c190b0); (try clear hcz171_0); (try clear hcz171_1); (try clear hcz183_0); (try clear hcz183_1); (try clear hfz171_0); (try clear hfz171_1); (try clear hfz183_0); (try clear hfz183_1); (try clear hx196_0); (try clear hx205_0); (try clear p1); (try clear p19); (try clear p196); (try clear p2); (try clear p205); (try clear p6); (try clear p64); (try clear q1); (try clear q19); (try clear q196); (try clear q205)
         obtain ⟨kq, x446_187, rfl, HA, HJ187, HO_7, HO_11, HO_15, HO_23, HO_27, HO_31, HO_39, HO_43, HO_45, HO_51, HO_313, HO_419, HL196_0, BK101, BK102, BK130, BK134, HB⟩ := hcut
         cases kq with
         | zero => exact absurd HA.out (by simp [laws_FnSwingsToldOfAll.j3])
         | succ kj187 =>
          have H := HA.out
          clear HA
          simp only [laws_FnSwingsToldOfAll.j3] at H
          by_cases c193 : x446_187 = true
          ·subst c193
           replace H := iT H
           as_aux_lemma =>
            have H' := Aside0.mk H
            clear H
            go_wp2
            refine roundT_ kj187 ?measure hJ_l2 (by kernel_rfl) ?rel
            case measure => have := HK1.out; have := HK2.out; have := HK3.out; have := HJ187.out; omega
            case rel => exact ⟨(wrap64 (x52_3 + 1)), gR, H', ⟨by have := HK1.out; have := HK2.out; have := HK3.out; have := HJ187.out; omega⟩, ⟨by exact HO_7.out⟩, ⟨by exact HO_11.out⟩, ⟨by exact HO_15.out⟩, ⟨by exact HO_23.out⟩, ⟨by exact HO_27.out⟩, ⟨by exact HO_31.out⟩, ⟨by exact HO_39.out⟩, ⟨by exact HO_43.out⟩, ⟨by exact HO_45.out⟩, ⟨by exact HO_51.out⟩, ⟨by exact HO_313.out⟩, ⟨by exact HO_419.out⟩, ⟨by exact HL196_0.out⟩, ⟨by exact BK101.out⟩, ⟨by exact BK102.out⟩, ⟨by exact BK130.out⟩, ⟨by exact BK134.out⟩, ⟨wB⟩⟩
          replace c193 := Bool.eq_false_iff.mpr c193
          subst c193
          replace H := iF H
          obtain ⟨y206, hy206⟩ : ∃ y_ : List Int, y_ = (([] : List Int)) := ⟨_, rfl⟩
          replace H : (if 0 ≤ x52_3 then (if x52_3 ≤ ((rd_L2 t187 x421_2).length : Int) then (if y206.length + ((rd_L2 t187 x421_2).take (x52_3 : Int).toNat).length < 17592186044416 then ((some (y206 ++ ((rd_L2 t187 x421_2).take (x52_3 : Int).toNat) : List Int)).bind fun y210 => ((some (([x315_1] : List Int) : List Int)).bind fun y213 => (if y210.length + y213.length < 17592186044416 then ((some (y210 ++ y213 : List Int)).bind fun y216 => (if y216.length + ((rd_L2 t187 x421_2).drop (x52_3 : Int).toNat).length < 17592186044416 then ((impl_IsWinning.f kj187 a0_0 l0_1 (y216 ++ ((rd_L2 t187 x421_2).drop (x52_3 : Int).toNat))).bind fun bt223 => (if t198 = true then (if t197 = true then (none) else ((laws_zHas.f kj187 (rd_L2 t187 x421_2) x315_1).bind fun t225 => (if t225 = true then (none) else (if bt223.2 = true then (if bt223.1 = true then (if 0 ≤ ((rd_L2 t187 x421_2).length : Int) then (if ((rd_L2 t187 x421_2).length : Int) < (t191.length : Int) then (if (rd t191 ((rd_L2 t187 x421_2).length : Int)) < 1 then (none) else (if x421_2 > 0 then (if 0 ≤ (wrap64 (x421_2 - 1)) then (if (wrap64 (x421_2 - 1)) < (t187.length : Int) then ((laws_zLess.f kj187 (rd_L2 t187 (wrap64 (x421_2 - 1))) (rd_L2 t187 x421_2)).bind fun t228 => (laws_FnSwingsToldOfAll.j4 kj187 a2 t103 t111 t119 t135 t143 t151 (l0_1.length : Int) ji104 t166 t168 x315_1 t187 t191 t103 (t103.length : Int) x315_1 t187 (t187.length : Int) x421_2 (!t228) a0_0 l0_1 a1_0 l1_1)) else (none)) else (none)) else (laws_FnSwingsToldOfAll.j4 kj187 a2 t103 t111 t119 t135 t143 t151 (l0_1.length : Int) ji104 t166 t168 x315_1 t187 t191 t103 (t103.length : Int) x315_1 t187 (t187.length : Int) x421_2 false a0_0 l0_1 a1_0 l1_1))) else (none)) else (none)) else (none)) else (none))))) else (none))) else (none))) else (none)))) else (none)) else (none)) else (none)) = some r := by first | (rw [hy206]; with_reducible exact H) | (have H2_ := (Option.bind_some _ _).symm.trans H; rw [hy206]; with_reducible exact H2_) | (have H2_ := (Option.bind_some _ _).symm.trans H; with_reducible exact H2_) | with_reducible exact H | (rw [hy206]; exact H) | exact H
          have Ny206 := Aside0.mk hy206
          clear hy206
          replace H := ite_yes H
          obtain ⟨c194, H⟩ := H
          have c194b0 := eq_true c194
          have c194b1 : decide (0 ≤ x52_3) = true := decide_eq_true c194
          clear c194
          replace H := ite_yes H
          obtain ⟨c195, H⟩ := H
          have c195b0 := eq_true c195
          have c195b1 : decide (x52_3 ≤ ((rd_L2 t187 x421_2).length : Int)) = true := decide_eq_true c195
          clear c195
          replace H := ite_yes H
          obtain ⟨c196, H⟩ := H
          have LMc196 := Aside0.mk c196
          clear c196
          obtain ⟨y210, hy210⟩ : ∃ y_ : List Int, y_ = (y206 ++ ((rd_L2 t187 x421_2).take (x52_3 : Int).toNat)) := ⟨_, rfl⟩
          replace H : ((some (([x315_1] : List Int) : List Int)).bind fun y213 => (if y210.length + y213.length < 17592186044416 then ((some (y210 ++ y213 : List Int)).bind fun y216 => (if y216.length + ((rd_L2 t187 x421_2).drop (x52_3 : Int).toNat).length < 17592186044416 then ((impl_IsWinning.f kj187 a0_0 l0_1 (y216 ++ ((rd_L2 t187 x421_2).drop (x52_3 : Int).toNat))).bind fun bt223 => (if t198 = true then (if t197 = true then (none) else ((laws_zHas.f kj187 (rd_L2 t187 x421_2) x315_1).bind fun t225 => (if t225 = true then (none) else (if bt223.2 = true then (if bt223.1 = true then (if 0 ≤ ((rd_L2 t187 x421_2).length : Int) then (if ((rd_L2 t187 x421_2).length : Int) < (t191.length : Int) then (if (rd t191 ((rd_L2 t187 x421_2).length : Int)) < 1 then (none) else (if x421_2 > 0 then (if 0 ≤ (wrap64 (x421_2 - 1)) then (if (wrap64 (x421_2 - 1)) < (t187.length : Int) then ((laws_zLess.f kj187 (rd_L2 t187 (wrap64 (x421_2 - 1))) (rd_L2 t187 x421_2)).bind fun t228 => (laws_FnSwingsToldOfAll.j4 kj187 a2 t103 t111 t119 t135 t143 t151 (l0_1.length : Int) ji104 t166 t168 x315_1 t187 t191 t103 (t103.length : Int) x315_1 t187 (t187.length : Int) x421_2 (!t228) a0_0 l0_1 a1_0 l1_1)) else (none)) else (none)) else (laws_FnSwingsToldOfAll.j4 kj187 a2 t103 t111 t119 t135 t143 t151 (l0_1.length : Int) ji104 t166 t168 x315_1 t187 t191 t103 (t103.length : Int) x315_1 t187 (t187.length : Int) x421_2 false a0_0 l0_1 a1_0 l1_1))) else (none)) else (none)) else (none)) else (none))))) else (none))) else (none))) else (none))) = some r := by first | (rw [hy210]; with_reducible exact H) | (have H2_ := (Option.bind_some _ _).symm.trans H; rw [hy210]; with_reducible exact H2_) | (have H2_ := (Option.bind_some _ _).symm.trans H; with_reducible exact H2_) | with_reducible exact H | (rw [hy210]; exact H) | exact H
          have Ny210 := Aside0.mk hy210
          clear hy210
          obtain ⟨y213, hy213⟩ : ∃ y_ : List Int, y_ = (([x315_1] : List Int)) := ⟨_, rfl⟩
          replace H : (if y210.length + y213.length < 17592186044416 then ((some (y210 ++ y213 : List Int)).bind fun y216 => (if y216.length + ((rd_L2 t187 x421_2).drop (x52_3 : Int).toNat).length < 17592186044416 then ((impl_IsWinning.f kj187 a0_0 l0_1 (y216 ++ ((rd_L2 t187 x421_2).drop (x52_3 : Int).toNat))).bind fun bt223 => (if t198 = true then (if t197 = true then (none) else ((laws_zHas.f kj187 (rd_L2 t187 x421_2) x315_1).bind fun t225 => (if t225 = true then (none) else (if bt223.2 = true then (if bt223.1 = true then (if 0 ≤ ((rd_L2 t187 x421_2).length : Int) then (if ((rd_L2 t187 x421_2).length : Int) < (t191.length : Int) then (if (rd t191 ((rd_L2 t187 x421_2).length : Int)) < 1 then (none) else (if x421_2 > 0 then (if 0 ≤ (wrap64 (x421_2 - 1)) then (if (wrap64 (x421_2 - 1)) < (t187.length : Int) then ((laws_zLess.f kj187 (rd_L2 t187 (wrap64 (x421_2 - 1))) (rd_L2 t187 x421_2)).bind fun t228 => (laws_FnSwingsToldOfAll.j4 kj187 a2 t103 t111 t119 t135 t143 t151 (l0_1.length : Int) ji104 t166 t168 x315_1 t187 t191 t103 (t103.length : Int) x315_1 t187 (t187.length : Int) x421_2 (!t228) a0_0 l0_1 a1_0 l1_1)) else (none)) else (none)) else (laws_FnSwingsToldOfAll.j4 kj187 a2 t103 t111 t119 t135 t143 t151 (l0_1.length : Int) ji104 t166 t168 x315_1 t187 t191 t103 (t103.length : Int) x315_1 t187 (t187.length : Int) x421_2 false a0_0 l0_1 a1_0 l1_1))) else (none)) else (none)) else (none)) else (none))))) else (none))) else (none))) else (none)) = some r := by first | (rw [hy213]; with_reducible exact H) | (have H2_ := (Option.bind_some _ _).symm.trans H; rw [hy213]; with_reducible exact H2_) | (have H2_ := (Option.bind_some _ _).symm.trans H; with_reducible exact H2_) | with_reducible exact H | (rw [hy213]; exact H) | exact H
          have Ny213 := Aside0.mk hy213
          clear hy213
          replace H := ite_yes H
          obtain ⟨c197, H⟩ := H
          have LMc197 := Aside0.mk c197
          clear c197
          obtain ⟨y216, hy216⟩ : ∃ y_ : List Int, y_ = (y210 ++ y213) := ⟨_, rfl⟩
          replace H : (if y216.length + ((rd_L2 t187 x421_2).drop (x52_3 : Int).toNat).length < 17592186044416 then ((impl_IsWinning.f kj187 a0_0 l0_1 (y216 ++ ((rd_L2 t187 x421_2).drop (x52_3 : Int).toNat))).bind fun bt223 => (if t198 = true then (if t197 = true then (none) else ((laws_zHas.f kj187 (rd_L2 t187 x421_2) x315_1).bind fun t225 => (if t225 = true then (none) else (if bt223.2 = true then (if bt223.1 = true then (if 0 ≤ ((rd_L2 t187 x421_2).length : Int) then (if ((rd_L2 t187 x421_2).length : Int) < (t191.length : Int) then (if (rd t191 ((rd_L2 t187 x421_2).length : Int)) < 1 then (none) else (if x421_2 > 0 then (if 0 ≤ (wrap64 (x421_2 - 1)) then (if (wrap64 (x421_2 - 1)) < (t187.length : Int) then ((laws_zLess.f kj187 (rd_L2 t187 (wrap64 (x421_2 - 1))) (rd_L2 t187 x421_2)).bind fun t228 => (laws_FnSwingsToldOfAll.j4 kj187 a2 t103 t111 t119 t135 t143 t151 (l0_1.length : Int) ji104 t166 t168 x315_1 t187 t191 t103 (t103.length : Int) x315_1 t187 (t187.length : Int) x421_2 (!t228) a0_0 l0_1 a1_0 l1_1)) else (none)) else (none)) else (laws_FnSwingsToldOfAll.j4 kj187 a2 t103 t111 t119 t135 t143 t151 (l0_1.length : Int) ji104 t166 t168 x315_1 t187 t191 t103 (t103.length : Int) x315_1 t187 (t187.length : Int) x421_2 false a0_0 l0_1 a1_0 l1_1))) else (none)) else (none)) else (none)) else (none))))) else (none))) else (none)) = some r := by first | (rw [hy216]; with_reducible exact H) | (have H2_ := (Option.bind_some _ _).symm.trans H; rw [hy216]; with_reducible exact H2_) | (have H2_ := (Option.bind_some _ _).symm.trans H; with_reducible exact H2_) | with_reducible exact H | (rw [hy216]; exact H) | exact H
          have Ny216 := Aside0.mk hy216
          clear hy216
          have c198b0 := eq_true (oD : 0 ≤ x52_3)
          have c199b0 := eq_true (oD : x52_3 ≤ ((rd_L2 t187 x421_2).length : Int))
          replace H := ite_yes H
          obtain ⟨c200, H⟩ := H
          have LMc200 := Aside0.mk c200
          clear c200
          obtain ⟨y220, hy220⟩ : ∃ y_ : List Int, y_ = (y216 ++ ((rd_L2 t187 x421_2).drop (x52_3 : Int).toNat)) := ⟨_, rfl⟩
          replace H : ((impl_IsWinning.f kj187 a0_0 l0_1 y220).bind fun bt223 => (if t198 = true then (if t197 = true then (none) else ((laws_zHas.f kj187 (rd_L2 t187 x421_2) x315_1).bind fun t225 => (if t225 = true then (none) else (if bt223.2 = true then (if bt223.1 = true then (if 0 ≤ ((rd_L2 t187 x421_2).length : Int) then (if ((rd_L2 t187 x421_2).length : Int) < (t191.length : Int) then (if (rd t191 ((rd_L2 t187 x421_2).length : Int)) < 1 then (none) else (if x421_2 > 0 then (if 0 ≤ (wrap64 (x421_2 - 1)) then (if (wrap64 (x421_2 - 1)) < (t187.length : Int) then ((laws_zLess.f kj187 (rd_L2 t187 (wrap64 (x421_2 - 1))) (rd_L2 t187 x421_2)).bind fun t228 => (laws_FnSwingsToldOfAll.j4 kj187 a2 t103 t111 t119 t135 t143 t151 (l0_1.length : Int) ji104 t166 t168 x315_1 t187 t191 t103 (t103.length : Int) x315_1 t187 (t187.length : Int) x421_2 (!t228) a0_0 l0_1 a1_0 l1_1)) else (none)) else (none)) else (laws_FnSwingsToldOfAll.j4 kj187 a2 t103 t111 t119 t135 t143 t151 (l0_1.length : Int) ji104 t166 t168 x315_1 t187 t191 t103 (t103.length : Int) x315_1 t187 (t187.length : Int) x421_2 false a0_0 l0_1 a1_0 l1_1))) else (none)) else (none)) else (none)) else (none))))) else (none))) = some r := by first | (rw [hy220]; with_reducible exact H) | (have H2_ := (Option.bind_some _ _).symm.trans H; rw [hy220]; with_reducible exact H2_) | (have H2_ := (Option.bind_some _ _).symm.trans H; with_reducible exact H2_) | with_reducible exact H | (rw [hy220]; exact H) | exact H
          have Ny220 := Aside0.mk hy220
          clear hy220
          replace H := oB H
          obtain ⟨⟨t223, t224⟩, A2010, H⟩ := H
          (try dsimp only at H)
          have A201 := Aside0.mk A2010
          clear A2010
          have HC202 := Aside0.mk H
          clear H
          try go_wp2
          replace HO_7 := rD HO_7
          replace HO_11 := rD HO_11
          replace HO_15 := rD HO_15
          replace HO_23 := rD HO_23
          replace HO_27 := rD HO_27
          replace HO_31 := rD HO_31
          replace HO_39 := rD HO_39
          replace HO_43 := Aside0.mk (Kd.S_drew HO_43.out)
          replace HO_45 := rD HO_45
          replace HO_51 := rD HO_51
          replace HO_313 := rD HO_313
          replace HO_419 := Aside0.mk (Kd.S_drew HO_419.out)
          replace HL196_0 := Aside0.mk (Kd.R_drew HL196_0.out)
          replace BK101 := bD BK101
          replace BK102 := bD BK102
          replace BK130 := bD BK130
          replace BK134 := bD BK134
          replace HB := Aside0.mk (below_drew1 HB.out)
          obtain ⟨i0204, hi0204, _, hsz204, _⟩ := info_parts info3
          obtain ⟨hcut204, hA204, hC204⟩ := print_take_of (P := Tryz.prog) (Value.int .i64) 0 24 3 .i64 Tryz.underlying24 hi0204 hsz204 A196_0 c196_0 (rd_L2 t187 x421_2) x52_3 (oD) (oD) HC196_0.out
          have HR209 := Aside0.mk (Kd.C_of_reads (h1 := fun _ => rfl) (hA204 _ (Kd.reads_of_C (Kd.R_reads' HL196_0.out).2.2)))
          have HC209 := Aside0.mk hC204
          clear hC204 hi0204 hsz204
          obtain ⟨i0205, hi0205, _, hsz205, _⟩ := info_parts info3
          obtain ⟨A205, hcut205, hA205, hC205⟩ := print_drop_of (P := Tryz.prog) (Value.int .i64) 0 24 3 .i64 Tryz.underlying24 hi0205 hsz205 A196_0 c196_0 (rd_L2 t187 x421_2) x52_3 (oD) (oD) HC196_0.out
          have HR219 := Aside0.mk (Kd.C_of_reads (h1 := fun _ => rfl) (hA205 _ (Kd.reads_of_C (Kd.R_reads' HL196_0.out).2.2)))
          have HC219 := Aside0.mk hC205
          clear hC205 hi0205 hsz205
          refine start_ (n := 13) (S := fun w' => True) (ds := []) #[F,F,F,F,F,F,F,F,F,F,F,F,F] (by kernel_rfl) rfl rfl trivial (fun hHeld => ?_); refine with_tabW laws_FnSwingsToldOfAll.tab41 laws_FnSwingsToldOfAll.bits41 (fun HT_ HW_ => ?_)
          generalize wc.drew = w203 at HO_7 HO_11 HO_15 HO_23 HO_27 HO_31 HO_39 HO_43 HO_45 HO_51 HO_313 HO_419 HL196_0 BK101 BK102 BK130 BK134 HB HR209 HR219 hHeld ⊢
          refine pU 1 HT_ ?_
          refine pU 2 HT_ ?_
          refine pU 3 HT_ ?_
          refine pU 5 HT_ ?_
          refine pU 8 HT_ ?_
          refine pU 9 HT_ ?_
          refine pU 10 HT_ ?_
          refine join_ (σ := Value × Value × Value) 3 #[T,T,T,T,T,T,T,F,T,T,T,F,F] (fun s_ => [(449, s_.1), (453, s_.2.1), (455, s_.2.2)]) (fun s_ w' => (Kd.R (Kd.int .i64) 3 w' w.heap.size (fun k_ => nb (s_.2.2) k_ ∧ nb (.slice (some ad174) t103.length co87) k_ ∧ nb (.slice Ao165 t168.length co165) k_ ∧ nb (.slice Ao174 t191.length co174) k_ ∧ nb v203 k_ ∧ nb (.slice (some ad174) t103.length co87) k_) s_.2.1 y210) ∧ (Kd.R (Kd.int .i64) 3 w' w.heap.size (fun k_ => nb (s_.2.1) k_ ∧ nb (.slice (some ad174) t103.length co87) k_ ∧ nb (.slice Ao165 t168.length co165) k_ ∧ nb (.slice Ao174 t191.length co174) k_ ∧ nb v203 k_ ∧ nb (.slice (some ad174) t103.length co87) k_) s_.2.2 y213) ∧ (Kd.R k60 60 w' w.heap.size (fun k_ => nb (.slice (some ad177) t119.length co91) k_ ∧ nb (.slice (some ad180) t135.length co95) k_ ∧ nb (.slice (some ad182) t143.length co97) k_ ∧ nb (.slice (some ad184) t151.length co99) k_ ∧ k_ ≠ gb130 ∧ k_ ≠ gb134) (.slice (some ad175) t111.length co89) t111) ∧ (Kd.R k60 60 w' w.heap.size (fun k_ => nb (.slice (some ad175) t111.length co89) k_ ∧ nb (.slice (some ad180) t135.length co95) k_ ∧ nb (.slice (some ad182) t143.length co97) k_ ∧ nb (.slice (some ad184) t151.length co99) k_ ∧ k_ ≠ gb130 ∧ k_ ≠ gb134) (.slice (some ad177) t119.length co91) t119) ∧ (Kd.R k60 60 w' w.heap.size (fun k_ => nb (.slice (some ad175) t111.length co89) k_ ∧ nb (.slice (some ad177) t119.length co91) k_ ∧ nb (.slice (some ad182) t143.length co97) k_ ∧ nb (.slice (some ad184) t151.length co99) k_ ∧ k_ ≠ gb130 ∧ k_ ≠ gb134) (.slice (some ad180) t135.length co95) t135) ∧ (Kd.R k60 60 w' w.heap.size (fun k_ => nb (.slice (some ad175) t111.length co89) k_ ∧ nb (.slice (some ad177) t119.length co91) k_ ∧ nb (.slice (some ad180) t135.length co95) k_ ∧ nb (.slice (some ad184) t151.length co99) k_ ∧ k_ ≠ gb130 ∧ k_ ≠ gb134) (.slice (some ad182) t143.length co97) t143) ∧ (Kd.R k60 60 w' w.heap.size (fun k_ => nb (.slice (some ad175) t111.length co89) k_ ∧ nb (.slice (some ad177) t119.length co91) k_ ∧ nb (.slice (some ad180) t135.length co95) k_ ∧ nb (.slice (some ad182) t143.length co97) k_ ∧ k_ ≠ gb130 ∧ k_ ≠ gb134) (.slice (some ad184) t151.length co99) t151) ∧ (Kd.R (Kd.int .i64) 3 w' w.heap.size (fun k_ => nb (s_.2.1) k_ ∧ nb (s_.2.2) k_ ∧ nb (.slice Ao165 t168.length co165) k_ ∧ nb (.slice Ao174 t191.length co174) k_ ∧ nb v203 k_) (.slice (some ad174) t103.length co87) t103) ∧ (Kd.R (Kd.int .i64) 3 w' w.heap.size (fun k_ => nb (s_.2.1) k_ ∧ nb (s_.2.2) k_ ∧ nb (.slice (some ad174) t103.length co87) k_ ∧ nb (.slice Ao174 t191.length co174) k_ ∧ nb v203 k_ ∧ nb (.slice (some ad174) t103.length co87) k_) (.slice Ao165 t168.length co165) t168) ∧ (Kd.S (Kd.slice 3 (Kd.int .i64)) 24 w' w.heap.size (fun k_ => nb (s_.2.1) k_ ∧ nb (s_.2.2) k_ ∧ nb (.slice (some ad174) t103.length co87) k_ ∧ nb (.slice Ao165 t168.length co165) k_ ∧ nb (.slice Ao174 t191.length co174) k_ ∧ nb v203 k_ ∧ nb (.slice (some ad174) t103.length co87) k_) (.slice (some ad196) t187.length co173) t187) ∧ (Kd.R (Kd.int .i64) 3 w' w.heap.size (fun k_ => nb (s_.2.1) k_ ∧ nb (s_.2.2) k_ ∧ nb (.slice (some ad174) t103.length co87) k_ ∧ nb (.slice Ao165 t168.length co165) k_ ∧ nb (.slice Ao174 t191.length co174) k_ ∧ nb v203 k_ ∧ nb (.slice (some ad174) t103.length co87) k_) (.slice A196_0 (rd_L2 t187 x421_2).length c196_0) (rd_L2 t187 x421_2)) ∧ (Kd.S (Kd.slice 3 (Kd.int .i64)) 24 w' w.heap.size (fun k_ => nb (s_.2.1) k_ ∧ nb (s_.2.2) k_ ∧ nb (.slice (some ad174) t103.length co87) k_ ∧ nb (.slice Ao165 t168.length co165) k_ ∧ nb (.slice Ao174 t191.length co174) k_ ∧ nb v203 k_ ∧ nb (.slice (some ad174) t103.length co87) k_) (.slice (some ad196) t187.length co173) t187) ∧ (Kd.R (Kd.int .i64) 3 w' w.heap.size (fun k_ => nb (s_.2.1) k_ ∧ nb (s_.2.2) k_ ∧ nb (.slice (some ad174) t103.length co87) k_ ∧ nb (.slice Ao165 t168.length co165) k_ ∧ nb v203 k_ ∧ nb (.slice (some ad174) t103.length co87) k_) (.slice Ao174 t191.length co174) t191) ∧ (Kd.R (Kd.int .i64) 3 w' w.heap.size (fun k_ => nb (s_.2.1) k_ ∧ nb (s_.2.2) k_ ∧ nb (.slice (some ad174) t103.length co87) k_ ∧ nb (.slice Ao165 t168.length co165) k_ ∧ nb (.slice Ao174 t191.length co174) k_ ∧ nb (.slice (some ad174) t103.length co87) k_) v203 y202) ∧ (Kd.R (Kd.int .i64) 3 w' w.heap.size (fun k_ => nb (s_.2.1) k_ ∧ nb (s_.2.2) k_ ∧ nb (.slice Ao165 t168.length co165) k_ ∧ nb (.slice Ao174 t191.length co174) k_ ∧ nb v203 k_) (.slice (some ad174) t103.length co87) t103) ∧ (w'.heap[gb101]? = some (.cells #[.int .i64 a0_0, .slice A0_1 l0_1.length c0_1] 26 (0, 0))) ∧ (w'.heap[gb102]? = some (.cells #[.int .i64 a1_0, .slice A1_1 l1_1.length c1_1] 26 (0, 0))) ∧ (w'.heap[gb130]? = some (.cells #[.int .i64 t127, .int .i64 t128] 60 (0, 0))) ∧ (w'.heap[gb134]? = some (.cells #[.int .i64 t131, .int .i64 t132] 60 (0, 0))) ∧ (Below w.heap.size w w')) ?_ ?_
          rotate_left
          ·intro hCont
           refine two_ (i := 0) (j := 6) (Ni := some 449) (Nj := some 455) #[T,T,T,T,F,T,F,F,T,T,T,F,F] #[F,T,T,T,F,T,T,F,T,T,T,F,F] rfl rfl rfl rfl (two_of HT_.out (by kernel_rfl)) (by decide) (by decide) (fun K hK => ?_) (fun K hK => ?_)
           ·skip
            refine Kd.R_lit_step (Kd.int .i64) _ 3 ?hg (N := 449) ?hd (xs := ([] : List Int)) (inner := []) (ok := fun _ => True) (okp := fun _ => True) ?hr ?hp (fun _ hk => hk) trivial (Below.refl _ _) (Nat.le_refl _) (by simp) ?_; (case hd => rfl); (case hg => rfl); (case hr => first | (go_simp; done) | (go_simp; rfl)); (case hp => exact (Reps.none _ _))
            intro v207 w206 ho207 hb hg_ hnew_
            clear hg_ hnew_
            (first | rw [← Ny206.out] at ho207 | (simp only [Int.reduceToNat] at ho207; rw [← Ny206.out] at ho207))
            have HO208 := Aside0.mk (Kd.R_lower (Kd.R_new' (Kd.R_new' (Kd.R_new' (Kd.R_new' (Kd.R_new' ho207 (Kd.R_lt HO_7.out)) (Kd.R_lt HO_39.out)) (Kd.R_lt HO_45.out)) (Kd.R_lt HO_51.out)) (Kd.R_lt HO_313.out)) (below_size HB.out))
            replace HO_7 := rE HO_7 (Kd.R_base ho207) hb
            replace HO_11 := rB HO_11 hb
            replace HO_15 := rB HO_15 hb
            replace HO_23 := rB HO_23 hb
            replace HO_27 := rB HO_27 hb
            replace HO_31 := rB HO_31 hb
            replace HO_39 := rE HO_39 (Kd.R_base ho207) hb
            replace HO_43 := tE HO_43 (Kd.R_base ho207) hb
            replace HO_45 := rE HO_45 (Kd.R_base ho207) hb
            replace HO_51 := rE HO_51 (Kd.R_base ho207) hb
            replace HO_313 := rE HO_313 (Kd.R_base ho207) hb
            replace HO_419 := tE HO_419 (Kd.R_base ho207) hb
            replace HL196_0 := Aside0.mk (Kd.R_elder' HL196_0.out (Kd.R_base ho207) hb)
            replace BK101 := bB BK101 hb
            replace BK102 := bB BK102 hb
            replace BK130 := bB BK130 hb
            replace BK134 := bB BK134 hb
            replace HB := sB HB hb
            clear hb ho207
            refine hK.out _ _ trivial (fun hHeld => ?_)
            clear hK K
            refine nM ?_
            refine two_ (i := 4) (j := 6) (Ni := some 453) (Nj := some 455) #[T,T,T,T,T,T,F,F,T,T,T,F,F] #[T,T,T,T,F,T,T,F,T,T,T,F,F] rfl rfl rfl rfl (two_of HT_.out (by kernel_rfl)) (by decide) (by decide) (fun K hK => ?_) (fun K hK => ?_)
            ·skip
             refine Kd.R_append_rows_step (Kd.int .i64) (w0 := w) w.heap.size (by rfl) (.tmp 449) (.tmp 452) 24 3 (.int .i64 0) 8 rfl Tryz.underlying24 info3 rfl (by decide) (by omega) v207 y206 ((rd_L2 t187 x421_2).take (x52_3 : Int).toNat) _ _ _ (fun k_ => nb (.slice (some ad174) t103.length co87) k_ ∧ nb (.slice Ao165 t168.length co165) k_ ∧ nb (.slice Ao174 t191.length co174) k_ ∧ nb v203 k_ ∧ nb (.slice (some ad174) t103.length co87) k_) (fun _ => False) rfl rfl ?aO ?aR (fun _ _ h => h) (fun _ h => h.elim) ?aF ?aB ?aS ?aL ?_
             (case aR => have hx_ := (Kd.C_of_reads (h1 := fun _ => rfl) (hA204 _ (Kd.reads_of_C (Kd.R_reads' HL196_0.out).2.2))); (try rw [show ((rd_L2 t187 x421_2).take (x52_3 : Int).toNat).length = x52_3.toNat from (by rw [List.length_take]; have h_ : (x52_3 : Int) ≤ ((rd_L2 t187 x421_2).length : Int) := oD; omega)] at hx_); exact hx_)
             (case aB => exact HB.out)
             (case aF => exact (fun k_ hk => ⟨Kd.fresh' (Kd.R_lt HO_7.out) k_ hk, Kd.fresh' (Kd.R_lt HO_39.out) k_ hk, Kd.fresh' (Kd.R_lt HO_45.out) k_ hk, Kd.fresh' (Kd.R_lt HO_51.out) k_ hk, Kd.fresh' (Kd.R_lt HO_313.out) k_ hk⟩))
             (case aO => exact (by exact Kd.R_mono HO208.out (fun _ hk => ⟨hk.1.1.1.1.2, ⟨hk.1.1.1.2, ⟨hk.1.1.2, ⟨hk.1.2, hk.2⟩⟩⟩⟩)))
             (case aS => exact (below_size HB.out))
             (case aL => have := LMc196.out; have hlx_ := (show ((rd_L2 t187 x421_2).take (x52_3 : Int).toNat).length = x52_3.toNat from (by rw [List.length_take]; have h_ : (x52_3 : Int) ≤ ((rd_L2 t187 x421_2).length : Int) := oD; omega)); omega)
             intro v211 w208 ho hb hg hat
             rw [← Ny210.out] at ho
             have HO212 := Aside0.mk (ho)
             replace HO_7 := Aside0.mk (Kd.R_after (ok := (fun k_ => nb (.slice Ao165 t168.length co165) k_ ∧ nb (.slice Ao174 t191.length co174) k_ ∧ nb v203 k_)) HO_7.out hg hat)
             replace HO_11 := Aside0.mk (Kd.R_over' HO_11.out (Kd.R_typed HO208.out) (by decide) hg)
             replace HO_15 := Aside0.mk (Kd.R_over' HO_15.out (Kd.R_typed HO208.out) (by decide) hg)
             replace HO_23 := Aside0.mk (Kd.R_over' HO_23.out (Kd.R_typed HO208.out) (by decide) hg)
             replace HO_27 := Aside0.mk (Kd.R_over' HO_27.out (Kd.R_typed HO208.out) (by decide) hg)
             replace HO_31 := Aside0.mk (Kd.R_over' HO_31.out (Kd.R_typed HO208.out) (by decide) hg)
             replace HO_39 := Aside0.mk (Kd.R_after (ok := (fun k_ => nb (.slice (some ad174) t103.length co87) k_ ∧ nb (.slice Ao174 t191.length co174) k_ ∧ nb v203 k_ ∧ nb (.slice (some ad174) t103.length co87) k_)) HO_39.out hg hat)
             replace HO_43 := Aside0.mk (Kd.S_after (ok := (fun k_ => nb (.slice (some ad174) t103.length co87) k_ ∧ nb (.slice Ao165 t168.length co165) k_ ∧ nb (.slice Ao174 t191.length co174) k_ ∧ nb v203 k_ ∧ nb (.slice (some ad174) t103.length co87) k_)) HO_43.out hg hat)
             replace HO_45 := Aside0.mk (Kd.R_after (ok := (fun k_ => nb (.slice (some ad174) t103.length co87) k_ ∧ nb (.slice Ao165 t168.length co165) k_ ∧ nb v203 k_ ∧ nb (.slice (some ad174) t103.length co87) k_)) HO_45.out hg hat)
             replace HO_51 := Aside0.mk (Kd.R_after (ok := (fun k_ => nb (.slice (some ad174) t103.length co87) k_ ∧ nb (.slice Ao165 t168.length co165) k_ ∧ nb (.slice Ao174 t191.length co174) k_ ∧ nb (.slice (some ad174) t103.length co87) k_)) HO_51.out hg hat)
             replace HO_313 := Aside0.mk (Kd.R_after (ok := (fun k_ => nb (.slice Ao165 t168.length co165) k_ ∧ nb (.slice Ao174 t191.length co174) k_ ∧ nb v203 k_)) HO_313.out hg hat)
             replace HO_419 := Aside0.mk (Kd.S_after (ok := (fun k_ => nb (.slice (some ad174) t103.length co87) k_ ∧ nb (.slice Ao165 t168.length co165) k_ ∧ nb (.slice Ao174 t191.length co174) k_ ∧ nb v203 k_ ∧ nb (.slice (some ad174) t103.length co87) k_)) HO_419.out hg hat)
             replace HL196_0 := Aside0.mk (Kd.R_after (ok := (fun k_ => nb (.slice (some ad174) t103.length co87) k_ ∧ nb (.slice Ao165 t168.length co165) k_ ∧ nb (.slice Ao174 t191.length co174) k_ ∧ nb v203 k_ ∧ nb (.slice (some ad174) t103.length co87) k_)) HL196_0.out hg hat)
             replace BK101 := Aside0.mk (blk_grown (g := gb101) (o := .cells #[.int .i64 a0_0, .slice A0_1 l0_1.length c0_1] 26 (0, 0)) BK101.out hg (Kd.R_ne HO208.out BK101.out (by decide)))
             replace BK102 := Aside0.mk (blk_grown (g := gb102) (o := .cells #[.int .i64 a1_0, .slice A1_1 l1_1.length c1_1] 26 (0, 0)) BK102.out hg (Kd.R_ne HO208.out BK102.out (by decide)))
             replace BK130 := Aside0.mk (blk_grown (g := gb130) (o := .cells #[.int .i64 t127, .int .i64 t128] 60 (0, 0)) BK130.out hg (Kd.R_ne HO208.out BK130.out (by decide)))
             replace BK134 := Aside0.mk (blk_grown (g := gb134) (o := .cells #[.int .i64 t131, .int .i64 t132] 60 (0, 0)) BK134.out hg (Kd.R_ne HO208.out BK134.out (by decide)))
             replace HB := Aside0.mk (hb)
             clear ho hb hg hat
             refine hK.out _ _ trivial (fun hHeld => ?_)
             clear hK K
             refine nM ?_
             refine oN 6 HT_ (fun K hK => ?_)
             refine Kd.R_lit_step (Kd.int .i64) _ 3 ?hg (N := 455) ?hd (xs := ([x315_1] : List Int)) (inner := [.int .i64 x315_1]) (ok := fun _ => True) (okp := fun _ => True) ?hr ?hp (fun _ hk => hk) trivial (Below.refl _ _) (Nat.le_refl _) (by simp) ?_; (case hd => rfl); (case hg => rfl); (case hr => first | (go_simp; done) | (go_simp; rfl)); (case hp => exact (Reps.one (show Kd.M (Kd.int .i64) _ _ _ x315_1 [.int .i64 x315_1] from rfl) (Reps.none _ _)))
             intro v214 w209 ho210 hb hg_ hnew_
             clear hg_ hnew_
             (first | rw [← Ny213.out] at ho210 | (simp only [Int.reduceToNat] at ho210; rw [← Ny213.out] at ho210))
             have HO215 := Aside0.mk (Kd.R_lower (Kd.R_new' (Kd.R_new' (Kd.R_new' (Kd.R_new' (Kd.R_new' (Kd.R_new' ho210 (Kd.R_lt HO_7.out)) (Kd.R_lt HO_39.out)) (Kd.R_lt HO_45.out)) (Kd.R_lt HO_51.out)) (Kd.R_lt HO_313.out)) (Kd.R_lt HO212.out)) (below_size HB.out))
             replace HO_7 := rE HO_7 (Kd.R_base ho210) hb
             replace HO_11 := rB HO_11 hb
             replace HO_15 := rB HO_15 hb
             replace HO_23 := rB HO_23 hb
             replace HO_27 := rB HO_27 hb
             replace HO_31 := rB HO_31 hb
             replace HO_39 := rE HO_39 (Kd.R_base ho210) hb
             replace HO_43 := tE HO_43 (Kd.R_base ho210) hb
             replace HO_45 := rE HO_45 (Kd.R_base ho210) hb
             replace HO_51 := rE HO_51 (Kd.R_base ho210) hb
             replace HO_313 := rE HO_313 (Kd.R_base ho210) hb
             replace HO_419 := tE HO_419 (Kd.R_base ho210) hb
             replace HL196_0 := Aside0.mk (Kd.R_elder' HL196_0.out (Kd.R_base ho210) hb)
             replace HO212 := rE HO212 (Kd.R_base ho210) hb
             replace BK101 := bB BK101 hb
             replace BK102 := bB BK102 hb
             replace BK130 := bB BK130 hb
             replace BK134 := bB BK134 hb
             replace HB := sB HB hb
             clear hb ho210
             refine hK.out _ _ trivial (fun hHeld => ?_)
             clear hK K
             refine nM ?_
             exact norm_ (by simp only [putAll, Act.put, sA, sZ, sS]) (hCont (v207, v211, v214) _ ⟨(by exact Kd.R_mono HO212.out (fun _ hk => ⟨hk.2, ⟨hk.1.2.2.2.2, ⟨hk.1.2.1, ⟨hk.1.2.2.1, ⟨hk.1.2.2.2.1, hk.1.1⟩⟩⟩⟩⟩)), (by exact Kd.R_mono HO215.out (fun _ hk => ⟨hk.2, ⟨hk.1.2, ⟨hk.1.1.1.1.2, ⟨hk.1.1.1.2, ⟨hk.1.1.2, hk.1.1.1.1.1.2⟩⟩⟩⟩⟩)), HO_11.out, HO_15.out, HO_23.out, HO_27.out, HO_31.out, (by exact Kd.R_mono HO_313.out (fun _ hk => ⟨hk.1.2, ⟨hk.2, ⟨hk.1.1.1, ⟨hk.1.1.2.1, hk.1.1.2.2⟩⟩⟩⟩)), (by exact Kd.R_mono HO_39.out (fun _ hk => ⟨hk.1.2, ⟨hk.2, ⟨hk.1.1.2.2.2, ⟨hk.1.1.2.1, ⟨hk.1.1.2.2.1, hk.1.1.1⟩⟩⟩⟩⟩)), (by exact Kd.S_mono HO_419.out (fun _ hk => ⟨hk.1.2, ⟨hk.2, ⟨hk.1.1.2.2.2.2, ⟨hk.1.1.2.1, ⟨hk.1.1.2.2.1, ⟨hk.1.1.2.2.2.1, hk.1.1.1⟩⟩⟩⟩⟩⟩)), (by exact Kd.R_mono HL196_0.out (fun _ hk => ⟨hk.1.2, ⟨hk.2, ⟨hk.1.1.2.2.2.2, ⟨hk.1.1.2.1, ⟨hk.1.1.2.2.1, ⟨hk.1.1.2.2.2.1, hk.1.1.1⟩⟩⟩⟩⟩⟩)), (by exact Kd.S_mono HO_43.out (fun _ hk => ⟨hk.1.2, ⟨hk.2, ⟨hk.1.1.2.2.2.2, ⟨hk.1.1.2.1, ⟨hk.1.1.2.2.1, ⟨hk.1.1.2.2.2.1, hk.1.1.1⟩⟩⟩⟩⟩⟩)), (by exact Kd.R_mono HO_45.out (fun _ hk => ⟨hk.1.2, ⟨hk.2, ⟨hk.1.1.2.2.2, ⟨hk.1.1.2.1, ⟨hk.1.1.2.2.1, hk.1.1.1⟩⟩⟩⟩⟩)), (by exact Kd.R_mono HO_51.out (fun _ hk => ⟨hk.1.2, ⟨hk.2, ⟨hk.1.1.2.2.2, ⟨hk.1.1.2.1, ⟨hk.1.1.2.2.1, hk.1.1.1⟩⟩⟩⟩⟩)), (by exact Kd.R_mono HO_7.out (fun _ hk => ⟨hk.1.2, ⟨hk.2, ⟨hk.1.1.1, ⟨hk.1.1.2.1, hk.1.1.2.2⟩⟩⟩⟩)), BK101.out, BK102.out, BK130.out, BK134.out, HB.out⟩)
            skip
            refine Kd.R_lit_step (Kd.int .i64) _ 3 ?hg (N := 455) ?hd (xs := ([x315_1] : List Int)) (inner := [.int .i64 x315_1]) (ok := fun _ => True) (okp := fun _ => True) ?hr ?hp (fun _ hk => hk) trivial (Below.refl _ _) (Nat.le_refl _) (by simp) ?_; (case hd => rfl); (case hg => rfl); (case hr => first | (go_simp; done) | (go_simp; rfl)); (case hp => exact (Reps.one (show Kd.M (Kd.int .i64) _ _ _ x315_1 [.int .i64 x315_1] from rfl) (Reps.none _ _)))
            intro v214 w208 ho209 hb hg_ hnew_
            clear hg_ hnew_
            (first | rw [← Ny213.out] at ho209 | (simp only [Int.reduceToNat] at ho209; rw [← Ny213.out] at ho209))
            have HO215 := Aside0.mk (Kd.R_lower (Kd.R_new' (Kd.R_new' (Kd.R_new' (Kd.R_new' (Kd.R_new' (Kd.R_new' ho209 (Kd.R_lt HO_7.out)) (Kd.R_lt HO_39.out)) (Kd.R_lt HO_45.out)) (Kd.R_lt HO_51.out)) (Kd.R_lt HO_313.out)) (Kd.R_lt HO208.out)) (below_size HB.out))
            replace HO_7 := rE HO_7 (Kd.R_base ho209) hb
            replace HO_11 := rB HO_11 hb
            replace HO_15 := rB HO_15 hb
            replace HO_23 := rB HO_23 hb
            replace HO_27 := rB HO_27 hb
            replace HO_31 := rB HO_31 hb
            replace HO_39 := rE HO_39 (Kd.R_base ho209) hb
            replace HO_43 := tE HO_43 (Kd.R_base ho209) hb
            replace HO_45 := rE HO_45 (Kd.R_base ho209) hb
            replace HO_51 := rE HO_51 (Kd.R_base ho209) hb
            replace HO_313 := rE HO_313 (Kd.R_base ho209) hb
            replace HO_419 := tE HO_419 (Kd.R_base ho209) hb
            replace HL196_0 := Aside0.mk (Kd.R_elder' HL196_0.out (Kd.R_base ho209) hb)
            replace HO208 := rE HO208 (Kd.R_base ho209) hb
            replace BK101 := bB BK101 hb
            replace BK102 := bB BK102 hb
            replace BK130 := bB BK130 hb
            replace BK134 := bB BK134 hb
            replace HB := sB HB hb
            clear hb ho209
            refine hK.out _ _ trivial (fun hHeld => ?_)
            clear hK K
            refine nM ?_
            refine oN 4 HT_ (fun K hK => ?_)
            refine Kd.R_append_rows_step (Kd.int .i64) (w0 := w) w.heap.size (by rfl) (.tmp 449) (.tmp 452) 24 3 (.int .i64 0) 8 rfl Tryz.underlying24 info3 rfl (by decide) (by omega) v207 y206 ((rd_L2 t187 x421_2).take (x52_3 : Int).toNat) _ _ _ (fun k_ => nb (.slice (some ad174) t103.length co87) k_ ∧ nb (.slice Ao165 t168.length co165) k_ ∧ nb (.slice Ao174 t191.length co174) k_ ∧ nb v203 k_ ∧ nb (.slice (some ad174) t103.length co87) k_ ∧ nb v214 k_) (fun _ => False) rfl rfl ?aO ?aR (fun _ _ h => h) (fun _ h => h.elim) ?aF ?aB ?aS ?aL ?_
            (case aR => have hx_ := (Kd.C_of_reads (h1 := fun _ => rfl) (hA204 _ (Kd.reads_of_C (Kd.R_reads' HL196_0.out).2.2))); (try rw [show ((rd_L2 t187 x421_2).take (x52_3 : Int).toNat).length = x52_3.toNat from (by rw [List.length_take]; have h_ : (x52_3 : Int) ≤ ((rd_L2 t187 x421_2).length : Int) := oD; omega)] at hx_); exact hx_)
            (case aB => exact HB.out)
            (case aF => exact (fun k_ hk => ⟨Kd.fresh' (Kd.R_lt HO_7.out) k_ hk, Kd.fresh' (Kd.R_lt HO_39.out) k_ hk, Kd.fresh' (Kd.R_lt HO_45.out) k_ hk, Kd.fresh' (Kd.R_lt HO_51.out) k_ hk, Kd.fresh' (Kd.R_lt HO_313.out) k_ hk, Kd.fresh' (Kd.R_lt HO215.out) k_ hk⟩))
            (case aO => exact (by exact Kd.R_mono HO208.out (fun _ hk => ⟨hk.1.1.1.1.1.2, ⟨hk.1.1.1.1.2, ⟨hk.1.1.1.2, ⟨hk.1.1.2, ⟨hk.1.2, hk.2⟩⟩⟩⟩⟩)))
            (case aS => exact (below_size HB.out))
            (case aL => have := LMc196.out; have hlx_ := (show ((rd_L2 t187 x421_2).take (x52_3 : Int).toNat).length = x52_3.toNat from (by rw [List.length_take]; have h_ : (x52_3 : Int) ≤ ((rd_L2 t187 x421_2).length : Int) := oD; omega)); omega)
            intro v211 w210 ho hb hg hat
            rw [← Ny210.out] at ho
            have HO212 := Aside0.mk (ho)
            replace HO_7 := Aside0.mk (Kd.R_after (ok := (fun k_ => nb (.slice Ao165 t168.length co165) k_ ∧ nb (.slice Ao174 t191.length co174) k_ ∧ nb v203 k_ ∧ nb v214 k_)) (by exact Kd.R_mono HO_7.out (fun _ hk => ⟨⟨hk.1.1.1, ⟨hk.1.1.2.1, ⟨hk.1.1.2.2, hk.2⟩⟩⟩, hk.1.2⟩)) hg hat)
            replace HO_11 := Aside0.mk (Kd.R_over' HO_11.out (Kd.R_typed HO208.out) (by decide) hg)
            replace HO_15 := Aside0.mk (Kd.R_over' HO_15.out (Kd.R_typed HO208.out) (by decide) hg)
            replace HO_23 := Aside0.mk (Kd.R_over' HO_23.out (Kd.R_typed HO208.out) (by decide) hg)
            replace HO_27 := Aside0.mk (Kd.R_over' HO_27.out (Kd.R_typed HO208.out) (by decide) hg)
            replace HO_31 := Aside0.mk (Kd.R_over' HO_31.out (Kd.R_typed HO208.out) (by decide) hg)
            replace HO_39 := Aside0.mk (Kd.R_after (ok := (fun k_ => nb (.slice (some ad174) t103.length co87) k_ ∧ nb (.slice Ao174 t191.length co174) k_ ∧ nb v203 k_ ∧ nb (.slice (some ad174) t103.length co87) k_ ∧ nb v214 k_)) (by exact Kd.R_mono HO_39.out (fun _ hk => ⟨⟨hk.1.1.1, ⟨hk.1.1.2.1, ⟨hk.1.1.2.2.1, ⟨hk.1.1.2.2.2, hk.2⟩⟩⟩⟩, hk.1.2⟩)) hg hat)
            replace HO_43 := Aside0.mk (Kd.S_after (ok := (fun k_ => nb (.slice (some ad174) t103.length co87) k_ ∧ nb (.slice Ao165 t168.length co165) k_ ∧ nb (.slice Ao174 t191.length co174) k_ ∧ nb v203 k_ ∧ nb (.slice (some ad174) t103.length co87) k_ ∧ nb v214 k_)) (by exact Kd.S_mono HO_43.out (fun _ hk => ⟨⟨hk.1.1.1, ⟨hk.1.1.2.1, ⟨hk.1.1.2.2.1, ⟨hk.1.1.2.2.2.1, ⟨hk.1.1.2.2.2.2, hk.2⟩⟩⟩⟩⟩, hk.1.2⟩)) hg hat)
            replace HO_45 := Aside0.mk (Kd.R_after (ok := (fun k_ => nb (.slice (some ad174) t103.length co87) k_ ∧ nb (.slice Ao165 t168.length co165) k_ ∧ nb v203 k_ ∧ nb (.slice (some ad174) t103.length co87) k_ ∧ nb v214 k_)) (by exact Kd.R_mono HO_45.out (fun _ hk => ⟨⟨hk.1.1.1, ⟨hk.1.1.2.1, ⟨hk.1.1.2.2.1, ⟨hk.1.1.2.2.2, hk.2⟩⟩⟩⟩, hk.1.2⟩)) hg hat)
            replace HO_51 := Aside0.mk (Kd.R_after (ok := (fun k_ => nb (.slice (some ad174) t103.length co87) k_ ∧ nb (.slice Ao165 t168.length co165) k_ ∧ nb (.slice Ao174 t191.length co174) k_ ∧ nb (.slice (some ad174) t103.length co87) k_ ∧ nb v214 k_)) (by exact Kd.R_mono HO_51.out (fun _ hk => ⟨⟨hk.1.1.1, ⟨hk.1.1.2.1, ⟨hk.1.1.2.2.1, ⟨hk.1.1.2.2.2, hk.2⟩⟩⟩⟩, hk.1.2⟩)) hg hat)
            replace HO_313 := Aside0.mk (Kd.R_after (ok := (fun k_ => nb (.slice Ao165 t168.length co165) k_ ∧ nb (.slice Ao174 t191.length co174) k_ ∧ nb v203 k_ ∧ nb v214 k_)) (by exact Kd.R_mono HO_313.out (fun _ hk => ⟨⟨hk.1.1.1, ⟨hk.1.1.2.1, ⟨hk.1.1.2.2, hk.2⟩⟩⟩, hk.1.2⟩)) hg hat)
            replace HO_419 := Aside0.mk (Kd.S_after (ok := (fun k_ => nb (.slice (some ad174) t103.length co87) k_ ∧ nb (.slice Ao165 t168.length co165) k_ ∧ nb (.slice Ao174 t191.length co174) k_ ∧ nb v203 k_ ∧ nb (.slice (some ad174) t103.length co87) k_ ∧ nb v214 k_)) (by exact Kd.S_mono HO_419.out (fun _ hk => ⟨⟨hk.1.1.1, ⟨hk.1.1.2.1, ⟨hk.1.1.2.2.1, ⟨hk.1.1.2.2.2.1, ⟨hk.1.1.2.2.2.2, hk.2⟩⟩⟩⟩⟩, hk.1.2⟩)) hg hat)
            replace HL196_0 := Aside0.mk (Kd.R_after (ok := (fun k_ => nb (.slice (some ad174) t103.length co87) k_ ∧ nb (.slice Ao165 t168.length co165) k_ ∧ nb (.slice Ao174 t191.length co174) k_ ∧ nb v203 k_ ∧ nb (.slice (some ad174) t103.length co87) k_ ∧ nb v214 k_)) (by exact Kd.R_mono HL196_0.out (fun _ hk => ⟨⟨hk.1.1.1, ⟨hk.1.1.2.1, ⟨hk.1.1.2.2.1, ⟨hk.1.1.2.2.2.1, ⟨hk.1.1.2.2.2.2, hk.2⟩⟩⟩⟩⟩, hk.1.2⟩)) hg hat)
            replace BK101 := Aside0.mk (blk_grown (g := gb101) (o := .cells #[.int .i64 a0_0, .slice A0_1 l0_1.length c0_1] 26 (0, 0)) BK101.out hg (Kd.R_ne HO208.out BK101.out (by decide)))
            replace BK102 := Aside0.mk (blk_grown (g := gb102) (o := .cells #[.int .i64 a1_0, .slice A1_1 l1_1.length c1_1] 26 (0, 0)) BK102.out hg (Kd.R_ne HO208.out BK102.out (by decide)))
            replace BK130 := Aside0.mk (blk_grown (g := gb130) (o := .cells #[.int .i64 t127, .int .i64 t128] 60 (0, 0)) BK130.out hg (Kd.R_ne HO208.out BK130.out (by decide)))
            replace BK134 := Aside0.mk (blk_grown (g := gb134) (o := .cells #[.int .i64 t131, .int .i64 t132] 60 (0, 0)) BK134.out hg (Kd.R_ne HO208.out BK134.out (by decide)))
            replace HO215 := Aside0.mk (Kd.R_after (ok := (fun k_ => nb (.slice (some ad174) t103.length co87) k_ ∧ nb (.slice Ao165 t168.length co165) k_ ∧ nb (.slice Ao174 t191.length co174) k_ ∧ nb v203 k_ ∧ nb (.slice (some ad174) t103.length co87) k_)) (by exact Kd.R_mono HO215.out (fun _ hk => ⟨⟨hk.1.1.1.1.1.2, ⟨hk.1.1.1.1.2, ⟨hk.1.1.1.2, ⟨hk.1.1.2, hk.1.2⟩⟩⟩⟩, hk.2⟩)) hg hat)
            replace HB := Aside0.mk (hb)
            clear ho hb hg hat
            refine hK.out _ _ trivial (fun hHeld => ?_)
            clear hK K
            refine nM ?_
            exact norm_ (by simp only [putAll, Act.put, sA, sZ, sS]) (hCont (v207, v211, v214) _ ⟨(by exact Kd.R_mono HO212.out (fun _ hk => ⟨hk.2.2.2.2.2, ⟨hk.2.2.2.2.1, ⟨hk.2.1, ⟨hk.2.2.1, ⟨hk.2.2.2.1, hk.1⟩⟩⟩⟩⟩)), (by exact Kd.R_mono HO215.out (fun _ hk => ⟨hk.2, ⟨hk.1.2.2.2.2, ⟨hk.1.2.1, ⟨hk.1.2.2.1, ⟨hk.1.2.2.2.1, hk.1.1⟩⟩⟩⟩⟩)), HO_11.out, HO_15.out, HO_23.out, HO_27.out, HO_31.out, (by exact Kd.R_mono HO_313.out (fun _ hk => ⟨hk.2, ⟨hk.1.2.2.2, ⟨hk.1.1, ⟨hk.1.2.1, hk.1.2.2.1⟩⟩⟩⟩)), (by exact Kd.R_mono HO_39.out (fun _ hk => ⟨hk.2, ⟨hk.1.2.2.2.2, ⟨hk.1.2.2.2.1, ⟨hk.1.2.1, ⟨hk.1.2.2.1, hk.1.1⟩⟩⟩⟩⟩)), (by exact Kd.S_mono HO_419.out (fun _ hk => ⟨hk.2, ⟨hk.1.2.2.2.2.2, ⟨hk.1.2.2.2.2.1, ⟨hk.1.2.1, ⟨hk.1.2.2.1, ⟨hk.1.2.2.2.1, hk.1.1⟩⟩⟩⟩⟩⟩)), (by exact Kd.R_mono HL196_0.out (fun _ hk => ⟨hk.2, ⟨hk.1.2.2.2.2.2, ⟨hk.1.2.2.2.2.1, ⟨hk.1.2.1, ⟨hk.1.2.2.1, ⟨hk.1.2.2.2.1, hk.1.1⟩⟩⟩⟩⟩⟩)), (by exact Kd.S_mono HO_43.out (fun _ hk => ⟨hk.2, ⟨hk.1.2.2.2.2.2, ⟨hk.1.2.2.2.2.1, ⟨hk.1.2.1, ⟨hk.1.2.2.1, ⟨hk.1.2.2.2.1, hk.1.1⟩⟩⟩⟩⟩⟩)), (by exact Kd.R_mono HO_45.out (fun _ hk => ⟨hk.2, ⟨hk.1.2.2.2.2, ⟨hk.1.2.2.2.1, ⟨hk.1.2.1, ⟨hk.1.2.2.1, hk.1.1⟩⟩⟩⟩⟩)), (by exact Kd.R_mono HO_51.out (fun _ hk => ⟨hk.2, ⟨hk.1.2.2.2.2, ⟨hk.1.2.2.2.1, ⟨hk.1.2.1, ⟨hk.1.2.2.1, hk.1.1⟩⟩⟩⟩⟩)), (by exact Kd.R_mono HO_7.out (fun _ hk => ⟨hk.2, ⟨hk.1.2.2.2, ⟨hk.1.1, ⟨hk.1.2.1, hk.1.2.2.1⟩⟩⟩⟩)), BK101.out, BK102.out, BK130.out, BK134.out, HB.out⟩)
           skip
           refine Kd.R_lit_step (Kd.int .i64) _ 3 ?hg (N := 455) ?hd (xs := ([x315_1] : List Int)) (inner := [.int .i64 x315_1]) (ok := fun _ => True) (okp := fun _ => True) ?hr ?hp (fun _ hk => hk) trivial (Below.refl _ _) (Nat.le_refl _) (by simp) ?_; (case hd => rfl); (case hg => rfl); (case hr => first | (go_simp; done) | (go_simp; rfl)); (case hp => exact (Reps.one (show Kd.M (Kd.int .i64) _ _ _ x315_1 [.int .i64 x315_1] from rfl) (Reps.none _ _)))
           intro v214 w206 ho207 hb hg_ hnew_
           clear hg_ hnew_
           (first | rw [← Ny213.out] at ho207 | (simp only [Int.reduceToNat] at ho207; rw [← Ny213.out] at ho207))
           have HO215 := Aside0.mk (Kd.R_lower (Kd.R_new' (Kd.R_new' (Kd.R_new' (Kd.R_new' (Kd.R_new' ho207 (Kd.R_lt HO_7.out)) (Kd.R_lt HO_39.out)) (Kd.R_lt HO_45.out)) (Kd.R_lt HO_51.out)) (Kd.R_lt HO_313.out)) (below_size HB.out))
           replace HO_7 := rE HO_7 (Kd.R_base ho207) hb
           replace HO_11 := rB HO_11 hb
           replace HO_15 := rB HO_15 hb
           replace HO_23 := rB HO_23 hb
           replace HO_27 := rB HO_27 hb
           replace HO_31 := rB HO_31 hb
           replace HO_39 := rE HO_39 (Kd.R_base ho207) hb
           replace HO_43 := tE HO_43 (Kd.R_base ho207) hb
           replace HO_45 := rE HO_45 (Kd.R_base ho207) hb
           replace HO_51 := rE HO_51 (Kd.R_base ho207) hb
           replace HO_313 := rE HO_313 (Kd.R_base ho207) hb
           replace HO_419 := tE HO_419 (Kd.R_base ho207) hb
           replace HL196_0 := Aside0.mk (Kd.R_elder' HL196_0.out (Kd.R_base ho207) hb)
           replace BK101 := bB BK101 hb
           replace BK102 := bB BK102 hb
           replace BK130 := bB BK130 hb
           replace BK134 := bB BK134 hb
           replace HB := sB HB hb
           clear hb ho207
           refine hK.out _ _ trivial (fun hHeld => ?_)
           clear hK K
           refine nM ?_
           refine oN 0 HT_ (fun K hK => ?_)
           refine Kd.R_lit_step (Kd.int .i64) _ 3 ?hg (N := 449) ?hd (xs := ([] : List Int)) (inner := []) (ok := fun _ => True) (okp := fun _ => True) ?hr ?hp (fun _ hk => hk) trivial (Below.refl _ _) (Nat.le_refl _) (by simp) ?_; (case hd => rfl); (case hg => rfl); (case hr => first | (go_simp; done) | (go_simp; rfl)); (case hp => exact (Reps.none _ _))
           intro v207 w208 ho209 hb hg_ hnew_
           clear hg_ hnew_
           (first | rw [← Ny206.out] at ho209 | (simp only [Int.reduceToNat] at ho209; rw [← Ny206.out] at ho209))
           have HO208 := Aside0.mk (Kd.R_lower (Kd.R_new' (Kd.R_new' (Kd.R_new' (Kd.R_new' (Kd.R_new' (Kd.R_new' ho209 (Kd.R_lt HO_7.out)) (Kd.R_lt HO_39.out)) (Kd.R_lt HO_45.out)) (Kd.R_lt HO_51.out)) (Kd.R_lt HO_313.out)) (Kd.R_lt HO215.out)) (below_size HB.out))
           replace HO_7 := rE HO_7 (Kd.R_base ho209) hb
           replace HO_11 := rB HO_11 hb
           replace HO_15 := rB HO_15 hb
           replace HO_23 := rB HO_23 hb
           replace HO_27 := rB HO_27 hb
           replace HO_31 := rB HO_31 hb
           replace HO_39 := rE HO_39 (Kd.R_base ho209) hb
           replace HO_43 := tE HO_43 (Kd.R_base ho209) hb
           replace HO_45 := rE HO_45 (Kd.R_base ho209) hb
           replace HO_51 := rE HO_51 (Kd.R_base ho209) hb
           replace HO_313 := rE HO_313 (Kd.R_base ho209) hb
           replace HO_419 := tE HO_419 (Kd.R_base ho209) hb
           replace HL196_0 := Aside0.mk (Kd.R_elder' HL196_0.out (Kd.R_base ho209) hb)
           replace HO215 := rE HO215 (Kd.R_base ho209) hb
           replace BK101 := bB BK101 hb
           replace BK102 := bB BK102 hb
           replace BK130 := bB BK130 hb
           replace BK134 := bB BK134 hb
           replace HB := sB HB hb
           clear hb ho209
           refine hK.out _ _ trivial (fun hHeld => ?_)
           clear hK K
           refine nM ?_
           refine oN 4 HT_ (fun K hK => ?_)
           refine Kd.R_append_rows_step (Kd.int .i64) (w0 := w) w.heap.size (by rfl) (.tmp 449) (.tmp 452) 24 3 (.int .i64 0) 8 rfl Tryz.underlying24 info3 rfl (by decide) (by omega) v207 y206 ((rd_L2 t187 x421_2).take (x52_3 : Int).toNat) _ _ _ (fun k_ => nb (.slice (some ad174) t103.length co87) k_ ∧ nb (.slice Ao165 t168.length co165) k_ ∧ nb (.slice Ao174 t191.length co174) k_ ∧ nb v203 k_ ∧ nb (.slice (some ad174) t103.length co87) k_ ∧ nb v214 k_) (fun _ => False) rfl rfl ?aO ?aR (fun _ _ h => h) (fun _ h => h.elim) ?aF ?aB ?aS ?aL ?_
           (case aR => have hx_ := (Kd.C_of_reads (h1 := fun _ => rfl) (hA204 _ (Kd.reads_of_C (Kd.R_reads' HL196_0.out).2.2))); (try rw [show ((rd_L2 t187 x421_2).take (x52_3 : Int).toNat).length = x52_3.toNat from (by rw [List.length_take]; have h_ : (x52_3 : Int) ≤ ((rd_L2 t187 x421_2).length : Int) := oD; omega)] at hx_); exact hx_)
           (case aB => exact HB.out)
           (case aF => exact (fun k_ hk => ⟨Kd.fresh' (Kd.R_lt HO_7.out) k_ hk, Kd.fresh' (Kd.R_lt HO_39.out) k_ hk, Kd.fresh' (Kd.R_lt HO_45.out) k_ hk, Kd.fresh' (Kd.R_lt HO_51.out) k_ hk, Kd.fresh' (Kd.R_lt HO_313.out) k_ hk, Kd.fresh' (Kd.R_lt HO215.out) k_ hk⟩))
           (case aO => exact (by exact Kd.R_mono HO208.out (fun _ hk => ⟨hk.1.1.1.1.1.2, ⟨hk.1.1.1.1.2, ⟨hk.1.1.1.2, ⟨hk.1.1.2, ⟨hk.1.2, hk.2⟩⟩⟩⟩⟩)))
           (case aS => exact (below_size HB.out))
           (case aL => have := LMc196.out; have hlx_ := (show ((rd_L2 t187 x421_2).take (x52_3 : Int).toNat).length = x52_3.toNat from (by rw [List.length_take]; have h_ : (x52_3 : Int) ≤ ((rd_L2 t187 x421_2).length : Int) := oD; omega)); omega)
           intro v211 w210 ho hb hg hat
           rw [← Ny210.out] at ho
           have HO212 := Aside0.mk (ho)
           replace HO_7 := Aside0.mk (Kd.R_after (ok := (fun k_ => nb (.slice Ao165 t168.length co165) k_ ∧ nb (.slice Ao174 t191.length co174) k_ ∧ nb v203 k_ ∧ nb v214 k_)) (by exact Kd.R_mono HO_7.out (fun _ hk => ⟨⟨hk.1.1.1, ⟨hk.1.1.2.1, ⟨hk.1.1.2.2, hk.1.2⟩⟩⟩, hk.2⟩)) hg hat)
           replace HO_11 := Aside0.mk (Kd.R_over' HO_11.out (Kd.R_typed HO208.out) (by decide) hg)
           replace HO_15 := Aside0.mk (Kd.R_over' HO_15.out (Kd.R_typed HO208.out) (by decide) hg)
           replace HO_23 := Aside0.mk (Kd.R_over' HO_23.out (Kd.R_typed HO208.out) (by decide) hg)
           replace HO_27 := Aside0.mk (Kd.R_over' HO_27.out (Kd.R_typed HO208.out) (by decide) hg)
           replace HO_31 := Aside0.mk (Kd.R_over' HO_31.out (Kd.R_typed HO208.out) (by decide) hg)
           replace HO_39 := Aside0.mk (Kd.R_after (ok := (fun k_ => nb (.slice (some ad174) t103.length co87) k_ ∧ nb (.slice Ao174 t191.length co174) k_ ∧ nb v203 k_ ∧ nb (.slice (some ad174) t103.length co87) k_ ∧ nb v214 k_)) (by exact Kd.R_mono HO_39.out (fun _ hk => ⟨⟨hk.1.1.1, ⟨hk.1.1.2.1, ⟨hk.1.1.2.2.1, ⟨hk.1.1.2.2.2, hk.1.2⟩⟩⟩⟩, hk.2⟩)) hg hat)
           replace HO_43 := Aside0.mk (Kd.S_after (ok := (fun k_ => nb (.slice (some ad174) t103.length co87) k_ ∧ nb (.slice Ao165 t168.length co165) k_ ∧ nb (.slice Ao174 t191.length co174) k_ ∧ nb v203 k_ ∧ nb (.slice (some ad174) t103.length co87) k_ ∧ nb v214 k_)) (by exact Kd.S_mono HO_43.out (fun _ hk => ⟨⟨hk.1.1.1, ⟨hk.1.1.2.1, ⟨hk.1.1.2.2.1, ⟨hk.1.1.2.2.2.1, ⟨hk.1.1.2.2.2.2, hk.1.2⟩⟩⟩⟩⟩, hk.2⟩)) hg hat)
           replace HO_45 := Aside0.mk (Kd.R_after (ok := (fun k_ => nb (.slice (some ad174) t103.length co87) k_ ∧ nb (.slice Ao165 t168.length co165) k_ ∧ nb v203 k_ ∧ nb (.slice (some ad174) t103.length co87) k_ ∧ nb v214 k_)) (by exact Kd.R_mono HO_45.out (fun _ hk => ⟨⟨hk.1.1.1, ⟨hk.1.1.2.1, ⟨hk.1.1.2.2.1, ⟨hk.1.1.2.2.2, hk.1.2⟩⟩⟩⟩, hk.2⟩)) hg hat)
           replace HO_51 := Aside0.mk (Kd.R_after (ok := (fun k_ => nb (.slice (some ad174) t103.length co87) k_ ∧ nb (.slice Ao165 t168.length co165) k_ ∧ nb (.slice Ao174 t191.length co174) k_ ∧ nb (.slice (some ad174) t103.length co87) k_ ∧ nb v214 k_)) (by exact Kd.R_mono HO_51.out (fun _ hk => ⟨⟨hk.1.1.1, ⟨hk.1.1.2.1, ⟨hk.1.1.2.2.1, ⟨hk.1.1.2.2.2, hk.1.2⟩⟩⟩⟩, hk.2⟩)) hg hat)
           replace HO_313 := Aside0.mk (Kd.R_after (ok := (fun k_ => nb (.slice Ao165 t168.length co165) k_ ∧ nb (.slice Ao174 t191.length co174) k_ ∧ nb v203 k_ ∧ nb v214 k_)) (by exact Kd.R_mono HO_313.out (fun _ hk => ⟨⟨hk.1.1.1, ⟨hk.1.1.2.1, ⟨hk.1.1.2.2, hk.1.2⟩⟩⟩, hk.2⟩)) hg hat)
           replace HO_419 := Aside0.mk (Kd.S_after (ok := (fun k_ => nb (.slice (some ad174) t103.length co87) k_ ∧ nb (.slice Ao165 t168.length co165) k_ ∧ nb (.slice Ao174 t191.length co174) k_ ∧ nb v203 k_ ∧ nb (.slice (some ad174) t103.length co87) k_ ∧ nb v214 k_)) (by exact Kd.S_mono HO_419.out (fun _ hk => ⟨⟨hk.1.1.1, ⟨hk.1.1.2.1, ⟨hk.1.1.2.2.1, ⟨hk.1.1.2.2.2.1, ⟨hk.1.1.2.2.2.2, hk.1.2⟩⟩⟩⟩⟩, hk.2⟩)) hg hat)
           replace HL196_0 := Aside0.mk (Kd.R_after (ok := (fun k_ => nb (.slice (some ad174) t103.length co87) k_ ∧ nb (.slice Ao165 t168.length co165) k_ ∧ nb (.slice Ao174 t191.length co174) k_ ∧ nb v203 k_ ∧ nb (.slice (some ad174) t103.length co87) k_ ∧ nb v214 k_)) (by exact Kd.R_mono HL196_0.out (fun _ hk => ⟨⟨hk.1.1.1, ⟨hk.1.1.2.1, ⟨hk.1.1.2.2.1, ⟨hk.1.1.2.2.2.1, ⟨hk.1.1.2.2.2.2, hk.1.2⟩⟩⟩⟩⟩, hk.2⟩)) hg hat)
           replace BK101 := Aside0.mk (blk_grown (g := gb101) (o := .cells #[.int .i64 a0_0, .slice A0_1 l0_1.length c0_1] 26 (0, 0)) BK101.out hg (Kd.R_ne HO208.out BK101.out (by decide)))
           replace BK102 := Aside0.mk (blk_grown (g := gb102) (o := .cells #[.int .i64 a1_0, .slice A1_1 l1_1.length c1_1] 26 (0, 0)) BK102.out hg (Kd.R_ne HO208.out BK102.out (by decide)))
           replace BK130 := Aside0.mk (blk_grown (g := gb130) (o := .cells #[.int .i64 t127, .int .i64 t128] 60 (0, 0)) BK130.out hg (Kd.R_ne HO208.out BK130.out (by decide)))
           replace BK134 := Aside0.mk (blk_grown (g := gb134) (o := .cells #[.int .i64 t131, .int .i64 t132] 60 (0, 0)) BK134.out hg (Kd.R_ne HO208.out BK134.out (by decide)))
           replace HO215 := Aside0.mk (Kd.R_after (ok := (fun k_ => nb (.slice (some ad174) t103.length co87) k_ ∧ nb (.slice Ao165 t168.length co165) k_ ∧ nb (.slice Ao174 t191.length co174) k_ ∧ nb v203 k_ ∧ nb (.slice (some ad174) t103.length co87) k_)) (by exact Kd.R_mono HO215.out (fun _ hk => ⟨⟨hk.1.1.1.1.1.2, ⟨hk.1.1.1.1.2, ⟨hk.1.1.1.2, ⟨hk.1.1.2, hk.1.2⟩⟩⟩⟩, hk.2⟩)) hg hat)
           replace HB := Aside0.mk (hb)
           clear ho hb hg hat
           refine hK.out _ _ trivial (fun hHeld => ?_)
           clear hK K
           refine nM ?_
           exact norm_ (by simp only [putAll, Act.put, sA, sZ, sS]) (hCont (v207, v211, v214) _ ⟨(by exact Kd.R_mono HO212.out (fun _ hk => ⟨hk.2.2.2.2.2, ⟨hk.2.2.2.2.1, ⟨hk.2.1, ⟨hk.2.2.1, ⟨hk.2.2.2.1, hk.1⟩⟩⟩⟩⟩)), (by exact Kd.R_mono HO215.out (fun _ hk => ⟨hk.2, ⟨hk.1.2.2.2.2, ⟨hk.1.2.1, ⟨hk.1.2.2.1, ⟨hk.1.2.2.2.1, hk.1.1⟩⟩⟩⟩⟩)), HO_11.out, HO_15.out, HO_23.out, HO_27.out, HO_31.out, (by exact Kd.R_mono HO_313.out (fun _ hk => ⟨hk.2, ⟨hk.1.2.2.2, ⟨hk.1.1, ⟨hk.1.2.1, hk.1.2.2.1⟩⟩⟩⟩)), (by exact Kd.R_mono HO_39.out (fun _ hk => ⟨hk.2, ⟨hk.1.2.2.2.2, ⟨hk.1.2.2.2.1, ⟨hk.1.2.1, ⟨hk.1.2.2.1, hk.1.1⟩⟩⟩⟩⟩)), (by exact Kd.S_mono HO_419.out (fun _ hk => ⟨hk.2, ⟨hk.1.2.2.2.2.2, ⟨hk.1.2.2.2.2.1, ⟨hk.1.2.1, ⟨hk.1.2.2.1, ⟨hk.1.2.2.2.1, hk.1.1⟩⟩⟩⟩⟩⟩)), (by exact Kd.R_mono HL196_0.out (fun _ hk => ⟨hk.2, ⟨hk.1.2.2.2.2.2, ⟨hk.1.2.2.2.2.1, ⟨hk.1.2.1, ⟨hk.1.2.2.1, ⟨hk.1.2.2.2.1, hk.1.1⟩⟩⟩⟩⟩⟩)), (by exact Kd.S_mono HO_43.out (fun _ hk => ⟨hk.2, ⟨hk.1.2.2.2.2.2, ⟨hk.1.2.2.2.2.1, ⟨hk.1.2.1, ⟨hk.1.2.2.1, ⟨hk.1.2.2.2.1, hk.1.1⟩⟩⟩⟩⟩⟩)), (by exact Kd.R_mono HO_45.out (fun _ hk => ⟨hk.2, ⟨hk.1.2.2.2.2, ⟨hk.1.2.2.2.1, ⟨hk.1.2.1, ⟨hk.1.2.2.1, hk.1.1⟩⟩⟩⟩⟩)), (by exact Kd.R_mono HO_51.out (fun _ hk => ⟨hk.2, ⟨hk.1.2.2.2.2, ⟨hk.1.2.2.2.1, ⟨hk.1.2.1, ⟨hk.1.2.2.1, hk.1.1⟩⟩⟩⟩⟩)), (by exact Kd.R_mono HO_7.out (fun _ hk => ⟨hk.2, ⟨hk.1.2.2.2, ⟨hk.1.1, ⟨hk.1.2.1, hk.1.2.2.1⟩⟩⟩⟩)), BK101.out, BK102.out, BK130.out, BK134.out, HB.out⟩)
          rintro ⟨v207, v211, v214⟩ w211 ⟨h0_, h1_, h2_, h3_, h4_, h5_, h6_, h7_, h8_, h9_, hL_, h10_, h11_, h12_, h13_, h14_, h15_, h16_, h17_, h18_⟩
          have n0_ : Aside0 (Kd.R (Kd.int .i64) 3 w211 w.heap.size (fun k_ => nb v214 k_ ∧ nb (.slice (some ad174) t103.length co87) k_ ∧ nb (.slice Ao165 t168.length co165) k_ ∧ nb (.slice Ao174 t191.length co174) k_ ∧ nb v203 k_ ∧ nb (.slice (some ad174) t103.length co87) k_) v211 y210) := ⟨h0_⟩
          have n1_ : Aside0 (Kd.R (Kd.int .i64) 3 w211 w.heap.size (fun k_ => nb v211 k_ ∧ nb (.slice (some ad174) t103.length co87) k_ ∧ nb (.slice Ao165 t168.length co165) k_ ∧ nb (.slice Ao174 t191.length co174) k_ ∧ nb v203 k_ ∧ nb (.slice (some ad174) t103.length co87) k_) v214 y213) := ⟨h1_⟩
          have n2_ : Aside0 (Kd.R k60 60 w211 w.heap.size (fun k_ => nb (.slice (some ad177) t119.length co91) k_ ∧ nb (.slice (some ad180) t135.length co95) k_ ∧ nb (.slice (some ad182) t143.length co97) k_ ∧ nb (.slice (some ad184) t151.length co99) k_ ∧ k_ ≠ gb130 ∧ k_ ≠ gb134) (.slice (some ad175) t111.length co89) t111) := ⟨h2_⟩
          have n3_ : Aside0 (Kd.R k60 60 w211 w.heap.size (fun k_ => nb (.slice (some ad175) t111.length co89) k_ ∧ nb (.slice (some ad180) t135.length co95) k_ ∧ nb (.slice (some ad182) t143.length co97) k_ ∧ nb (.slice (some ad184) t151.length co99) k_ ∧ k_ ≠ gb130 ∧ k_ ≠ gb134) (.slice (some ad177) t119.length co91) t119) := ⟨h3_⟩
          have n4_ : Aside0 (Kd.R k60 60 w211 w.heap.size (fun k_ => nb (.slice (some ad175) t111.length co89) k_ ∧ nb (.slice (some ad177) t119.length co91) k_ ∧ nb (.slice (some ad182) t143.length co97) k_ ∧ nb (.slice (some ad184) t151.length co99) k_ ∧ k_ ≠ gb130 ∧ k_ ≠ gb134) (.slice (some ad180) t135.length co95) t135) := ⟨h4_⟩
          have n5_ : Aside0 (Kd.R k60 60 w211 w.heap.size (fun k_ => nb (.slice (some ad175) t111.length co89) k_ ∧ nb (.slice (some ad177) t119.length co91) k_ ∧ nb (.slice (some ad180) t135.length co95) k_ ∧ nb (.slice (some ad184) t151.length co99) k_ ∧ k_ ≠ gb130 ∧ k_ ≠ gb134) (.slice (some ad182) t143.length co97) t143) := ⟨h5_⟩
          have n6_ : Aside0 (Kd.R k60 60 w211 w.heap.size (fun k_ => nb (.slice (some ad175) t111.length co89) k_ ∧ nb (.slice (some ad177) t119.length co91) k_ ∧ nb (.slice (some ad180) t135.length co95) k_ ∧ nb (.slice (some ad182) t143.length co97) k_ ∧ k_ ≠ gb130 ∧ k_ ≠ gb134) (.slice (some ad184) t151.length co99) t151) := ⟨h6_⟩
          have n7_ : Aside0 (Kd.R (Kd.int .i64) 3 w211 w.heap.size (fun k_ => nb v211 k_ ∧ nb v214 k_ ∧ nb (.slice Ao165 t168.length co165) k_ ∧ nb (.slice Ao174 t191.length co174) k_ ∧ nb v203 k_) (.slice (some ad174) t103.length co87) t103) := ⟨h7_⟩
          have n8_ : Aside0 (Kd.R (Kd.int .i64) 3 w211 w.heap.size (fun k_ => nb v211 k_ ∧ nb v214 k_ ∧ nb (.slice (some ad174) t103.length co87) k_ ∧ nb (.slice Ao174 t191.length co174) k_ ∧ nb v203 k_ ∧ nb (.slice (some ad174) t103.length co87) k_) (.slice Ao165 t168.length co165) t168) := ⟨h8_⟩
          have n9_ : Aside0 (Kd.S (Kd.slice 3 (Kd.int .i64)) 24 w211 w.heap.size (fun k_ => nb v211 k_ ∧ nb v214 k_ ∧ nb (.slice (some ad174) t103.length co87) k_ ∧ nb (.slice Ao165 t168.length co165) k_ ∧ nb (.slice Ao174 t191.length co174) k_ ∧ nb v203 k_ ∧ nb (.slice (some ad174) t103.length co87) k_) (.slice (some ad196) t187.length co173) t187) := ⟨h9_⟩
          have nL_ : Aside0 (Kd.R (Kd.int .i64) 3 w211 w.heap.size (fun k_ => nb v211 k_ ∧ nb v214 k_ ∧ nb (.slice (some ad174) t103.length co87) k_ ∧ nb (.slice Ao165 t168.length co165) k_ ∧ nb (.slice Ao174 t191.length co174) k_ ∧ nb v203 k_ ∧ nb (.slice (some ad174) t103.length co87) k_) (.slice A196_0 (rd_L2 t187 x421_2).length c196_0) (rd_L2 t187 x421_2)) := ⟨hL_⟩
          have n10_ : Aside0 (Kd.S (Kd.slice 3 (Kd.int .i64)) 24 w211 w.heap.size (fun k_ => nb v211 k_ ∧ nb v214 k_ ∧ nb (.slice (some ad174) t103.length co87) k_ ∧ nb (.slice Ao165 t168.length co165) k_ ∧ nb (.slice Ao174 t191.length co174) k_ ∧ nb v203 k_ ∧ nb (.slice (some ad174) t103.length co87) k_) (.slice (some ad196) t187.length co173) t187) := ⟨h10_⟩
          have n11_ : Aside0 (Kd.R (Kd.int .i64) 3 w211 w.heap.size (fun k_ => nb v211 k_ ∧ nb v214 k_ ∧ nb (.slice (some ad174) t103.length co87) k_ ∧ nb (.slice Ao165 t168.length co165) k_ ∧ nb v203 k_ ∧ nb (.slice (some ad174) t103.length co87) k_) (.slice Ao174 t191.length co174) t191) := ⟨h11_⟩
          have n12_ : Aside0 (Kd.R (Kd.int .i64) 3 w211 w.heap.size (fun k_ => nb v211 k_ ∧ nb v214 k_ ∧ nb (.slice (some ad174) t103.length co87) k_ ∧ nb (.slice Ao165 t168.length co165) k_ ∧ nb (.slice Ao174 t191.length co174) k_ ∧ nb (.slice (some ad174) t103.length co87) k_) v203 y202) := ⟨h12_⟩
          have n13_ : Aside0 (Kd.R (Kd.int .i64) 3 w211 w.heap.size (fun k_ => nb v211 k_ ∧ nb v214 k_ ∧ nb (.slice Ao165 t168.length co165) k_ ∧ nb (.slice Ao174 t191.length co174) k_ ∧ nb v203 k_) (.slice (some ad174) t103.length co87) t103) := ⟨h13_⟩
          have n14_ : Aside0 (w211.heap[gb101]? = some (.cells #[.int .i64 a0_0, .slice A0_1 l0_1.length c0_1] 26 (0, 0))) := ⟨h14_⟩
          have n15_ : Aside0 (w211.heap[gb102]? = some (.cells #[.int .i64 a1_0, .slice A1_1 l1_1.length c1_1] 26 (0, 0))) := ⟨h15_⟩
          have n16_ : Aside0 (w211.heap[gb130]? = some (.cells #[.int .i64 t127, .int .i64 t128] 60 (0, 0))) := ⟨h16_⟩
          have n17_ : Aside0 (w211.heap[gb134]? = some (.cells #[.int .i64 t131, .int .i64 t132] 60 (0, 0))) := ⟨h17_⟩
          have n18_ : Aside0 (Below w.heap.size w w211) := ⟨h18_⟩
          clear HO_7
          clear HO_11
          clear HO_15
          clear HO_23
          clear HO_27
          clear HO_31
          clear HO_39
          clear HO_43
          clear HO_45
          clear HO_51
          clear HO_313
          clear HO_419
          clear HL196_0
          clear BK101
          clear BK102
          clear BK130
          clear BK134
          clear HB
          clear h0_ h1_ h2_ h3_ h4_ h5_ h6_ h7_ h8_ h9_ h10_ h11_ h12_ h13_ h14_ h15_ h16_ h17_ h18_
          have HO212 := n0_
          have HO215 := n1_
          have HO_11 := n2_
          have HO_15 := n3_
          have HO_23 := n4_
          have HO_27 := n5_
          have HO_31 := n6_
          have HO_313 := n7_
          have HO_39 := n8_
          have HO_419 := n9_
          have HL196_0 := nL_
          have HO_43 := n10_
          have HO_45 := n11_
          have HO_51 := n12_
          have HO_7 := n13_
          have BK101 := n14_
          have BK102 := n15_
          have BK130 := n16_
          have BK134 := n17_
          have HB := n18_
          clear n0_ n1_ n2_ n3_ n4_ n5_ n6_ n7_ n8_ n9_ n10_ n11_ n12_ n13_ n14_ n15_ n16_ n17_ n18_
          have hHeld := trivial
          obtain ⟨Ao213, co213, eo213⟩ := Kd.R_slice HO215.out
          (first | subst eo213 | (injection eo213 with f1_ f2_ f3_; have f4_ := f1_.symm; have f5_ := f3_.symm; clear f1_ f2_ f3_; subst f4_; subst f5_))
          refine norm_ (a' := ?_) ?_ ?_
          rotate_left
          ·simp only [putAll, Act.put, sA, sZ, sS]
           rfl
          refine oN 7 HT_ (fun K hK => ?_)
          refine Kd.R_append_rows_step (Kd.int .i64) (w0 := w) w.heap.size (by rfl) (.tmp 453) (.tmp 455) 24 3 (.int .i64 0) 8 rfl Tryz.underlying24 info3 rfl (by decide) (by omega) v211 y210 y213 _ _ _ (fun k_ => nb (.slice (some ad174) t103.length co87) k_ ∧ nb (.slice Ao165 t168.length co165) k_ ∧ nb (.slice Ao174 t191.length co174) k_ ∧ nb v203 k_ ∧ nb (.slice (some ad174) t103.length co87) k_ ∧ nb (.slice Ao213 y213.length co213) k_) (fun _ => False) rfl rfl ?aO ?aR (fun _ _ h => h) (fun _ h => h.elim) ?aF ?aB ?aS ?aL ?_
          (case aR => repeat (first | exact (Kd.R_reads' HO215.out).2.2 | (with_reducible refine Kd.C_alloc ?_ _) | (with_reducible refine Kd.C_drewN ?_ _) | (with_reducible refine Kd.C_drew ?_)))
          (case aB => exact HB.out)
          (case aF => exact (fun k_ hk => ⟨Kd.fresh' (Kd.R_lt HO_7.out) k_ hk, Kd.fresh' (Kd.R_lt HO_39.out) k_ hk, Kd.fresh' (Kd.R_lt HO_45.out) k_ hk, Kd.fresh' (Kd.R_lt HO_51.out) k_ hk, Kd.fresh' (Kd.R_lt HO_313.out) k_ hk, Kd.fresh' (Kd.R_lt HO215.out) k_ hk⟩))
          (case aO => exact (by exact Kd.R_mono HO212.out (fun _ hk => ⟨hk.2.2.2.2.2, ⟨hk.2.2.1, ⟨hk.2.2.2.1, ⟨hk.2.2.2.2.1, ⟨hk.2.1, hk.1⟩⟩⟩⟩⟩)))
          (case aS => exact (below_size HB.out))
          (case aL => have := LMc197.out; omega)
          intro v217 w212 ho hb hg hat
          rw [← Ny216.out] at ho
          have HO218 := Aside0.mk (ho)
          replace HO_7 := Aside0.mk (Kd.R_after (ok := (fun k_ => nb (.slice Ao165 t168.length co165) k_ ∧ nb (.slice Ao174 t191.length co174) k_ ∧ nb v203 k_ ∧ nb (.slice Ao213 y213.length co213) k_)) (by exact Kd.R_mono HO_7.out (fun _ hk => ⟨⟨hk.2.2.1, ⟨hk.2.2.2.1, ⟨hk.2.2.2.2, hk.2.1⟩⟩⟩, hk.1⟩)) hg hat)
          replace HO_11 := Aside0.mk (Kd.R_over' HO_11.out (Kd.R_typed HO212.out) (by decide) hg)
          replace HO_15 := Aside0.mk (Kd.R_over' HO_15.out (Kd.R_typed HO212.out) (by decide) hg)
          replace HO_23 := Aside0.mk (Kd.R_over' HO_23.out (Kd.R_typed HO212.out) (by decide) hg)
          replace HO_27 := Aside0.mk (Kd.R_over' HO_27.out (Kd.R_typed HO212.out) (by decide) hg)
          replace HO_31 := Aside0.mk (Kd.R_over' HO_31.out (Kd.R_typed HO212.out) (by decide) hg)
          replace HO_39 := Aside0.mk (Kd.R_after (ok := (fun k_ => nb (.slice (some ad174) t103.length co87) k_ ∧ nb (.slice Ao174 t191.length co174) k_ ∧ nb v203 k_ ∧ nb (.slice (some ad174) t103.length co87) k_ ∧ nb (.slice Ao213 y213.length co213) k_)) (by exact Kd.R_mono HO_39.out (fun _ hk => ⟨⟨hk.2.2.2.2.2, ⟨hk.2.2.2.1, ⟨hk.2.2.2.2.1, ⟨hk.2.2.1, hk.2.1⟩⟩⟩⟩, hk.1⟩)) hg hat)
          replace HO_43 := Aside0.mk (Kd.S_after (ok := (fun k_ => nb (.slice (some ad174) t103.length co87) k_ ∧ nb (.slice Ao165 t168.length co165) k_ ∧ nb (.slice Ao174 t191.length co174) k_ ∧ nb v203 k_ ∧ nb (.slice (some ad174) t103.length co87) k_ ∧ nb (.slice Ao213 y213.length co213) k_)) (by exact Kd.S_mono HO_43.out (fun _ hk => ⟨⟨hk.2.2.2.2.2.2, ⟨hk.2.2.2.1, ⟨hk.2.2.2.2.1, ⟨hk.2.2.2.2.2.1, ⟨hk.2.2.1, hk.2.1⟩⟩⟩⟩⟩, hk.1⟩)) hg hat)
          replace HO_45 := Aside0.mk (Kd.R_after (ok := (fun k_ => nb (.slice (some ad174) t103.length co87) k_ ∧ nb (.slice Ao165 t168.length co165) k_ ∧ nb v203 k_ ∧ nb (.slice (some ad174) t103.length co87) k_ ∧ nb (.slice Ao213 y213.length co213) k_)) (by exact Kd.R_mono HO_45.out (fun _ hk => ⟨⟨hk.2.2.2.2.2, ⟨hk.2.2.2.1, ⟨hk.2.2.2.2.1, ⟨hk.2.2.1, hk.2.1⟩⟩⟩⟩, hk.1⟩)) hg hat)
          replace HO_51 := Aside0.mk (Kd.R_after (ok := (fun k_ => nb (.slice (some ad174) t103.length co87) k_ ∧ nb (.slice Ao165 t168.length co165) k_ ∧ nb (.slice Ao174 t191.length co174) k_ ∧ nb (.slice (some ad174) t103.length co87) k_ ∧ nb (.slice Ao213 y213.length co213) k_)) (by exact Kd.R_mono HO_51.out (fun _ hk => ⟨⟨hk.2.2.2.2.2, ⟨hk.2.2.2.1, ⟨hk.2.2.2.2.1, ⟨hk.2.2.1, hk.2.1⟩⟩⟩⟩, hk.1⟩)) hg hat)
          replace HO_313 := Aside0.mk (Kd.R_after (ok := (fun k_ => nb (.slice Ao165 t168.length co165) k_ ∧ nb (.slice Ao174 t191.length co174) k_ ∧ nb v203 k_ ∧ nb (.slice Ao213 y213.length co213) k_)) (by exact Kd.R_mono HO_313.out (fun _ hk => ⟨⟨hk.2.2.1, ⟨hk.2.2.2.1, ⟨hk.2.2.2.2, hk.2.1⟩⟩⟩, hk.1⟩)) hg hat)
          replace HO_419 := Aside0.mk (Kd.S_after (ok := (fun k_ => nb (.slice (some ad174) t103.length co87) k_ ∧ nb (.slice Ao165 t168.length co165) k_ ∧ nb (.slice Ao174 t191.length co174) k_ ∧ nb v203 k_ ∧ nb (.slice (some ad174) t103.length co87) k_ ∧ nb (.slice Ao213 y213.length co213) k_)) (by exact Kd.S_mono HO_419.out (fun _ hk => ⟨⟨hk.2.2.2.2.2.2, ⟨hk.2.2.2.1, ⟨hk.2.2.2.2.1, ⟨hk.2.2.2.2.2.1, ⟨hk.2.2.1, hk.2.1⟩⟩⟩⟩⟩, hk.1⟩)) hg hat)
          replace HL196_0 := Aside0.mk (Kd.R_after (ok := (fun k_ => nb (.slice (some ad174) t103.length co87) k_ ∧ nb (.slice Ao165 t168.length co165) k_ ∧ nb (.slice Ao174 t191.length co174) k_ ∧ nb v203 k_ ∧ nb (.slice (some ad174) t103.length co87) k_ ∧ nb (.slice Ao213 y213.length co213) k_)) (by exact Kd.R_mono HL196_0.out (fun _ hk => ⟨⟨hk.2.2.2.2.2.2, ⟨hk.2.2.2.1, ⟨hk.2.2.2.2.1, ⟨hk.2.2.2.2.2.1, ⟨hk.2.2.1, hk.2.1⟩⟩⟩⟩⟩, hk.1⟩)) hg hat)
          replace BK101 := Aside0.mk (blk_grown (g := gb101) (o := .cells #[.int .i64 a0_0, .slice A0_1 l0_1.length c0_1] 26 (0, 0)) BK101.out hg (Kd.R_ne HO212.out BK101.out (by decide)))
          replace BK102 := Aside0.mk (blk_grown (g := gb102) (o := .cells #[.int .i64 a1_0, .slice A1_1 l1_1.length c1_1] 26 (0, 0)) BK102.out hg (Kd.R_ne HO212.out BK102.out (by decide)))
          replace BK130 := Aside0.mk (blk_grown (g := gb130) (o := .cells #[.int .i64 t127, .int .i64 t128] 60 (0, 0)) BK130.out hg (Kd.R_ne HO212.out BK130.out (by decide)))
          replace BK134 := Aside0.mk (blk_grown (g := gb134) (o := .cells #[.int .i64 t131, .int .i64 t132] 60 (0, 0)) BK134.out hg (Kd.R_ne HO212.out BK134.out (by decide)))
          replace HO215 := Aside0.mk (Kd.R_after (ok := (fun k_ => nb (.slice (some ad174) t103.length co87) k_ ∧ nb (.slice Ao165 t168.length co165) k_ ∧ nb (.slice Ao174 t191.length co174) k_ ∧ nb v203 k_ ∧ nb (.slice (some ad174) t103.length co87) k_)) (by exact Kd.R_mono HO215.out (fun _ hk => ⟨⟨hk.2.2.2.2.2, ⟨hk.2.2.1, ⟨hk.2.2.2.1, ⟨hk.2.2.2.2.1, hk.2.1⟩⟩⟩⟩, hk.1⟩)) hg hat)
          replace HB := Aside0.mk (hb)
          clear ho hb hg hat
          refine hK.out _ _ trivial (fun hHeld => ?_)
          clear hK K
          refine nM ?_
          refine oN 11 HT_ (fun K hK => ?_)
          refine Kd.R_append_rows_step (Kd.int .i64) (w0 := w) w.heap.size (by rfl) (.tmp 456) (.tmp 459) 24 3 (.int .i64 0) 8 rfl Tryz.underlying24 info3 rfl (by decide) (by omega) v217 y216 ((rd_L2 t187 x421_2).drop (x52_3 : Int).toNat) _ _ _ (fun k_ => nb (.slice (some ad174) t103.length co87) k_ ∧ nb (.slice Ao165 t168.length co165) k_ ∧ nb (.slice Ao174 t191.length co174) k_ ∧ nb v203 k_ ∧ nb (.slice (some ad174) t103.length co87) k_ ∧ nb (.slice Ao213 y213.length co213) k_) (fun _ => False) rfl rfl ?aO ?aR (fun _ _ h => h) (fun _ h => h.elim) ?aF ?aB ?aS ?aL ?_
          (case aR => have hx_ := (Kd.C_of_reads (h1 := fun _ => rfl) (hA205 _ (Kd.reads_of_C (Kd.R_reads' HL196_0.out).2.2))); (try rw [show ((rd_L2 t187 x421_2).drop (x52_3 : Int).toNat).length = ((rd_L2 t187 x421_2).length - x52_3.toNat) from List.length_drop] at hx_); exact hx_)
          (case aB => exact HB.out)
          (case aF => exact (fun k_ hk => ⟨Kd.fresh' (Kd.R_lt HO_7.out) k_ hk, Kd.fresh' (Kd.R_lt HO_39.out) k_ hk, Kd.fresh' (Kd.R_lt HO_45.out) k_ hk, Kd.fresh' (Kd.R_lt HO_51.out) k_ hk, Kd.fresh' (Kd.R_lt HO_313.out) k_ hk, Kd.fresh' (Kd.R_lt HO215.out) k_ hk⟩))
          (case aO => exact HO218.out)
          (case aS => exact (below_size HB.out))
          (case aL => have := LMc200.out; have hlx_ := (show ((rd_L2 t187 x421_2).drop (x52_3 : Int).toNat).length = ((rd_L2 t187 x421_2).length - x52_3.toNat) from List.length_drop); omega)
          intro v221 w214 ho hb hg hat
          rw [← Ny220.out] at ho
          have HO222 := Aside0.mk (ho)
          replace HO_7 := Aside0.mk (Kd.R_after (ok := (fun k_ => nb (.slice Ao165 t168.length co165) k_ ∧ nb (.slice Ao174 t191.length co174) k_ ∧ nb v203 k_ ∧ nb (.slice Ao213 y213.length co213) k_)) HO_7.out hg hat)
          replace HO_11 := Aside0.mk (Kd.R_over' HO_11.out (Kd.R_typed HO218.out) (by decide) hg)
          replace HO_15 := Aside0.mk (Kd.R_over' HO_15.out (Kd.R_typed HO218.out) (by decide) hg)
          replace HO_23 := Aside0.mk (Kd.R_over' HO_23.out (Kd.R_typed HO218.out) (by decide) hg)
          replace HO_27 := Aside0.mk (Kd.R_over' HO_27.out (Kd.R_typed HO218.out) (by decide) hg)
          replace HO_31 := Aside0.mk (Kd.R_over' HO_31.out (Kd.R_typed HO218.out) (by decide) hg)
          replace HO_39 := Aside0.mk (Kd.R_after (ok := (fun k_ => nb (.slice (some ad174) t103.length co87) k_ ∧ nb (.slice Ao174 t191.length co174) k_ ∧ nb v203 k_ ∧ nb (.slice (some ad174) t103.length co87) k_ ∧ nb (.slice Ao213 y213.length co213) k_)) HO_39.out hg hat)
          replace HO_43 := Aside0.mk (Kd.S_after (ok := (fun k_ => nb (.slice (some ad174) t103.length co87) k_ ∧ nb (.slice Ao165 t168.length co165) k_ ∧ nb (.slice Ao174 t191.length co174) k_ ∧ nb v203 k_ ∧ nb (.slice (some ad174) t103.length co87) k_ ∧ nb (.slice Ao213 y213.length co213) k_)) HO_43.out hg hat)
          replace HO_45 := Aside0.mk (Kd.R_after (ok := (fun k_ => nb (.slice (some ad174) t103.length co87) k_ ∧ nb (.slice Ao165 t168.length co165) k_ ∧ nb v203 k_ ∧ nb (.slice (some ad174) t103.length co87) k_ ∧ nb (.slice Ao213 y213.length co213) k_)) HO_45.out hg hat)
          replace HO_51 := Aside0.mk (Kd.R_after (ok := (fun k_ => nb (.slice (some ad174) t103.length co87) k_ ∧ nb (.slice Ao165 t168.length co165) k_ ∧ nb (.slice Ao174 t191.length co174) k_ ∧ nb (.slice (some ad174) t103.length co87) k_ ∧ nb (.slice Ao213 y213.length co213) k_)) HO_51.out hg hat)
          replace HO_313 := Aside0.mk (Kd.R_after (ok := (fun k_ => nb (.slice Ao165 t168.length co165) k_ ∧ nb (.slice Ao174 t191.length co174) k_ ∧ nb v203 k_ ∧ nb (.slice Ao213 y213.length co213) k_)) HO_313.out hg hat)
          replace HO_419 := Aside0.mk (Kd.S_after (ok := (fun k_ => nb (.slice (some ad174) t103.length co87) k_ ∧ nb (.slice Ao165 t168.length co165) k_ ∧ nb (.slice Ao174 t191.length co174) k_ ∧ nb v203 k_ ∧ nb (.slice (some ad174) t103.length co87) k_ ∧ nb (.slice Ao213 y213.length co213) k_)) HO_419.out hg hat)
          replace HL196_0 := Aside0.mk (Kd.R_after (ok := (fun k_ => nb (.slice (some ad174) t103.length co87) k_ ∧ nb (.slice Ao165 t168.length co165) k_ ∧ nb (.slice Ao174 t191.length co174) k_ ∧ nb v203 k_ ∧ nb (.slice (some ad174) t103.length co87) k_ ∧ nb (.slice Ao213 y213.length co213) k_)) HL196_0.out hg hat)
          replace BK101 := Aside0.mk (blk_grown (g := gb101) (o := .cells #[.int .i64 a0_0, .slice A0_1 l0_1.length c0_1] 26 (0, 0)) BK101.out hg (Kd.R_ne HO218.out BK101.out (by decide)))
          replace BK102 := Aside0.mk (blk_grown (g := gb102) (o := .cells #[.int .i64 a1_0, .slice A1_1 l1_1.length c1_1] 26 (0, 0)) BK102.out hg (Kd.R_ne HO218.out BK102.out (by decide)))
          replace BK130 := Aside0.mk (blk_grown (g := gb130) (o := .cells #[.int .i64 t127, .int .i64 t128] 60 (0, 0)) BK130.out hg (Kd.R_ne HO218.out BK130.out (by decide)))
          replace BK134 := Aside0.mk (blk_grown (g := gb134) (o := .cells #[.int .i64 t131, .int .i64 t132] 60 (0, 0)) BK134.out hg (Kd.R_ne HO218.out BK134.out (by decide)))
          replace HO215 := Aside0.mk (Kd.R_after (ok := (fun k_ => nb (.slice (some ad174) t103.length co87) k_ ∧ nb (.slice Ao165 t168.length co165) k_ ∧ nb (.slice Ao174 t191.length co174) k_ ∧ nb v203 k_ ∧ nb (.slice (some ad174) t103.length co87) k_)) HO215.out hg hat)
          replace HB := Aside0.mk (hb)
          clear ho hb hg hat
          refine hK.out _ _ trivial (fun hHeld => ?_)
          clear hK K
          refine nM ?_
          refine pU 12 HT_ ?_
          refine done_ (done_of HT_.out (by kernel_rfl)) ?_
          have hnb215 := NB101_102.out
          have hnc215 := NB102_101.out
          have hnb216 := NB101_130.out
          have hnc216 := NB130_101.out
          have hnb217 := NB101_134.out
          have hnc217 := NB134_101.out
          obtain ⟨hcz218_0, hcz218_1, hfz218_0, hfz218_1⟩ := zZ BK101
          obtain ⟨Ao219, co219, eo219⟩ := Kd.R_slice HO222.out
          subst eo219
          go_upto_region 43 with (first | ((with_reducible refine gate_callee (f := 12) rfl ?_); refine gL 464 Tryz.func12 #[.agg #[.int .i64 a0_0, .slice A0_1 l0_1.length c0_1], .slice Ao219 y220.length co219] ?_; (with_reducible refine (impl_IsWinning.calls kj187 a0_0 _ _ l0_1 _ _ y220 t223 t224 _ ?side1 ?side2 ?side3 ?side4 A201.out).mono ?_); (case side1 => have hx_ := (Kd.C_below HR0_1.out HB.out); exact cC); (case side2 => exact HC0_1.out); (case side3 => have hx_ := (Kd.R_reads' HO222.out).2.2; exact cC); (case side4 => exact (Kd.R_reads' HO222.out).2.1); rintro e w220 ⟨rfl, hb⟩; refine ⟨_, rfl, ?_⟩; replace HO_7 := rB HO_7 hb; replace HO_11 := rB HO_11 hb; replace HO_15 := rB HO_15 hb; replace HO_23 := rB HO_23 hb; replace HO_27 := rB HO_27 hb; replace HO_31 := rB HO_31 hb; replace HO_39 := rB HO_39 hb; replace HO_43 := tB HO_43 hb; replace HO_45 := rB HO_45 hb; replace HO_51 := rB HO_51 hb; replace HO_313 := rB HO_313 hb; replace HO_419 := tB HO_419 hb; replace HL196_0 := rB HL196_0 hb; replace HO215 := rB HO215 hb; replace HO222 := rB HO222 hb; replace BK101 := bB BK101 hb; replace BK102 := bB BK102 hb; replace BK130 := bB BK130 hb; replace BK134 := bB BK134 hb; replace HB := sB HB hb; (try clear hb)))
          (try simp only [Act.put, sA, sZ, sS])
          refine cutT_ [F,F,F,F,F,F,F,F,F,F,F,F,F,F,F,F,F,F,F,F,F,F,F,F,F,F,F,F,F,F,F,F,F,F,F,F,F,F,F,F,F,F,F,F,F,F,F,F,F,F,F,F,F,F,F,F,F,F,F,F,F,F,F,F,F,F,F,F,F,F,F,F,F,F,F,F,F,F,F,F,F,F,F,F,F,F,F,F,F,F,F,F,F,F,F,F,F,F,F,F,F,F,F,F,F,F,F,F,F,F,F,F,F,F,F,F,F,F,F,F,F,F,F,F,F,F,F,F,F,F,F,F,F,F,F,F,F,F,F,F,F,F,F,F,F,F,F,F,F,F,F,F,F,F,F,F,F,F,F,F,F,F,F,F,F,F,F,F,F,F,F,F,F,F,F,F,F,F,F,F,F,F,F,F,F,F,F,F,F,F,F,F,F,F,F,F,F,F,F,F,F,F,F,F,F,F,F,F,F,F,F,F,F,F,F,F,F,F,F,F,F,F,F,F,F,F,F,F,F,F,F,F,F,F,F,F,F,F,F,F,F,F,F,F,F,F,F,F,F,F,F,F,F,F,F,F,F,F,F,F,F,F,F,F,F,F,F,F,F,F,F,F,F,F,F,F,F,F,F,F,F,F,F,F,F,F,F,F,F,F,F,F,F,F,F,F,F,F,F,F,F,F,F,F,F,F,F,F,F,F,F,F,F,F,F,F,F,F,F,F,F,F,F,F,F,F,F,F,F,F,F,F,F,F,F,F,F,F,F,F,F,F,F,F,F,F,F,F,F,F,F,F,F,F,F,F,F,F,F,F,F,F,F,F,F,F,F,F,F,F,F,F,F,F,F,F,F,F,F,F,F,F,F,F,F,F,F,F,F,F,F,F,F,F,F,F,F,F,F,F,F,F,F,F,F,F,F,F,F,F,F,F,F,F,F,F,F,F,F,F,F,F,F,F,F,F,F,F,F,F,F,F,F,F,F,F,F,F,F,F,F,F,F,F,F,F,F,F,F,F,F,F,F,F,F,F,F,F,F,F,F,F,F,F,F,F,F,T,T,T,T,T,T,T,T,T,T,T,T,T,T,T,T,T,T,T,T,T,T,T,T,T,T,T,T,T,T,T,T,T,T,T,T,T,T,T,T] (fun T_ wc_ => (fun v506 wc => ∃ (kq : Nat) (x506_201 : Bool), v506 = .bool x506_201 ∧ Aside0 (laws_FnSwingsToldOfAll.j4 kq a2 t103 t111 t119 t135 t143 t151 (l0_1.length : Int) ji104 t166 t168 x315_1 t187 t191 t103 (t103.length : Int) x315_1 t187 (t187.length : Int) x421_2 x506_201 a0_0 l0_1 a1_0 l1_1 = some r) ∧ Aside0 (kq ≤ kj187) ∧ Aside0 (Kd.R (Kd.int .i64) 3 wc w.heap.size (fun k_ => nb (.slice Ao165 t168.length co165) k_ ∧ nb (.slice Ao174 t191.length co174) k_) (.slice (some ad174) t103.length co87) t103) ∧ Aside0 (Kd.R k60 60 wc w.heap.size (fun k_ => nb (.slice (some ad177) t119.length co91) k_ ∧ nb (.slice (some ad180) t135.length co95) k_ ∧ nb (.slice (some ad182) t143.length co97) k_ ∧ nb (.slice (some ad184) t151.length co99) k_ ∧ k_ ≠ gb130 ∧ k_ ≠ gb134) (.slice (some ad175) t111.length co89) t111) ∧ Aside0 (Kd.R k60 60 wc w.heap.size (fun k_ => nb (.slice (some ad175) t111.length co89) k_ ∧ nb (.slice (some ad180) t135.length co95) k_ ∧ nb (.slice (some ad182) t143.length co97) k_ ∧ nb (.slice (some ad184) t151.length co99) k_ ∧ k_ ≠ gb130 ∧ k_ ≠ gb134) (.slice (some ad177) t119.length co91) t119) ∧ Aside0 (Kd.R k60 60 wc w.heap.size (fun k_ => nb (.slice (some ad175) t111.length co89) k_ ∧ nb (.slice (some ad177) t119.length co91) k_ ∧ nb (.slice (some ad182) t143.length co97) k_ ∧ nb (.slice (some ad184) t151.length co99) k_ ∧ k_ ≠ gb130 ∧ k_ ≠ gb134) (.slice (some ad180) t135.length co95) t135) ∧ Aside0 (Kd.R k60 60 wc w.heap.size (fun k_ => nb (.slice (some ad175) t111.length co89) k_ ∧ nb (.slice (some ad177) t119.length co91) k_ ∧ nb (.slice (some ad180) t135.length co95) k_ ∧ nb (.slice (some ad184) t151.length co99) k_ ∧ k_ ≠ gb130 ∧ k_ ≠ gb134) (.slice (some ad182) t143.length co97) t143) ∧ Aside0 (Kd.R k60 60 wc w.heap.size (fun k_ => nb (.slice (some ad175) t111.length co89) k_ ∧ nb (.slice (some ad177) t119.length co91) k_ ∧ nb (.slice (some ad180) t135.length co95) k_ ∧ nb (.slice (some ad182) t143.length co97) k_ ∧ k_ ≠ gb130 ∧ k_ ≠ gb134) (.slice (some ad184) t151.length co99) t151) ∧ Aside0 (Kd.R (Kd.int .i64) 3 wc w.heap.size (fun k_ => nb (.slice (some ad174) t103.length co87) k_ ∧ nb (.slice Ao174 t191.length co174) k_ ∧ nb (.slice (some ad174) t103.length co87) k_) (.slice Ao165 t168.length co165) t168) ∧ Aside0 (Kd.S (Kd.slice 3 (Kd.int .i64)) 24 wc w.heap.size (fun k_ => nb (.slice (some ad174) t103.length co87) k_ ∧ nb (.slice Ao165 t168.length co165) k_ ∧ nb (.slice Ao174 t191.length co174) k_ ∧ nb (.slice (some ad174) t103.length co87) k_) (.slice (some ad196) t187.length co173) t187) ∧ Aside0 (Kd.R (Kd.int .i64) 3 wc w.heap.size (fun k_ => nb (.slice (some ad174) t103.length co87) k_ ∧ nb (.slice Ao165 t168.length co165) k_ ∧ nb (.slice (some ad174) t103.length co87) k_) (.slice Ao174 t191.length co174) t191) ∧ Aside0 (Kd.R (Kd.int .i64) 3 wc w.heap.size (fun k_ => nb (.slice Ao165 t168.length co165) k_ ∧ nb (.slice Ao174 t191.length co174) k_) (.slice (some ad174) t103.length co87) t103) ∧ Aside0 (Kd.S (Kd.slice 3 (Kd.int .i64)) 24 wc w.heap.size (fun k_ => nb (.slice (some ad174) t103.length co87) k_ ∧ nb (.slice Ao165 t168.length co165) k_ ∧ nb (.slice Ao174 t191.length co174) k_ ∧ nb (.slice (some ad174) t103.length co87) k_) (.slice (some ad196) t187.length co173) t187) ∧ Aside0 (wc.heap[gb101]? = some (.cells #[.int .i64 a0_0, (.slice A0_1 l0_1.length c0_1)] 26 (0, 0))) ∧ Aside0 (wc.heap[gb102]? = some (.cells #[.int .i64 a1_0, (.slice A1_1 l1_1.length c1_1)] 26 (0, 0))) ∧ Aside0 (wc.heap[gb130]? = some (.cells #[.int .i64 t127, .int .i64 t128] 60 (0, 0))) ∧ Aside0 (wc.heap[gb134]? = some (.cells #[.int .i64 t131, .int .i64 t132] 60 (0, 0))) ∧ Aside0 (Below w.heap.size w wc)) (T_ 506) wc_) ?restj4 ?firstj4
          case firstj4 => as_aux_lemma =>
           intro J_ K_ hJ_j4 hM_
           have H := HC202.out
           clear HC202
           replace H := ite_yes H
           obtain ⟨c221, H⟩ := H
           subst c221
           replace H := ite_no H
           obtain ⟨c222, H⟩ := H
           replace c222 := Bool.eq_false_iff.mpr c222
           subst c222
           replace H := oA H
           obtain ⟨t225, A223, H⟩ := H
           (try dsimp only at H)
           replace H := ite_no H
           obtain ⟨c224, H⟩ := H
           replace c224 := Bool.eq_false_iff.mpr c224
           subst c224
           replace H := ite_yes H
           obtain ⟨c225, H⟩ := H
           subst c225
           replace H := ite_yes H
           obtain ⟨c226, H⟩ := H
           subst c226
           replace H := ite_yes H
           obtain ⟨c227, H⟩ := H
           have c227b0 : decide (0 ≤ ((rd_L2 t187 x421_2).length : Int)) = true := decide_eq_true c227
           have c227b1 : decide (0 ≤ (rd_L2 t187 x421_2).length) = true := decide_eq_true (by omega)
           clear c227
           (first | rw [c227b0] | (simp only [i64_w, i32_w]; rw [c227b0]) | skip)
           replace H := ite_yes H
           obtain ⟨c228, H⟩ := H
           have c228b0 : decide (((rd_L2 t187 x421_2).length : Int) < (t191.length : Int)) = true := decide_eq_true c228
           have c228b1 : decide ((rd_L2 t187 x421_2).length < t191.length) = true := decide_eq_true (Int.ofNat_lt.mp c228)
           clear c228
           replace H := ite_no H
           obtain ⟨c229, H⟩ := H
           have c229b0 : decide ((rd t191 ((rd_L2 t187 x421_2).length : Int)) < 1) = false := decide_eq_false c229
           clear c229
           by_cases c230 : x421_2 > 0
           rotate_left
           ·rw [if_neg c230] at H
            have c230b0 : decide (0 < x421_2) = false := decide_eq_false c230
            clear c230
            as_aux_lemma =>
             have H' := Aside0.mk H
             clear H
             go_wp2_with (first | (go_at_call 74; (with_reducible refine (laws_zHas.calls kj187 _ _ (rd_L2 t187 x421_2) x315_1 false _ ?side1 ?side2 A223.out).mono ?_); (case side1 => have hx_ := ((Kd.R_reads' HL196_0.out).2.2); exact cC); (case side2 => exact HC196_0.out); rintro e w' ⟨rfl, ⟨nd, rfl⟩⟩; have p226 : 0 ≤ (((rd_L2 t187 x421_2).length : Int) : Int) := oD; have q226 : ((rd_L2 t187 x421_2).length : Int) < (t191.length : Int) := oD; obtain ⟨ad226, e226, hx226_0⟩ := Kd.at_int (Kd.R_reads' HO_45.out).2.2 ((rd_L2 t187 x421_2).length : Int) p226 q226; cases e226; (try simp only [Go.IntWalk.toNatUp] at hx226_0); replace p226 := eq_true p226; replace q226 := eq_true q226))
             refine meetT_ hJ_j4 (by kernel_rfl) ?rel
             case rel => exact ⟨_, (false), gR, H', ⟨by have := HK1.out; have := HK2.out; have := HK3.out; have := HJ187.out; first | omega | exact Nat.le_refl _⟩, ⟨by (with_reducible repeat (first | apply qA | apply qN | apply qD)); exact Kd.R_mono HO_7.out (fun _ hk => by first | exact ⟨hk.1.1, hk.1.2.1⟩ | simp_all)⟩, ⟨rQ HO_11⟩, ⟨rQ HO_15⟩, ⟨rQ HO_23⟩, ⟨rQ HO_27⟩, ⟨rQ HO_31⟩, ⟨by (with_reducible repeat (first | apply qA | apply qN | apply qD)); exact Kd.R_mono HO_39.out (fun _ hk => by first | exact ⟨hk.1.1, ⟨hk.1.2.1, hk.1.2.2.2.1⟩⟩ | simp_all)⟩, ⟨by (with_reducible repeat (first | apply Kd.S_alloc | apply Kd.S_drewN | apply Kd.S_drew)); exact Kd.S_mono HO_43.out (fun _ hk => by first | exact ⟨hk.1.1, ⟨hk.1.2.1, ⟨hk.1.2.2.1, hk.1.2.2.2.2.1⟩⟩⟩ | simp_all)⟩, ⟨by (with_reducible repeat (first | apply qA | apply qN | apply qD)); exact Kd.R_mono HO_45.out (fun _ hk => by first | exact ⟨hk.1.1, ⟨hk.1.2.1, hk.1.2.2.2.1⟩⟩ | simp_all)⟩, ⟨by (with_reducible repeat (first | apply qA | apply qN | apply qD)); exact Kd.R_mono HO_313.out (fun _ hk => by first | exact ⟨hk.1.1, hk.1.2.1⟩ | simp_all)⟩, ⟨by (with_reducible repeat (first | apply Kd.S_alloc | apply Kd.S_drewN | apply Kd.S_drew)); exact Kd.S_mono HO_419.out (fun _ hk => by first | exact ⟨hk.1.1, ⟨hk.1.2.1, ⟨hk.1.2.2.1, hk.1.2.2.2.2.1⟩⟩⟩ | simp_all)⟩, ⟨bQ BK101⟩, ⟨bQ BK102⟩, ⟨bQ BK130⟩, ⟨bQ BK134⟩, ⟨wB⟩⟩
           rw [if_pos c230] at H
           have c230b0 : decide (0 < x421_2) = true := decide_eq_true c230
           clear c230
           obtain ⟨ji231, hji231⟩ : ∃ j_ : Int, (wrap64 (x421_2 - 1)) = j_ := ⟨_, rfl⟩
           replace H : (if 0 ≤ (ji231) then (if (ji231) < (t187.length : Int) then ((laws_zLess.f kj187 (rd_L2 t187 (ji231)) (rd_L2 t187 x421_2)).bind fun t228 => (laws_FnSwingsToldOfAll.j4 kj187 a2 t103 t111 t119 t135 t143 t151 (l0_1.length : Int) ji104 t166 t168 x315_1 t187 t191 t103 (t103.length : Int) x315_1 t187 (t187.length : Int) x421_2 (!t228) a0_0 l0_1 a1_0 l1_1)) else (none)) else (none)) = some r := by first | (rw [hji231] at H; exact H) | (simp only [hji231] at H ⊢; exact H)
           (try rw [hji231] at A223)
           have hji231w : (IntKind.i64.wrap (x421_2 - 1)) = ji231 := (i64_w _).trans hji231
           replace H := ite_yes H
           obtain ⟨c232, H⟩ := H
           have c232b0 : decide (0 ≤ (ji231)) = true := decide_eq_true c232
           clear c232
           replace H := ite_yes H
           obtain ⟨c233, H⟩ := H
           have c233b0 : decide ((ji231) < (t187.length : Int)) = true := decide_eq_true c233
           clear c233
           replace H := oA H
           obtain ⟨t228, A234, H⟩ := H
           (try dsimp only at H)
           as_aux_lemma =>
            have H' := Aside0.mk H
            clear H
            go_wp2_with (first | (go_at_call 74; (with_reducible refine (laws_zHas.calls kj187 _ _ (rd_L2 t187 x421_2) x315_1 false _ ((Kd.R_reads' HL196_0.out).2.2) HC196_0.out A223.out).mono ?_); rintro e w' ⟨rfl, ⟨nd, rfl⟩⟩; have p226 : 0 ≤ (((rd_L2 t187 x421_2).length : Int) : Int) := oD; have q226 : ((rd_L2 t187 x421_2).length : Int) < (t191.length : Int) := oD; obtain ⟨ad226, e226, hx226_0⟩ := Kd.at_int (Kd.R_reads' HO_45.out).2.2 ((rd_L2 t187 x421_2).length : Int) p226 q226; cases e226; (try simp only [Go.IntWalk.toNatUp] at hx226_0); replace p226 := eq_true p226; replace q226 := eq_true q226; have p227 : 0 ≤ ((ji231) : Int) := oD; have q227 : (ji231) < (t187.length : Int) := oD; obtain ⟨ad227, A227_0, c227_0, e227, hx227_0, hl227_0, hi227_0⟩ := at_L2 (Kd.S_reads' HO_43.out).2.2 (ji231) p227 q227; obtain rfl : ad196 = ad227 := (by injection e227); obtain ⟨ce227, hce227, hMe227, hcc227⟩ := Kd.S_get HO_43.out [] (ji231) p227 (by first | exact q227 | exact oD | (have e_ := (Kd.S_reads' HO_43.out).1; omega)); obtain ⟨ve227_0, rfl, ge227_0⟩ := hMe227; have hv227_0 := hcc227 0 _ rfl; rw [Nat.add_zero, show ((Kd.slice 3 (Kd.int .i64))).sz = 1 from rfl, Nat.mul_one] at hv227_0; replace hv227_0 := Option.some.inj (hv227_0.symm.trans hx227_0); rw [hv227_0] at ge227_0; have HL227_0 := Aside0.mk (show Kd.R (Kd.int .i64) 3 _ _ _ _ (rd_L2 t187 (ji231)) from ge227_0); clear hv227_0 ge227_0; clear hcc227 hce227; have HR227_0 := Aside0.mk hi227_0; have HC227_0 := Aside0.mk hl227_0; clear hi227_0 hl227_0; replace p227 := eq_true p227; replace q227 := eq_true q227) | (go_at_call 77; (with_reducible refine (laws_zLess.calls kj187 _ _ (rd_L2 t187 (ji231)) _ _ (rd_L2 t187 x421_2) t228 _ ?side1 ?side2 ?side3 ?side4 A234.out).mono ?_); (case side1 =>  repeat (first | exact (by repeat (first | (with_reducible exact HR227_0.out) | (with_reducible refine Kd.C_alloc ?_ _) | (with_reducible refine Kd.C_drewN ?_ _) | (with_reducible refine Kd.C_drew ?_) | exact HR227_0.out)) | (with_reducible refine Kd.C_alloc ?_ _) | (with_reducible refine Kd.C_drewN ?_ _) | (with_reducible refine Kd.C_drew ?_))); (case side2 => exact HC227_0.out); (case side3 => have hx_ := ((Kd.R_reads' HL196_0.out).2.2); exact cC); (case side4 => exact HC196_0.out); rintro e w' ⟨rfl, ⟨nd, rfl⟩⟩))
            refine meetT_ hJ_j4 (by kernel_rfl) ?rel
            case rel => exact ⟨_, (!t228), gR, H', ⟨by have := HK1.out; have := HK2.out; have := HK3.out; have := HJ187.out; first | omega | exact Nat.le_refl _⟩, ⟨by (with_reducible repeat (first | apply qA | apply qN | apply qD)); exact Kd.R_mono HO_7.out (fun _ hk => by first | exact ⟨hk.1.1, hk.1.2.1⟩ | simp_all)⟩, ⟨rQ HO_11⟩, ⟨rQ HO_15⟩, ⟨rQ HO_23⟩, ⟨rQ HO_27⟩, ⟨rQ HO_31⟩, ⟨by (with_reducible repeat (first | apply qA | apply qN | apply qD)); exact Kd.R_mono HO_39.out (fun _ hk => by first | exact ⟨hk.1.1, ⟨hk.1.2.1, hk.1.2.2.2.1⟩⟩ | simp_all)⟩, ⟨by (with_reducible repeat (first | apply Kd.S_alloc | apply Kd.S_drewN | apply Kd.S_drew)); exact Kd.S_mono HO_43.out (fun _ hk => by first | exact ⟨hk.1.1, ⟨hk.1.2.1, ⟨hk.1.2.2.1, hk.1.2.2.2.2.1⟩⟩⟩ | simp_all)⟩, ⟨by (with_reducible repeat (first | apply qA | apply qN | apply qD)); exact Kd.R_mono HO_45.out (fun _ hk => by first | exact ⟨hk.1.1, ⟨hk.1.2.1, hk.1.2.2.2.1⟩⟩ | simp_all)⟩, ⟨by (with_reducible repeat (first | apply qA | apply qN | apply qD)); exact Kd.R_mono HO_313.out (fun _ hk => by first | exact ⟨hk.1.1, hk.1.2.1⟩ | simp_all)⟩, ⟨by (with_reducible repeat (first | apply Kd.S_alloc | apply Kd.S_drewN | apply Kd.S_drew)); exact Kd.S_mono HO_419.out (fun _ hk => by first | exact ⟨hk.1.1, ⟨hk.1.2.1, ⟨hk.1.2.2.1, hk.1.2.2.2.2.1⟩⟩⟩ | simp_all)⟩, ⟨bQ BK101⟩, ⟨bQ BK102⟩, ⟨bQ BK130⟩, ⟨bQ BK134⟩, ⟨wB⟩⟩
          case restj4 => as_aux_lemma =>
           intro T_ wc hcut
           (try clear hji231 hji231w)
           simp only [putT, putM, T, F, Nat.reduceAdd]
           (try dsimp only at hcut)
           generalize T_ 506 = u506 at hcut ⊢
           clear HC202
           (try clear c1); (try clear c2); (try clear p2); (try clear q2); (try clear hx2); (try clear p6); (try clear c12); (try clear c19); (try clear c20); (try clear c21); (try clear c22); (try clear p22); (try clear q22); (try clear hx22); (try clear c23); (try clear p64); (try clear c196); (try clear c197); (try clear c200); (try clear c215); (try clear c216); (try clear c217); (try clear c221); (try clear c222); (try clear c224); (try clear c225); (try clear c226); (try clear p226); (try clear q226); (try clear hx226); (try clear c227); (try clear c227b0); (try clear c227b1); (try clear p227); (try clear q227); (try clear hx227); (try clear c228); (try clear c228b0); (try clear c228b1); (try clear c229); (try clear c229b0); (try clear c230); (try clear c230b0); (try clear c232); (try clear c232b0); (try clear c233); (try clear c233b0); (try clear hcz218_0); (try clear hcz218_1); (try clear hfz218_0); (try clear hfz218_1); (try clear hx226_0); (try clear hx227_0); (try clear p226); (try clear p227); (try clear q226); (try clear q227)
           obtain ⟨kq, x506_201, rfl, HA, HJ201, HO_7, HO_11, HO_15, HO_23, HO_27, HO_31, HO_39, HO_43, HO_45, HO_313, HO_419, BK101, BK102, BK130, BK134, HB⟩ := hcut
           cases kq with
           | zero => exact absurd HA.out (by simp [laws_FnSwingsToldOfAll.j4])
           | succ kj201 =>
            have H := HA.out
            clear HA
            simp only [laws_FnSwingsToldOfAll.j4] at H
            replace H := ite_no H
            obtain ⟨c235, H⟩ := H
            replace c235 := Bool.eq_false_iff.mpr c235
            subst c235
            as_aux_lemma =>
             have H' := Aside0.mk H
             clear H
             go_wp2
             refine roundT_ kj201 ?measure hJ_l1 (by kernel_rfl) ?rel
             case measure => have := HK1.out; have := HK2.out; have := HK3.out; have := HJ187.out; have := HJ201.out; omega
             case rel => exact ⟨(wrap64 (x421_2 + 1)), gR, H', ⟨by have := HK1.out; have := HK2.out; have := HK3.out; have := HJ187.out; have := HJ201.out; omega⟩, ⟨by exact HO_7.out⟩, ⟨by exact HO_11.out⟩, ⟨by exact HO_15.out⟩, ⟨by exact HO_23.out⟩, ⟨by exact HO_27.out⟩, ⟨by exact HO_31.out⟩, ⟨by exact HO_39.out⟩, ⟨by exact HO_43.out⟩, ⟨by exact HO_45.out⟩, ⟨by exact HO_313.out⟩, ⟨by exact HO_419.out⟩, ⟨by exact BK101.out⟩, ⟨by exact BK102.out⟩, ⟨by exact BK130.out⟩, ⟨by exact BK134.out⟩, ⟨wB⟩⟩
 case restj5 => as_aux_lemma =>
  intro T_ wc hcut
  simp only [putT, putM, T, F, Nat.reduceAdd]
  (try dsimp only at hcut)
  clear HC46
  (try clear c1); (try clear c2); (try clear p2); (try clear q2); (try clear hx2); (try clear p6); (try clear c10); (try clear c12); (try clear c13); (try clear c17); (try clear c19); (try clear c20); (try clear c21); (try clear c22); (try clear p22); (try clear q22); (try clear hx22); (try clear c23); (try clear p64); (try clear c103); (try clear c130); (try clear c130b0); (try clear c175); (try clear c175b0); (try clear c196); (try clear c197); (try clear c200); (try clear c215); (try clear c216); (try clear c217); (try clear c221); (try clear c222); (try clear c224); (try clear c225); (try clear c226); (try clear p226); (try clear q226); (try clear hx226); (try clear c227); (try clear c227b0); (try clear c227b1); (try clear p227); (try clear q227); (try clear hx227); (try clear c228); (try clear c228b0); (try clear c228b1); (try clear c229); (try clear c229b0); (try clear c230); (try clear c230b0); (try clear c232); (try clear c232b0); (try clear c233); (try clear c233b0); (try clear c235); (try clear hcz218_0); (try clear hcz218_1); (try clear hfz218_0); (try clear hfz218_1); (try clear hx226_0); (try clear hx227_0); (try clear p2); (try clear p22); (try clear p226); (try clear p227); (try clear p6); (try clear p64); (try clear q2); (try clear q22); (try clear q226); (try clear q227)
  obtain ⟨kq, HA, HJ45, BK101, BK102, BK130, BK134, HB⟩ := hcut
  cases kq with
  | zero => exact absurd HA.out (by simp [laws_FnSwingsToldOfAll.j5])
  | succ kj45 =>
   have H := HA.out
   clear HA
   simp only [laws_FnSwingsToldOfAll.j5] at H
   replace H := oB H
   obtain ⟨⟨t229, t232⟩, A2360, H⟩ := H
   (try dsimp only at H)
   have A236 := Aside0.mk A2360
   clear A2360
   replace H := oB H
   obtain ⟨⟨t233, t236⟩, A2370, H⟩ := H
   (try dsimp only at H)
   have A237 := Aside0.mk A2370
   clear A2370
   replace H := oB H
   obtain ⟨⟨t237, t240⟩, A2380, H⟩ := H
   (try dsimp only at H)
   have A238 := Aside0.mk A2380
   clear A2380
   replace H := oB H
   obtain ⟨⟨t241, t244⟩, A2390, H⟩ := H
   (try dsimp only at H)
   have A239 := Aside0.mk A2390
   clear A2390
   replace H := ite_yes H
   obtain ⟨c240, H⟩ := H
   have c240b0 : (t232 == t236) = true := c240
   (try (have c240b1 : decide (t232 = t236) = true := by simpa using c240))
   (try (have c240b2 : (t232 == t236) = true := by simpa using c240))
   clear c240
   replace H := oA H
   obtain ⟨t245, A241, H⟩ := H
   (try dsimp only at H)
   replace H := ite_yes H
   obtain ⟨c242, H⟩ := H
   subst c242
   replace H := ite_yes H
   obtain ⟨c243, H⟩ := H
   have c243b0 : (t240 == t244) = true := c243
   (try (have c243b1 : decide (t240 = t244) = true := by simpa using c243))
   (try (have c243b2 : (t240 == t244) = true := by simpa using c243))
   clear c243
   replace H := oA H
   obtain ⟨t246, A244, H⟩ := H
   (try dsimp only at H)
   replace H := ite_yes H
   obtain ⟨c245, H⟩ := H
   subst c245
   as_aux_lemma =>
    obtain rfl := Option.some.inj H
    have hnb246 := NB102_101.out
    have hnc246 := NB101_102.out
    have hnb247 := NB102_130.out
    have hnc247 := NB130_102.out
    have hnb248 := NB102_134.out
    have hnc248 := NB134_102.out
    obtain ⟨hcz249_0, hcz249_1, hfz249_0, hfz249_1⟩ := zZ BK102
    go_upto_region 48 with (first | ((with_reducible refine gate_callee (f := 75) rfl ?_); refine gL 512 Tryz.func75 #[.agg #[.int .i64 a1_0, .slice A1_1 l1_1.length c1_1], .int .i64 a2] ?_; (with_reducible refine (impl_SwingSets.calls kj45 a1_0 _ _ l1_1 a2 t229 t232 _ (Kd.C_below HR1_1.out HB.out) HC1_1.out A236.out).mono ?_); rintro e w250 ⟨v230, rfl, ho0, hb⟩; refine ⟨_, rfl, ?_⟩; have HO231 := Aside0.mk (Kd.S_lower ho0 (below_size HB.out)); replace BK101 := bB BK101 hb; replace BK102 := bB BK102 hb; replace BK130 := bB BK130 hb; replace BK134 := bB BK134 hb; replace HB := sB HB hb; (try clear hb); (try clear ho0); (try clear hcz249_0 hcz249_1 hfz249_0 hfz249_1); obtain ⟨hcz251_0, hcz251_1, hfz251_0, hfz251_1⟩ := zZ BK102))
    go_upto_region 49 with (first | ((with_reducible refine gate_callee (f := 78) rfl ?_); refine gL 518 Tryz.func78 #[.agg #[.int .i64 a1_0, .slice A1_1 l1_1.length c1_1], .int .i64 a2] ?_; (with_reducible refine (spec_SwingSets.calls kj45 a1_0 _ _ l1_1 a2 t233 t236 _ (Kd.C_below HR1_1.out HB.out) HC1_1.out A237.out).mono ?_); rintro e w252 ⟨v234, rfl, ho0, hb⟩; refine ⟨_, rfl, ?_⟩; have HO235 := Aside0.mk (Kd.S_lower (Kd.S_new' ho0 (Kd.S_lt HO231.out)) (below_size HB.out)); replace HO231 := tE HO231 (Kd.S_base ho0) hb; replace BK101 := bB BK101 hb; replace BK102 := bB BK102 hb; replace BK130 := bB BK130 hb; replace BK134 := bB BK134 hb; replace HB := sB HB hb; (try clear hb); (try clear ho0); (try clear hcz251_0 hcz251_1 hfz251_0 hfz251_1); obtain ⟨hcz253_0, hcz253_1, hfz253_0, hfz253_1⟩ := zZ BK102))
    go_upto_region 50 with (first | ((with_reducible refine gate_callee (f := 76) rfl ?_); refine gL 524 Tryz.func76 #[.agg #[.int .i64 a1_0, .slice A1_1 l1_1.length c1_1], .int .i64 a2] ?_; (with_reducible refine (impl_SwingsBySize.calls kj45 a1_0 _ _ l1_1 a2 t237 t240 _ (Kd.C_below HR1_1.out HB.out) HC1_1.out A238.out).mono ?_); rintro e w254 ⟨v238, rfl, ho0, hb⟩; refine ⟨_, rfl, ?_⟩; have HO239 := Aside0.mk (Kd.R_lower ho0 (below_size HB.out)); replace HO231 := tE HO231 (Kd.R_base ho0) hb; replace HO235 := tE HO235 (Kd.R_base ho0) hb; replace BK101 := bB BK101 hb; replace BK102 := bB BK102 hb; replace BK130 := bB BK130 hb; replace BK134 := bB BK134 hb; replace HB := sB HB hb; (try clear hb); (try clear ho0); (try clear hcz253_0 hcz253_1 hfz253_0 hfz253_1); obtain ⟨hcz255_0, hcz255_1, hfz255_0, hfz255_1⟩ := zZ BK102))
    go_upto_region 51 with (first | ((with_reducible refine gate_callee (f := 79) rfl ?_); refine gL 530 Tryz.func79 #[.agg #[.int .i64 a1_0, .slice A1_1 l1_1.length c1_1], .int .i64 a2] ?_; (with_reducible refine (spec_SwingsBySize.calls kj45 a1_0 _ _ l1_1 a2 t241 t244 _ (Kd.C_below HR1_1.out HB.out) HC1_1.out A239.out).mono ?_); rintro e w256 ⟨v242, rfl, ho0, hb⟩; refine ⟨_, rfl, ?_⟩; have HO243 := Aside0.mk (Kd.R_lower (Kd.R_new' ho0 (Kd.R_lt HO239.out)) (below_size HB.out)); replace HO231 := tE HO231 (Kd.R_base ho0) hb; replace HO235 := tE HO235 (Kd.R_base ho0) hb; replace HO239 := rE HO239 (Kd.R_base ho0) hb; replace BK101 := bB BK101 hb; replace BK102 := bB BK102 hb; replace BK130 := bB BK130 hb; replace BK134 := bB BK134 hb; replace HB := sB HB hb; (try clear hb); (try clear ho0); obtain ⟨Ao257, co257, eo257⟩ := Kd.S_slice HO231.out; subst eo257; obtain ⟨Ao258, co258, eo258⟩ := Kd.S_slice HO235.out; subst eo258))
    go_wp2_with (first | (go_at_call 80; (with_reducible refine (laws_zRows.calls kj45 _ _ t229 _ _ t233 true _ ?side1 ?side2 ?side3 ?side4 A241.out).mono ?_); (case side1 => have hx_ := (Kd.S_reads' HO231.out).2.2; exact cC); (case side2 => exact (Kd.S_reads' HO231.out).2.1); (case side3 => have hx_ := (Kd.S_reads' HO235.out).2.2; exact cC); (case side4 => exact (Kd.S_reads' HO235.out).2.1); rintro e w' ⟨rfl, ⟨nd, rfl⟩⟩; obtain ⟨Ao259, co259, eo259⟩ := Kd.R_slice HO239.out; subst eo259; obtain ⟨Ao260, co260, eo260⟩ := Kd.R_slice HO243.out; subst eo260) | (go_at_call 70; (with_reducible refine (laws_zSame.calls kj45 _ _ t237 _ _ t241 true _ ?side1 ?side2 ?side3 ?side4 A244.out).mono ?_); (case side1 => have hx_ := (Kd.R_reads' HO239.out).2.2; exact cC); (case side2 => exact (Kd.R_reads' HO239.out).2.1); (case side3 => have hx_ := (Kd.R_reads' HO243.out).2.2; exact cC); (case side4 => exact (Kd.R_reads' HO243.out).2.1); rintro e w' ⟨rfl, ⟨nd, rfl⟩⟩))
    go_ret
    exact ⟨fR, wB⟩
end Go.Proofs.YtamfpkefnhcngaaGreat.Q
namespace Go.Proofs.YtamfpkefnhcngaaGreat.Q
open Go.RowKit Go.Proofs.YtamfpkefnhcngaaGreatX Go.Proofs.YtamfpkefnhcngaaGreatY Go.Proofs.YtamfpkefnhcngaaGreatX Go.Proofs.YtamfpkefnhcngaaGreatW.PrintWords Go.Proofs.YtamfpkefnhcngaaGreatW.PrintLast Go.Proofs.YtamfpkefnhcngaaGreatW.PrintMore
attribute [local go_sem] max2_int min2_int max_two min_two max_three min_three max_four min_four   -- for this text's walks alone
set_option linter.unusedVariables false
set_option linter.unusedSimpArgs false
end Go.Proofs.YtamfpkefnhcngaaGreat.Q
namespace Go.Proofs.YtamfpkefnhcngaaGreat.Q
open Go.RowKit Go.Proofs.YtamfpkefnhcngaaGreatW.PrintWords Go.Proofs.YtamfpkefnhcngaaGreatW.PrintLast Go.Proofs.YtamfpkefnhcngaaGreatW.PrintMore Go.Proofs.YtamfpkefnhcngaaGreatM
set_option linter.unusedVariables false
set_option linter.unusedSimpArgs false
theorem impl_votesOf.at_l (n N : Nat) (hN : N ≤ 1000000) (P : Int → Option Bool) (p : Nat → Bool) (hP : ∀ m, m < N → P (m : Int) = some (p m)) : ∀ (d m k : Nat) (acc : List Bool), m + d = N → d < k → acc.length = N → acc.take m = ((List.range N).map p).take m → impl_votesOf.l0 k P (N : Int) (m : Int) (n : Int) acc = some ((n : Int), (List.range N).map p) := by
  intro d
  induction d with
  | zero =>
    intro m k acc h hk hlen ht
    obtain ⟨k, rfl⟩ : ∃ j, k = j + 1 := ⟨k - 1, by omega⟩
    simp only [impl_votesOf.l0]
    rw [List.take_of_length_le (by omega), List.take_of_length_le (by simp; omega)] at ht
    rw [if_neg (by omega), ht]
  | succ d ih =>
    intro m k acc h hk hlen ht
    obtain ⟨k, rfl⟩ : ∃ j, k = j + 1 := ⟨k - 1, by omega⟩
    have hm : m < N := by omega
    simp only [impl_votesOf.l0]
    rw [if_pos (by omega), hP m hm, Option.bind_some, if_pos (by omega), if_pos (by omega), w64i (n := N) (by omega) (by omega) (by omega), Int.toNat_natCast]
    refine ih (m + 1) k (acc.set m (p m)) (by omega) (by omega) (by simpa using hlen) ?_
    rw [List.take_succ_eq_append_getElem (by simp; omega), List.take_succ_eq_append_getElem (by simp; omega), List.take_set_of_le (by omega), ht]
    simp
theorem impl_votesOf.ev (n : Nat) (hn : n ≤ 19) (g : Nat → Int → Option Bool) (p : Nat → Bool) (hg : ∀ m : Nat, m < 2 ^ n → Ev (fun k => g k (m : Int)) (p m)) : Ev (fun k => impl_votesOf.f k (n : Int) (g k)) ((n : Int), (List.range (2 ^ n)).map p) := by
  have hp : 2 ^ n ≤ 2 ^ 19 := Nat.pow_le_pow_right (by omega) hn
  have h0 : 0 < 2 ^ n := Nat.two_pow_pos n
  generalize hN : 2 ^ n = N at *
  obtain ⟨K, hK⟩ := ev_all N (fun k m => g k (m : Int)) p hg
  refine ⟨max K (N + 1), fun k hk => ?_⟩
  simp only [impl_votesOf.f]
  rw [if_pos (by omega), shl_one n (by omega), hN, if_pos (by omega), Int.toNat_natCast, if_pos (by omega), Option.bind_some, List.length_replicate]
  exact impl_votesOf.at_l n N (by omega) (g k) p (fun m hm => hK k (by omega) m hm) N 0 k _ (by omega) (by omega) (by simp) (by simp)
theorem impl_has.v (m i : Nat) (hm : m < 2 ^ 62) (hi : i ≤ 62) : impl_has.f (m : Int) (i : Int) = some (decide (m / 2 ^ i % 2 = 1)) := by
  unfold impl_has.f
  have hlt : m / 2 ^ i < 2 ^ 62 := Nat.lt_of_le_of_lt (Nat.div_le_self _ _) hm
  rw [if_pos (by omega), shr_nat m i (by omega), and_one _ hlt]
  congr 1
  by_cases h : m / 2 ^ i % 2 = 1
  · simp [h]
  · have : m / 2 ^ i % 2 = 0 := by omega
    simp [this]
theorem impl_Committee_weight.ev_l (q : Int) (ws : List Int) (m : Nat) (hm : m < 2 ^ 62) (hl : ws.length ≤ 60) (hw : ∀ x ∈ ws, 0 ≤ x ∧ x ≤ 1000000000) : ∀ (d i : Nat) (s : Int), i + d = ws.length → 0 ≤ s → s + wsum (ws.drop i) (m / 2 ^ i) ≤ 1000000000000 → Ev (fun k => impl_Committee_weight.l0 k (m : Int) s ws (ws.length : Int) (i : Int)) (s + wsum (ws.drop i) (m / 2 ^ i)) := by
  intro d
  induction d with
  | zero =>
    intro i s h _ _
    refine ev_step ?_
    simp only [impl_Committee_weight.l0]
    rw [ev_neg (by omega), ev_now, List.drop_of_length_le (by omega)]
    simp [wsum]
  | succ d ih =>
    intro i s h h0 h1
    refine ev_step ?_
    simp only [impl_Committee_weight.l0]
    have hi : i < ws.length := by omega
    have hx := hw ws[i] (List.getElem_mem hi)
    have hd : wsum (ws.drop i) (m / 2 ^ i) = (if m / 2 ^ i % 2 = 1 then ws[i] else 0) + wsum (ws.drop (i + 1)) (m / 2 ^ (i + 1)) := by
      rw [wsum_drop ws i _ hi, Nat.div_div_eq_div_mul, ← Nat.pow_succ]
    have hb := wsum_bounds (ws.drop (i + 1)) (fun x hx => (hw x (List.mem_of_mem_drop hx)).1) (m / 2 ^ (i + 1))
    rw [ev_pos (by omega), ev_pos (by omega), ev_pos (by omega), ev_bind (ev_of (impl_has.v m i hm (by omega))), w64i (n := ws.length) (by omega) (by omega) (by omega), rd_lt ws i hi, hd]
    rw [hd] at h1
    by_cases hbit : m / 2 ^ i % 2 = 1
    · rw [if_pos hbit] at h1 ⊢
      rw [ev_pos (by simpa using hbit), w64 (by omega) (by omega), ← Int.add_assoc]
      exact ih (i + 1) (s + ws[i]) (by omega) (by omega) (by omega)
    · rw [if_neg hbit] at h1 ⊢
      rw [ev_neg (by simpa using hbit), Int.zero_add]
      exact ih (i + 1) s (by omega) h0 (by omega)
theorem impl_Committee_weight.ev (q : Int) (ws : List Int) (m : Nat) (hm : m < 2 ^ 62) (hl : ws.length ≤ 60) (hw : ∀ x ∈ ws, 0 ≤ x ∧ x ≤ 1000000000) : Ev (fun k => impl_Committee_weight.f k q ws (m : Int)) (wsum ws m) := by
  have hb := wsum_bounds ws (fun x hx => (hw x hx).1) m
  have hs := sum_bounds ws 1000000000 hw
  have := impl_Committee_weight.ev_l q ws m hm hl hw ws.length 0 0 (by omega) (by omega) (by simp; omega)
  simpa [impl_Committee_weight.f] using this
theorem impl_Committee_votes.ev (q : Int) (ws : List Int) (hl : ws.length ≤ 9) (hw : ∀ x ∈ ws, 0 ≤ x ∧ x ≤ 1000000000) : Ev (fun k => impl_Committee_votes.f k q ws) ((ws.length : Int), winsL q ws) := by
  have hp : 2 ^ ws.length ≤ 2 ^ 9 := Nat.pow_le_pow_right (by omega) hl
  refine impl_votesOf.ev ws.length (by omega) (fun k => impl_Committee_votes_1.f k q ws) (fun m => decide (q ≤ wsum ws m)) (fun m hm => ?_)
  simp only [impl_Committee_votes_1.f]
  rw [ev_bind (impl_Committee_weight.ev q ws m (by omega) (by omega) hw), ev_now]
theorem impl_sumOf.ev_l (l : List Int) (hl : l.length ≤ 9223372036854775807) : ∀ (d i : Nat) (s : Int), i + d = l.length → Ev (fun k => impl_sumOf.l0 k s l (l.length : Int) (i : Int)) (wfold (l.drop i) s) := by
  intro d
  induction d with
  | zero =>
    intro i s h
    refine ev_step ?_
    simp only [impl_sumOf.l0]
    rw [ev_neg (by omega), ev_now, List.drop_of_length_le (by omega)]
    rfl
  | succ d ih =>
    intro i s h
    refine ev_step ?_
    simp only [impl_sumOf.l0]
    have hi : i < l.length := by omega
    rw [ev_pos (by omega), ev_pos (by omega), ev_pos (by omega), w64i (n := l.length) (by omega) (by omega) hl, rd_lt l i hi, wfold_take l i hi]
    exact ih (i + 1) _ (by omega)
theorem impl_sumOf.ev (l : List Int) (hl : l.length ≤ 9223372036854775807) : Ev (fun k => impl_sumOf.f k l) (wfold l 0) := impl_sumOf.ev_l l hl l.length 0 0 (by omega)
theorem impl_within.v (a b c : Int) : impl_within.f a b c = some (decide (b ≤ a) && decide (a ≤ c)) := by
  unfold impl_within.f
  by_cases h : b ≤ a
  · rw [if_pos h]; simp [h]
  · rw [if_neg h]; simp [h]
theorem impl_IsCommittee.ev (q : Int) (l : List Int) (hl : l.length ≤ 9223372036854775807) : Ev (fun k => impl_IsCommittee.f k q l) (goodB q l) := by
  simp only [impl_IsCommittee.f]
  unfold goodB
  by_cases h1 : 1 ≤ l.length
  · rw [ev_pos (by omega)]
    by_cases h2 : l.length ≤ 9
    · rw [ev_pos (by omega), ev_bind (ev_of (show impl_areIn.f l 0 1000 = some _ from rfl))]
      cases hb : (l.all fun x => decide (0 ≤ x) && decide (x ≤ 1000)) with
      | true =>
        rw [ev_pos rfl, ev_bind (impl_sumOf.ev l hl), ev_bind (ev_of (impl_within.v _ _ _)), ev_now, wfold_w l h2 hb]
        simp [h1, h2]
      | false =>
        rw [ev_neg (by simp), ev_now]
        simp
    · rw [ev_neg (by omega), ev_now]
      simp [h2]
  · rw [ev_neg (by omega), ev_now]
    simp [h1]
def bitB (m i : Nat) : Bool := decide (m / 2 ^ i % 2 = 1)
def setN (m : Nat) : List Int := ((List.range 62).filter (bitB m)).map fun (i : Nat) => (i : Int)
def setTo (m i : Nat) : List Int := ((List.range i).filter (bitB m)).map fun (i : Nat) => (i : Int)
theorem bitB_high {m i j : Nat} (h : m / 2 ^ i = 0) (hij : i ≤ j) : bitB m j = false := by
  unfold bitB
  have : m < 2 ^ i := by
    rcases Nat.lt_or_ge m (2 ^ i) with h1 | h1
    · exact h1
    · have := Nat.div_pos h1 (Nat.two_pow_pos i)
      omega
  have h2 : 2 ^ i ≤ 2 ^ j := Nat.pow_le_pow_right (by omega) hij
  rw [Nat.div_eq_of_lt (by omega)]
  rfl
theorem setTo_done {m i : Nat} (h : m / 2 ^ i = 0) (hi : i ≤ 62) : setTo m i = setN m := by
  unfold setTo setN
  rw [show List.range 62 = List.range i ++ (List.range (62 - i)).map (i + ·) by rw [← List.range_add]; congr 1; omega, List.filter_append]
  have : ((List.range (62 - i)).map (i + ·)).filter (bitB m) = [] := by
    rw [List.filter_eq_nil_iff]
    intro j hj
    obtain ⟨a, _, rfl⟩ := List.mem_map.1 hj
    rw [bitB_high h (by omega)]
    decide
  rw [this, List.append_nil]
theorem setTo_succ (m i : Nat) : setTo m (i + 1) = if bitB m i = true then setTo m i ++ [(i : Int)] else setTo m i := by
  unfold setTo
  rw [List.range_succ, List.filter_append, List.map_append]
  by_cases h : bitB m i = true
  · rw [if_pos h]
    simp [h]
  · rw [if_neg h]
    simp [h]
theorem setTo_len (m i : Nat) : (setTo m i).length ≤ i := by
  unfold setTo
  rw [List.length_map]
  have := List.length_filter_le (bitB m) (List.range i)
  rw [List.length_range] at this
  exact this
theorem setN_to {m n : Nat} (h : m < 2 ^ n) (hn : n ≤ 62) : setN m = setTo m n := (setTo_done (Nat.div_eq_of_lt h) hn).symm
theorem setTo_in {m n : Nat} : ∀ x ∈ setTo m n, 0 ≤ x ∧ x < (n : Int) ∧ bitB m x.toNat = true := by
  intro x hx
  obtain ⟨i, hi, rfl⟩ := List.mem_map.1 hx
  rw [List.mem_filter, List.mem_range] at hi
  exact ⟨by omega, by omega, by rw [Int.toNat_natCast]; exact hi.2⟩
def leastB (W : List Bool) (n m : Nat) : Bool := W.getD m false && (List.range n).all fun i => !(bitB m i) || !(W.getD (m - 2 ^ i) false)
def takeL (P : Nat → Bool) (i : Nat) : List (List Int) := ((List.range i).filter P).map setN
theorem takeL_succ (P : Nat → Bool) (i : Nat) : takeL P (i + 1) = if P i = true then takeL P i ++ [setN i] else takeL P i := by
  unfold takeL
  rw [List.range_succ, List.filter_append, List.map_append]
  by_cases h : P i = true
  · rw [if_pos h]
    simp [h]
  · rw [if_neg h]
    simp [h]
theorem takeL_len (P : Nat → Bool) (i : Nat) : (takeL P i).length ≤ i := by
  unfold takeL
  rw [List.length_map]
  have := List.length_filter_le P (List.range i)
  rw [List.length_range] at this
  exact this
theorem takeL_mem {P : Nat → Bool} {i : Nat} : ∀ x ∈ takeL P i, ∃ m, m < i ∧ P m = true ∧ x = setN m := by
  intro x hx
  obtain ⟨m, hm, rfl⟩ := List.mem_map.1 hx
  rw [List.mem_filter, List.mem_range] at hm
  exact ⟨m, hm.1, hm.2, rfl⟩
theorem andNot_pow (m i : Nat) (hm : m < 2 ^ 62) (hi : i ≤ 61) (h : bitB m i = true) : Go.bits .andNot .i64 (m : Int) ((2 ^ i : Nat) : Int) = ((m - 2 ^ i : Nat) : Int) := by
  have hp : 2 ^ i ≤ 2 ^ 61 := Nat.pow_le_pow_right (by omega) hi
  have hb : m / 2 ^ i % 2 = 1 := by simpa [bitB] using h
  have hmi : m - 2 ^ i < 2 ^ 62 := Nat.lt_of_le_of_lt (Nat.sub_le _ _) hm
  have key : m &&& (2 ^ 64 - 1 - 2 ^ i) = m - 2 ^ i := by
    have hge : 2 ^ i ≤ m := by
      rcases Nat.lt_or_ge m (2 ^ i) with h1 | h1
      · rw [Nat.div_eq_of_lt h1] at hb; omega
      · exact h1
    have h0 : (m - 2 ^ i) / 2 ^ i % 2 = 0 := by
      have e : m = (m - 2 ^ i) + 2 ^ i := by omega
      have e2 : m / 2 ^ i = (m - 2 ^ i) / 2 ^ i + 1 := by
        conv => lhs; rw [e]
        exact Nat.add_div_right _ (Nat.two_pow_pos i)
      omega
    have hor := or_pow i (m - 2 ^ i) h0
    rw [Nat.sub_add_cancel hge] at hor
    apply Nat.eq_of_testBit_eq
    intro j
    rw [Nat.testBit_and, show 2 ^ 64 - 1 - 2 ^ i = 2 ^ 64 - (2 ^ i + 1) by omega, Nat.testBit_two_pow_sub_succ (by omega : 2 ^ i < 2 ^ 64)]
    have hmj : m.testBit j = ((m - 2 ^ i).testBit j || (2 ^ i).testBit j) := by rw [← Nat.testBit_or, hor]
    by_cases e : j = i
    · subst e
      have : (m - 2 ^ j).testBit j = false := by
        rw [Nat.testBit_eq_decide_div_mod_eq, h0]
        rfl
      rw [this, Nat.testBit_two_pow_self]
      simp
    · have h2 : (2 ^ i).testBit j = false := Nat.testBit_two_pow_of_ne (fun h => e h.symm)
      rw [hmj, h2]
      by_cases hj : j < 64
      · simp [hj]
      · have : (m - 2 ^ i).testBit j = false := Nat.testBit_lt_two_pow (Nat.lt_of_lt_of_le hmi (Nat.pow_le_pow_right (by omega) (by omega)))
        rw [this]
        simp
  have hbv : ((BitVec.ofInt 64 (m : Int)) &&& ~~~(BitVec.ofInt 64 ((2 ^ i : Nat) : Int))).toNat = m - 2 ^ i := by
    rw [BitVec.toNat_and, BitVec.toNat_not, BitVec.ofInt_natCast, BitVec.ofInt_natCast, BitVec.toNat_ofNat, BitVec.toNat_ofNat, Nat.mod_eq_of_lt (by omega : m < 2 ^ 64), Nat.mod_eq_of_lt (by omega : 2 ^ i < 2 ^ 64)]
    exact key
  show IntKind.i64.wrap (((BitVec.ofInt 64 (m : Int)) &&& ~~~(BitVec.ofInt 64 ((2 ^ i : Nat) : Int))).toNat : Int) = _
  rw [hbv]
  exact (fun (x : Nat) (hx : x < 2 ^ 62) => i64_wrap (x := (x : Int)) (by omega) (by omega)) (m - 2 ^ i) hmi
theorem impl_setOf.ev_l (m : Nat) (hm : m < 2 ^ 62) : ∀ (d i : Nat), i + d = 62 → Ev (fun k => impl_setOf.l0 k (m : Int) (setTo m i) (i : Int)) (setN m) := by
  intro d
  induction d with
  | zero =>
    intro i h
    refine ev_step ?_
    simp only [impl_setOf.l0]
    have e : m / 2 ^ i = 0 := by rw [show i = 62 by omega]; exact Nat.div_eq_of_lt hm
    rw [ev_pos (by omega), shr_nat m i (by omega), e, ev_neg (by omega), ev_now, setTo_done e (by omega)]
  | succ d ih =>
    intro i h
    refine ev_step ?_
    simp only [impl_setOf.l0]
    have hlt : m / 2 ^ i < 2 ^ 62 := Nat.lt_of_le_of_lt (Nat.div_le_self _ _) hm
    have hl := setTo_len m i
    rw [ev_pos (by omega), shr_nat m i (by omega), w64 (by omega) (by omega)]
    by_cases e : m / 2 ^ i = 0
    · rw [ev_neg (by omega), ev_now, setTo_done e (by omega)]
    · rw [ev_pos (Int.natCast_pos.2 (Nat.pos_of_ne_zero e)), and_one _ hlt]
      have := ih (i + 1) (by omega)
      rw [setTo_succ] at this
      by_cases hb : m / 2 ^ i % 2 = 1
      · rw [if_pos (by simp [bitB, hb])] at this
        rw [ev_pos (by rw [hb]; rfl), ev_pos (by omega)]
        exact this
      · rw [if_neg (by simp [bitB]; omega)] at this
        rw [ev_neg (c := ((m / 2 ^ i % 2 : Nat) : Int) = 1) (fun h_ => hb (Int.ofNat_inj.1 h_))]
        exact this
theorem impl_setOf.ev (m : Nat) (hm : m < 2 ^ 62) : Ev (fun k => impl_setOf.f k (m : Int)) (setN m) := impl_setOf.ev_l m hm 62 0 (by omega)
theorem impl_votes_isLeast.ev_l (W : List Bool) (n m : Nat) (hW : W.length = 2 ^ n) (hn : n ≤ 18) (hm : m < 2 ^ n) : ∀ (d i : Nat), i + d = n → Ev (fun k => impl_votes_isLeast.l0 k (m : Int) (n : Int) (i : Int) (n : Int) W) ((List.range' i d).all fun i => !(bitB m i) || !(W.getD (m - 2 ^ i) false)) := by
  have hp : 2 ^ n ≤ 2 ^ 18 := Nat.pow_le_pow_right (by omega) hn
  intro d
  induction d with
  | zero =>
    intro i h
    refine ev_step ?_
    simp only [impl_votes_isLeast.l0]
    rw [ev_neg (by omega), ev_now]
    rfl
  | succ d ih =>
    intro i h
    refine ev_step ?_
    simp only [impl_votes_isLeast.l0]
    have hih := ih (i + 1) (by omega)
    rw [ev_pos (by omega), ev_bind (ev_of (show impl_has.f (m : Int) (i : Int) = some (bitB m i) from impl_has.v m i (by omega) (by omega))), w64 (by omega) (by omega), List.range'_succ, List.all_cons]
    by_cases hb : bitB m i = true
    · have hpi : 2 ^ i ≤ 2 ^ n := Nat.pow_le_pow_right (by omega) (by omega)
      have hsub : m - 2 ^ i < W.length := by rw [hW]; exact Nat.lt_of_le_of_lt (Nat.sub_le _ _) hm
      rw [ev_pos hb, ev_pos (by omega), shl_one i (by omega), andNot_pow m i (by omega) (by omega) hb, ev_pos (Int.natCast_nonneg _), ev_pos (Int.ofNat_lt.2 hsub), rdOf_nat, hb]
      cases hw : W.getD (m - 2 ^ i) false with
      | true =>
        rw [ev_pos rfl, ev_now]
        rfl
      | false =>
        rw [ev_neg (by decide)]
        exact hih
    · rw [ev_neg hb, Bool.eq_false_iff.2 hb]
      exact hih
theorem impl_votes_isLeast.ev (W : List Bool) (n m : Nat) (hW : W.length = 2 ^ n) (hn : n ≤ 18) (hm : m < 2 ^ n) : Ev (fun k => impl_votes_isLeast.f k (n : Int) W (m : Int)) (leastB W n m) := by
  simp only [impl_votes_isLeast.f]
  rw [ev_pos (by omega), ev_pos (by omega), rdOf_nat, leastB]
  cases hw : W.getD m false with
  | true =>
    rw [ev_pos rfl, Bool.true_and, List.range_eq_range']
    exact impl_votes_isLeast.ev_l W n m hW hn hm n 0 (by omega)
  | false =>
    rw [ev_neg (by decide), ev_now]
    rfl
theorem impl_votes_sets.at_l (W : List Bool) (hW : W.length ≤ 1000000) (P : Int → Option Bool) (p : Nat → Bool) (K : Nat) (hP : ∀ m, m < W.length → P (m : Int) = some (p m)) (hS : ∀ k, K ≤ k → ∀ m, m < W.length → impl_setOf.f k (m : Int) = some (setN m)) : ∀ (d i k : Nat), i + d = W.length → K + d < k → impl_votes_sets.l0 k P W (takeL p i) (i : Int) = some (takeL p W.length) := by
  intro d
  induction d with
  | zero =>
    intro i k h hk
    obtain ⟨k, rfl⟩ : ∃ j, k = j + 1 := ⟨k - 1, by omega⟩
    simp only [impl_votes_sets.l0]
    rw [if_neg (by omega), show i = W.length by omega]
  | succ d ih =>
    intro i k h hk
    obtain ⟨k, rfl⟩ : ∃ j, k = j + 1 := ⟨k - 1, by omega⟩
    have hi : i < W.length := by omega
    have hl := takeL_len p i
    have hih := ih (i + 1) k (by omega) (by omega)
    rw [takeL_succ] at hih
    simp only [impl_votes_sets.l0]
    rw [if_pos (by omega), hP i hi, Option.bind_some, w64 (by omega) (by omega), hS k (by omega) i hi, Option.bind_some]
    cases hp : p i with
    | true =>
      rw [hp, if_pos rfl] at hih
      rw [if_pos rfl, if_pos (by omega)]
      exact hih
    | false =>
      rw [hp, if_neg (by decide)] at hih
      rw [if_neg (by decide)]
      exact hih
theorem impl_votes_sets.ev (W : List Bool) (hW : W.length ≤ 1000000) (P : Nat → Int → Option Bool) (p : Nat → Bool) (hP : ∀ m, m < W.length → Ev (fun k => P k (m : Int)) (p m)) : Ev (fun k => impl_votes_sets.g k W (P k)) (Go.Proofs.YtamfpkefnhcngaaGreatS.sortL (takeL p W.length)) := by
  obtain ⟨K1, h1⟩ := ev_all W.length (fun k m => P k (m : Int)) p hP
  obtain ⟨K2, h2⟩ := ev_all W.length (fun k m => impl_setOf.f k (m : Int)) setN (fun m hm => impl_setOf.ev m (by omega))
  refine ⟨max K1 (K2 + W.length + 1), fun k hk => ?_⟩
  have hl := takeL_len p W.length
  simp only [impl_votes_sets.g]
  rw [show impl_votes_sets.l0 k (P k) W [] 0 = some (takeL p W.length) from impl_votes_sets.at_l W hW (P k) p K2 (fun m hm => h1 k (by omega) m hm) h2 W.length 0 k (by omega) (by omega), Option.bind_some, if_pos (by omega)]
theorem impl_votes_least.ev (W : List Bool) (n : Nat) (hW : W.length = 2 ^ n) (hn : n ≤ 18) : Ev (fun k => impl_votes_least.f k (n : Int) W) (Go.Proofs.YtamfpkefnhcngaaGreatS.sortL (takeL (leastB W n) W.length)) := by
  have hp : 2 ^ n ≤ 2 ^ 18 := Nat.pow_le_pow_right (by omega) hn
  exact impl_votes_sets.ev W (by omega) (fun k x => impl_votes_isLeast.f k (n : Int) W x) (leastB W n) (fun m hm => impl_votes_isLeast.ev W n m hW hn (by omega))
theorem sortL_in {P : Nat → Bool} {n N : Nat} (hN : N ≤ 2 ^ n) (hn : n ≤ 62) : ∀ x ∈ Go.Proofs.YtamfpkefnhcngaaGreatS.sortL (takeL P N), x.length ≤ n ∧ ∀ y ∈ x, 0 ≤ y ∧ y < (n : Int) := by
  intro x hx
  obtain ⟨a, ha, _, rfl⟩ := takeL_mem x ((Go.Proofs.YtamfpkefnhcngaaGreatS.sortL_perm _).mem_iff.1 hx)
  rw [setN_to (m := a) (n := n) (by omega) hn]
  exact ⟨setTo_len a n, fun y hy => by have := setTo_in y hy; omega⟩
theorem sortL_len (xs : List (List Int)) : (Go.Proofs.YtamfpkefnhcngaaGreatS.sortL xs).length = xs.length := (Go.Proofs.YtamfpkefnhcngaaGreatS.sortL_perm xs).length_eq
theorem sortL_few {P : Nat → Bool} {q : Int} {ws : List Int} (h : GoodC q ws) {N : Nat} (hN : N = 2 ^ ws.length) : (Go.Proofs.YtamfpkefnhcngaaGreatS.sortL (takeL P N)).length ≤ 512 ∧ ∀ s ∈ Go.Proofs.YtamfpkefnhcngaaGreatS.sortL (takeL P N), s.length ≤ 9 := by
  have hp := h.pow
  have h9 := h.l9
  have hlen := takeL_len P N
  exact ⟨by rw [sortL_len]; omega, fun s hs => by have := (sortL_in (n := ws.length) (by omega) (by omega) s hs).1; omega⟩
theorem spec_l1In.v (a b c : Int) : spec_l1In.f a b c = some (decide (b ≤ a) && decide (a ≤ c)) := by
  unfold spec_l1In.f
  by_cases h : b ≤ a
  · rw [if_pos h]; simp [h]
  · rw [if_neg h]; simp [h]
theorem spec_voSum.ev_l (l : List Int) (hl : l.length ≤ 9223372036854775807) : ∀ (d i : Nat) (s : Int), i + d = l.length → Ev (fun k => spec_voSum.l0 k s l (l.length : Int) (i : Int)) (wfold (l.drop i) s) := by
  intro d
  induction d with
  | zero =>
    intro i s h
    refine ev_step ?_
    simp only [spec_voSum.l0]
    rw [ev_neg (by omega), ev_now, List.drop_of_length_le (by omega)]
    rfl
  | succ d ih =>
    intro i s h
    refine ev_step ?_
    simp only [spec_voSum.l0]
    have hi : i < l.length := by omega
    rw [ev_pos (by omega), ev_pos (by omega), ev_pos (by omega), w64i (n := l.length) (by omega) (by omega) hl, rd_lt l i hi, wfold_take l i hi]
    exact ih (i + 1) _ (by omega)
theorem spec_voSum.ev (l : List Int) (hl : l.length ≤ 9223372036854775807) : Ev (fun k => spec_voSum.f k l) (wfold l 0) := spec_voSum.ev_l l hl l.length 0 0 (by omega)
theorem spec_l1All.ev_l (l : List Int) (lo hi : Int) (hl : l.length ≤ 9223372036854775807) : ∀ (d i : Nat), i + d = l.length → Ev (fun k => spec_l1All.l0 k lo hi l (l.length : Int) (i : Int)) ((l.drop i).all fun x => decide (lo ≤ x) && decide (x ≤ hi)) := by
  intro d
  induction d with
  | zero =>
    intro i h
    refine ev_step ?_
    simp only [spec_l1All.l0]
    rw [ev_neg (by omega), ev_now, List.drop_of_length_le (by omega)]
    rfl
  | succ d ih =>
    intro i h
    refine ev_step ?_
    simp only [spec_l1All.l0]
    have hi' : i < l.length := by omega
    rw [ev_pos (by omega), ev_pos (by omega), ev_pos (by omega), w64i (n := l.length) (by omega) (by omega) hl, rd_lt l i hi', List.drop_eq_getElem_cons hi', List.all_cons, ev_bind (ev_of (spec_l1In.v _ _ _))]
    cases hb : (decide (lo ≤ l[i]) && decide (l[i] ≤ hi)) with
    | true =>
      rw [ev_pos rfl, Bool.true_and]
      exact ih (i + 1) (by omega)
    | false =>
      rw [ev_neg (by decide), ev_now]
      rfl
theorem spec_l1All.ev (l : List Int) (lo hi : Int) (hl : l.length ≤ 9223372036854775807) : Ev (fun k => spec_l1All.f k l lo hi) (l.all fun x => decide (lo ≤ x) && decide (x ≤ hi)) := spec_l1All.ev_l l lo hi hl l.length 0 (by omega)
theorem spec_voGood.ev (q : Int) (l : List Int) (hl : l.length ≤ 9223372036854775807) : Ev (fun k => spec_voGood.f k q l) (goodB q l) := by
  simp only [spec_voGood.f]
  rw [ev_bind (ev_of (spec_l1In.v _ _ _))]
  unfold goodB
  by_cases h1 : 1 ≤ (l.length : Int) ∧ (l.length : Int) ≤ 9
  · rw [ev_pos (by simp [h1]), ev_bind (spec_l1All.ev l 0 1000 hl)]
    refine ev_step ?_
    simp only [spec_voGood.j0]
    cases hb : (l.all fun x => decide (0 ≤ x) && decide (x ≤ 1000)) with
    | true =>
      rw [ev_neg (by simp), ev_bind (spec_voSum.ev l hl), ev_bind (ev_of (spec_l1In.v _ _ _)), ev_now, wfold_w l (by omega) hb]
      have e1 : 1 ≤ l.length := by omega
      have e2 : l.length ≤ 9 := by omega
      simp [e1, e2]
    | false =>
      rw [ev_pos (by simp), ev_now]
      simp
  · rw [ev_neg (by simpa using h1)]
    refine ev_step ?_
    simp only [spec_voGood.j0]
    rw [ev_pos (by simp), ev_now]
    have : ¬ (1 ≤ l.length ∧ l.length ≤ 9) := by omega
    by_cases e1 : 1 ≤ l.length
    · have e2 : ¬ l.length ≤ 9 := by omega
      simp [e2]
    · simp [e1]
theorem spec_voList.ev_l (m : Nat) (hm : m < 2 ^ 62) : ∀ (d i : Nat), i + d = 62 → Ev (fun k => spec_voList.l0 k (m : Int) (setTo m i) (i : Int)) (setN m) := by
  intro d
  induction d with
  | zero =>
    intro i h
    refine ev_step ?_
    simp only [spec_voList.l0]
    have e : m / 2 ^ i = 0 := by rw [show i = 62 by omega]; exact Nat.div_eq_of_lt hm
    rw [ev_pos (by omega), shr_nat m i (by omega), e, ev_neg (by omega), ev_now, setTo_done e (by omega)]
  | succ d ih =>
    intro i h
    refine ev_step ?_
    simp only [spec_voList.l0]
    have hl := setTo_len m i
    have et : Int.tmod ((m / 2 ^ i : Nat) : Int) 2 = ((m / 2 ^ i % 2 : Nat) : Int) := (Int.ofNat_tmod (m / 2 ^ i) 2).symm
    rw [ev_pos (by omega), shr_nat m i (by omega), w64 (by omega) (by omega)]
    by_cases e : m / 2 ^ i = 0
    · rw [ev_neg (by omega), ev_now, setTo_done e (by omega)]
    · rw [ev_pos (Int.natCast_pos.2 (Nat.pos_of_ne_zero e)), et]
      have := ih (i + 1) (by omega)
      rw [setTo_succ] at this
      by_cases hb : m / 2 ^ i % 2 = 1
      · rw [if_pos (by simp [bitB, hb])] at this
        rw [ev_pos (by rw [hb]; rfl), ev_pos (by omega)]
        exact this
      · rw [if_neg (by simp [bitB]; omega)] at this
        rw [ev_neg (c := ((m / 2 ^ i % 2 : Nat) : Int) = 1) (fun h_ => hb (Int.ofNat_inj.1 h_))]
        exact this
theorem spec_voList.ev (m : Nat) (hm : m < 2 ^ 62) : Ev (fun k => spec_voList.f k (m : Int)) (setN m) := spec_voList.ev_l m hm 62 0 (by omega)
theorem spec_voBefore.ev_l (a b : List Int) (ha : a.length ≤ 9223372036854775807) : ∀ (d i : Nat), i + d = a.length → i ≤ b.length → Ev (fun k => spec_voBefore.l0 k a b (i : Int)) (decide (cmpL (a.drop i) (b.drop i) < 0)) := by
  intro d
  induction d with
  | zero =>
    intro i h hb
    refine ev_step ?_
    simp only [spec_voBefore.l0]
    rw [ev_neg (by omega)]
    refine ev_step ?_
    simp only [spec_voBefore.j1]
    rw [ev_neg (by simp), ev_now, List.drop_of_length_le (by omega)]
    by_cases hc : (a.length : Int) < (b.length : Int)
    · rw [decide_eq_true hc, List.drop_eq_getElem_cons (by omega)]
      rfl
    · rw [decide_eq_false hc, List.drop_of_length_le (by omega)]
      rfl
  | succ d ih =>
    intro i h hb
    refine ev_step ?_
    simp only [spec_voBefore.l0]
    have hi : i < a.length := by omega
    rw [ev_pos (by omega)]
    refine ev_step ?_
    simp only [spec_voBefore.j1]
    by_cases hc : (i : Int) < (b.length : Int)
    · have hib : i < b.length := by omega
      rw [ev_pos (decide_eq_true hc), ev_pos (by omega), ev_pos (by omega), ev_pos (by omega), rd_lt a i hi, rd_lt b i hib, w64i (n := a.length) (by omega) (by omega) ha, List.drop_eq_getElem_cons hi, List.drop_eq_getElem_cons hib]
      by_cases h1 : a[i] = b[i]
      · have e : cmpL (a[i] :: a.drop (i + 1)) (b[i] :: b.drop (i + 1)) = cmpL (a.drop (i + 1)) (b.drop (i + 1)) := by simp only [cmpL]; rw [if_neg (by omega), if_neg (by omega)]
        rw [ev_pos h1, e]
        exact ih (i + 1) (by omega) (by omega)
      · rw [ev_neg h1, ev_now]
        by_cases h2 : a[i] < b[i]
        · have e : cmpL (a[i] :: a.drop (i + 1)) (b[i] :: b.drop (i + 1)) = -1 := by simp only [cmpL]; rw [if_pos h2]
          rw [e, decide_eq_true h2]; rfl
        · have e : cmpL (a[i] :: a.drop (i + 1)) (b[i] :: b.drop (i + 1)) = 1 := by simp only [cmpL]; rw [if_neg h2, if_pos (by omega)]
          rw [e, decide_eq_false h2]; rfl
    · rw [ev_neg (by simp; omega), ev_now, List.drop_eq_getElem_cons hi, List.drop_of_length_le (by omega : b.length ≤ i), decide_eq_false (by omega)]
      rfl
theorem spec_voBefore.ev (a b : List Int) (ha : a.length ≤ 9223372036854775807) : Ev (fun k => spec_voBefore.f k a b) (decide (cmpL a b < 0)) := spec_voBefore.ev_l a b ha a.length 0 (by omega) (by omega)
def upL (xs : List (List Int)) : Prop := xs.Pairwise fun a b => cmpL a b ≤ 0
theorem upL_sorted {xs ys : List (List Int)} (hp : ys.Perm xs) (h : upL ys) : ys = Go.Proofs.YtamfpkefnhcngaaGreatS.sortL xs := by
  refine Go.Proofs.YtamfpkefnhcngaaGreatS.sortL_of hp (List.Pairwise.imp (fun {a b} hab => ?_) h)
  have := cmpL_swap a b
  show decide (cmpL b a < 0) = false
  exact decide_eq_false (by omega)
theorem upL_insert {xs : List (List Int)} {s : List Int} {y : Nat} (h : upL xs) (h1 : ∀ j (hj : j < xs.length), j < y → cmpL xs[j] s < 0) (h2 : ∀ hy : y < xs.length, ¬ (cmpL xs[y] s < 0)) : upL (xs.take y ++ s :: xs.drop y) := by
  have hp := h
  rw [← List.take_append_drop y xs, upL, List.pairwise_append] at hp
  rw [upL, List.pairwise_append, List.pairwise_cons]
  have hd : ∀ b ∈ xs.drop y, cmpL s b ≤ 0 := by
    intro b hb
    obtain ⟨j, hj, rfl⟩ := List.getElem_of_mem hb
    rw [List.length_drop] at hj
    have hy : y < xs.length := by omega
    rw [List.getElem_drop]
    have h3 := h2 hy
    have h4 := cmpL_swap s xs[y]
    have h5 : cmpL xs[y] xs[y + j] ≤ 0 := by
      rcases Nat.eq_zero_or_pos j with e | e
      · subst e
        simp only [Nat.add_zero]
        rw [cmpL_self]
        omega
      · rw [upL, List.pairwise_iff_getElem] at h
        exact h y (y + j) hy (by omega) (by omega)
    exact cmpL_le_trans s xs[y] xs[y + j] (by omega) h5
  refine ⟨hp.1, ⟨hd, hp.2.1⟩, fun a ha b hb => ?_⟩
  obtain ⟨j, hj, rfl⟩ := List.getElem_of_mem ha
  rw [List.length_take] at hj
  rw [List.getElem_take]
  have h3 := h1 j (by omega) (by omega)
  rcases List.mem_cons.1 hb with rfl | hb
  · omega
  · exact cmpL_le_trans _ s b (by omega) (hd b hb)
theorem spec_voSorted.ev_l1 (l : List (List Int)) (hl : l.length < 1000000) (hx : ∀ x ∈ l, x.length ≤ 9223372036854775807) (i : Nat) (hi : i < l.length) (out : List (List Int)) (ho : out.length = i) (hup : upL out) (hpm : out.Perm (l.take i)) (hnext : ∀ out' : List (List Int), out'.length = i + 1 → upL out' → out'.Perm (l.take (i + 1)) → Ev (fun k => spec_voSorted.l0 k out' l ((i : Int) + 1)) (Go.Proofs.YtamfpkefnhcngaaGreatS.sortL l)) : ∀ (d y : Nat), y + d = out.length → (∀ j (hj : j < out.length), j < y → cmpL out[j] l[i] < 0) → Ev (fun k => spec_voSorted.l1 k out l (i : Int) l[i] (y : Int)) (Go.Proofs.YtamfpkefnhcngaaGreatS.sortL l) := by
  have hgo : ∀ y : Nat, y ≤ out.length → (∀ j (hj : j < out.length), j < y → cmpL out[j] l[i] < 0) → (∀ hy : y < out.length, ¬ (cmpL out[y] l[i] < 0)) → Ev (fun k => if out.length < 5000000000000 then spec_voSorted.l0 k (out.take ((y : Int)).toNat ++ l[i] :: out.drop ((y : Int)).toNat) l (wrap64 ((i : Int) + 1)) else none) (Go.Proofs.YtamfpkefnhcngaaGreatS.sortL l) := by
    intro y hy h1 h2
    rw [ev_pos (by omega), Int.toNat_natCast, w64 (by omega) (by omega)]
    refine hnext _ ?_ (upL_insert hup h1 h2) ?_
    · rw [List.length_append, List.length_cons, List.length_take, List.length_drop]
      omega
    · refine List.perm_middle.trans ?_
      rw [List.take_append_drop, List.take_succ_eq_append_getElem hi]
      exact (List.Perm.cons _ hpm).trans (List.perm_append_singleton _ _).symm
  intro d
  induction d with
  | zero =>
    intro y hy h1
    refine ev_step ?_
    simp only [spec_voSorted.l1]
    rw [ev_neg (by omega)]
    exact hgo y (by omega) h1 (fun h => by omega)
  | succ d ih =>
    intro y hy h1
    refine ev_step ?_
    simp only [spec_voSorted.l1]
    have hyl : y < out.length := by omega
    have hmem : out[y] ∈ l := List.mem_of_mem_take (hpm.mem_iff.1 (List.getElem_mem hyl))
    rw [ev_pos (by omega), rdOf_lt [] out y hyl, ev_bind (spec_voBefore.ev out[y] l[i] (hx _ hmem))]
    by_cases c : cmpL out[y] l[i] < 0
    · rw [ev_pos (decide_eq_true c), w64 (by omega) (by omega)]
      refine ih (y + 1) (by omega) (fun j hj hjy => ?_)
      rcases Nat.lt_or_ge j y with e | e
      · exact h1 j hj e
      · have : j = y := by omega
        subst this
        exact c
    · rw [ev_neg (by simp [c])]
      exact hgo y (by omega) h1 (fun _ => c)
theorem spec_voSorted.ev_l0 (l : List (List Int)) (hl : l.length < 1000000) (hx : ∀ x ∈ l, x.length ≤ 9223372036854775807) : ∀ (d i : Nat) (out : List (List Int)), i + d = l.length → out.length = i → upL out → out.Perm (l.take i) → Ev (fun k => spec_voSorted.l0 k out l (i : Int)) (Go.Proofs.YtamfpkefnhcngaaGreatS.sortL l) := by
  intro d
  induction d with
  | zero =>
    intro i out h ho hup hpm
    refine ev_step ?_
    simp only [spec_voSorted.l0]
    rw [List.take_of_length_le (by omega)] at hpm
    rw [ev_neg (by omega), ev_now]
    exact upL_sorted hpm hup
  | succ d ih =>
    intro i out h ho hup hpm
    refine ev_step ?_
    simp only [spec_voSorted.l0]
    have hi : i < l.length := by omega
    rw [ev_pos (by omega), ev_pos (by omega), rdOf_lt [] l i hi]
    exact spec_voSorted.ev_l1 l hl hx i hi out ho hup hpm (fun out' h1 h2 h3 => ih (i + 1) out' (by omega) h1 h2 h3) out.length 0 (by omega) (fun j _ hj => by omega)
theorem spec_voSorted.ev (l : List (List Int)) (hl : l.length < 1000000) (hx : ∀ x ∈ l, x.length ≤ 9223372036854775807) : Ev (fun k => spec_voSorted.f k l) (Go.Proofs.YtamfpkefnhcngaaGreatS.sortL l) := spec_voSorted.ev_l0 l hl hx l.length 0 [] (by omega) rfl List.Pairwise.nil (by simp)
theorem spec_voAll.v (n : Nat) (hn : n ≤ 60) : spec_voAll.f (n : Int) = some ((2 ^ n - 1 : Nat) : Int) := by
  unfold spec_voAll.f
  have h0 : 0 < 2 ^ n := Nat.two_pow_pos n
  have h : 2 ^ n ≤ 2 ^ 60 := Nat.pow_le_pow_right (by omega) hn
  rw [if_pos (by omega), shl_one n (by omega), w64 (by omega) (by omega)]
  congr 1
  omega
theorem spec_bit (m i : Nat) (hm : m < 2 ^ 62) (hi : i ≤ 62) : Int.tmod (shr .i64 (m : Int) (i : Int)) 2 = ((m / 2 ^ i % 2 : Nat) : Int) := by
  rw [shr_nat m i (by omega)]
  generalize m / 2 ^ i = x
  rw [Int.tmod_eq_emod_of_nonneg (by omega)]
  omega
theorem spec_voWeight.ev_l (q : Int) (ws : List Int) (m : Nat) (hm : m < 2 ^ 62) (hl : ws.length ≤ 60) (hw : ∀ x ∈ ws, 0 ≤ x ∧ x ≤ 1000000000) : ∀ (d i : Nat) (s : Int), i + d = ws.length → 0 ≤ s → s + wsum (ws.drop i) (m / 2 ^ i) ≤ 1000000000000 → Ev (fun k => spec_voWeight.l0 k (m : Int) s ws (ws.length : Int) (i : Int)) (s + wsum (ws.drop i) (m / 2 ^ i)) := by
  intro d
  induction d with
  | zero =>
    intro i s h _ _
    refine ev_step ?_
    simp only [spec_voWeight.l0]
    rw [ev_neg (by omega), ev_now, List.drop_of_length_le (by omega)]
    simp [wsum]
  | succ d ih =>
    intro i s h h0 h1
    refine ev_step ?_
    simp only [spec_voWeight.l0]
    have hi : i < ws.length := by omega
    have hx := hw ws[i] (List.getElem_mem hi)
    have hd : wsum (ws.drop i) (m / 2 ^ i) = (if m / 2 ^ i % 2 = 1 then ws[i] else 0) + wsum (ws.drop (i + 1)) (m / 2 ^ (i + 1)) := by
      rw [wsum_drop ws i _ hi, Nat.div_div_eq_div_mul, ← Nat.pow_succ]
    have hb := wsum_bounds (ws.drop (i + 1)) (fun x hx => (hw x (List.mem_of_mem_drop hx)).1) (m / 2 ^ (i + 1))
    rw [ev_pos (by omega), ev_pos (by omega), ev_pos (by omega), spec_bit m i hm (by omega), w64i (n := ws.length) (by omega) (by omega) (by omega), rd_lt ws i hi, hd]
    rw [hd] at h1
    by_cases hbit : m / 2 ^ i % 2 = 1
    · rw [if_pos hbit] at h1 ⊢
      rw [ev_pos (by rw [hbit]; rfl), w64 (by omega) (by omega), ← Int.add_assoc]
      exact ih (i + 1) (s + ws[i]) (by omega) (by omega) (by omega)
    · rw [if_neg hbit] at h1 ⊢
      rw [ev_neg (by omega), Int.zero_add]
      exact ih (i + 1) s (by omega) h0 (by omega)
theorem spec_voWeight.ev (q : Int) (ws : List Int) (m : Nat) (hm : m < 2 ^ 62) (hl : ws.length ≤ 60) (hw : ∀ x ∈ ws, 0 ≤ x ∧ x ≤ 1000000000) : Ev (fun k => spec_voWeight.f k q ws (m : Int)) (wsum ws m) := by
  have hb := wsum_bounds ws (fun x hx => (hw x hx).1) m
  have hs := sum_bounds ws 1000000000 hw
  have := spec_voWeight.ev_l q ws m hm hl hw ws.length 0 0 (by omega) (by omega) (by simp; omega)
  simpa [spec_voWeight.f] using this
theorem winsL_take (q : Int) (ws : List Int) (m : Nat) (h : m < 2 ^ ws.length) : (winsL q ws).take (m + 1) = (winsL q ws).take m ++ [decide (q ≤ wsum ws m)] := by
  rw [List.take_succ_eq_append_getElem (by rw [winsL_length]; exact h), winsL_get]
theorem spec_voWins.ev_l (q : Int) (ws : List Int) (hl : ws.length ≤ 9) (hw : ∀ x ∈ ws, 0 ≤ x ∧ x ≤ 1000000000) : ∀ (d m : Nat), m + d = 2 ^ ws.length → Ev (fun k => spec_voWins.l0 k ((winsL q ws).take m) (m : Int) q ws) (winsL q ws) := by
  have hp : 2 ^ ws.length ≤ 2 ^ 9 := Nat.pow_le_pow_right (by omega) hl
  have h0 : 0 < 2 ^ ws.length := Nat.two_pow_pos _
  intro d
  induction d with
  | zero =>
    intro m h
    refine ev_step ?_
    simp only [spec_voWins.l0]
    rw [ev_bind (ev_of (spec_voAll.v ws.length (by omega))), ev_neg (by omega), ev_now, List.take_of_length_le (by rw [winsL_length]; omega)]
  | succ d ih =>
    intro m h
    refine ev_step ?_
    simp only [spec_voWins.l0]
    rw [ev_bind (ev_of (spec_voAll.v ws.length (by omega))), ev_pos (by omega), ev_bind (spec_voWeight.ev q ws m (by omega) (by omega) hw), ev_pos (by simp; omega), w64i (n := 512) (by omega) (by omega) (by omega)]
    have := ih (m + 1) (by omega)
    rw [winsL_take q ws m (by omega)] at this
    exact this
theorem spec_voWins.ev (q : Int) (ws : List Int) (hl : ws.length ≤ 9) (hw : ∀ x ∈ ws, 0 ≤ x ∧ x ≤ 1000000000) : Ev (fun k => spec_voWins.f k q ws) (winsL q ws) := by
  have := spec_voWins.ev_l q ws hl hw (2 ^ ws.length) 0 (by omega)
  simpa [spec_voWins.f] using this
end Go.Proofs.YtamfpkefnhcngaaGreat.Q
