/- Printed functions, their contracts and plain facts on them: QLawsFnSetsWin; PBig; PSetN; PAndNot; PVotesOf; PHas; PWeight; PCommitteeVotes; PSumOf; PWithin; PIsCommittee; PSperner; PSetFacts; PMasks; POneOf; PL1In; PVoSu. Conditions: as each theorem states. -/
import Derived.Test.YtamfpkefnhcngaaGreatGSetsWinx1
import Derived.Test.YtamfpkefnhcngaaGreatGSetsWinx2
import Derived.Test.YtamfpkefnhcngaaGreatGSetsWinx3
import Derived.Test.YtamfpkefnhcngaaGreatGSetsWinx4
set_option maxHeartbeats 8000000
set_option maxRecDepth 100000
namespace Go.Proofs.YtamfpkefnhcngaaGreat.Q
open Go.RowKit Go.Proofs.YtamfpkefnhcngaaGreatX Go.Proofs.YtamfpkefnhcngaaGreatY Go.Proofs.YtamfpkefnhcngaaGreatX Go.Proofs.YtamfpkefnhcngaaGreatW.PrintWords Go.Proofs.YtamfpkefnhcngaaGreatW.PrintLast Go.Proofs.YtamfpkefnhcngaaGreatW.PrintMore
attribute [local go_sem] max2_int min2_int max_two min_two max_three min_three max_four min_four   -- for this text's walks alone
set_option linter.unusedVariables false
set_option linter.unusedSimpArgs false
theorem laws_FnSetsWin.calls (k : Nat) (A0 : Option Addr) (c0 : Nat) (l0 : List Int) (A1 : Option Addr) (c1 : Nat) (l1 : List Int) (r : Bool) (w : World) (hr0 : Kd.C (Kd.int .u8) w A0 l0.length l0) (hc0 : l0.length ≤ c0) (hr1 : Kd.C (Kd.int .u8) w A1 l1.length l1) (hc1 : l1.length ≤ c1) (h : laws_FnSetsWin.f k l0 l1 = some r) :
  Calls Tryz.prog 3 #[.slice A0 l0.length c0, .slice A1 l1.length c1] w fun e w' => e = .returned (.bool r) ∧ Below w.heap.size w w' := by
 have hu26 := Tryz.underlying26
 have HR0 := Aside0.mk hr0
 have HC0 := Aside0.mk hc0
 clear hr0 hc0
 have HR1 := Aside0.mk hr1
 have HC1 := Aside0.mk hc1
 clear hr1 hc1
 have HB := Aside0.mk (Below.refl w.heap.size w)
 have H : ((laws_big.f l0 l1).bind fun t101 => (if t101 = true then (some true) else ((spec_DrawIsWinning.f k l0).bind fun bt102 => ((impl_IsWinning.f k bt102.1 bt102.2.1 bt102.2.2).bind fun bt110 => ((spec_IsWinning.f k bt102.1 bt102.2.1 bt102.2.2).bind fun bt112 => ((impl_IsBlocking.f k bt102.1 bt102.2.1 bt102.2.2).bind fun bt114 => ((spec_IsBlocking.f k bt102.1 bt102.2.1 bt102.2.2).bind fun bt116 => ((impl_WeightOfSet.f k bt102.1 bt102.2.1 bt102.2.2).bind fun bt118 => ((spec_WeightOfSet.f k bt102.1 bt102.2.1 bt102.2.2).bind fun bt120 => ((impl_TotalWeight.f k bt102.1 bt102.2.1).bind fun bt122 => ((spec_TotalWeight.f k bt102.1 bt102.2.1).bind fun bt124 => (if (bt110.2 != bt112.2) = true then (none) else (if (bt110.1 != bt112.1) = true then (none) else (if (bt114.2 != bt116.2) = true then (none) else (if (bt114.1 != bt116.1) = true then (none) else (if (bt118.2 != bt120.2) = true then (none) else (if bt118.1 = bt120.1 then (if (bt122.2 != bt124.2) = true then (none) else (if bt122.1 = bt124.1 then (if (bt114.2 != bt110.2) = true then (none) else (if (bt118.2 != bt110.2) = true then (none) else (if bt110.2 = true then (if bt122.2 = true then ((impl_IsCommittee.f k bt102.1 bt102.2.1).bind fun t126 => (if (bt122.2 != t126) = true then (none) else ((impl_IsCommittee.f k bt102.1 bt102.2.1).bind fun t127 => ((spec_IsCommittee.f k bt102.1 bt102.2.1).bind fun t128 => (laws_FnSetsWin.j0 k l1 bt102.2.2 bt110.1 bt110.2 bt114.1 bt118.1 bt122.1 (t127 != t128) bt102.1 bt102.2.1))))) else (none)) else ((impl_IsCommittee.f k bt102.1 bt102.2.1).bind fun t129 => (if (bt122.2 != t129) = true then (none) else ((impl_IsCommittee.f k bt102.1 bt102.2.1).bind fun t130 => ((spec_IsCommittee.f k bt102.1 bt102.2.1).bind fun t131 => (laws_FnSetsWin.j0 k l1 bt102.2.2 bt110.1 bt110.2 bt114.1 bt118.1 bt122.1 (t130 != t131) bt102.1 bt102.2.1)))))))) else (none))) else (none)))))))))))))))))) = some r := h
 clear h
 replace H := oA H
 obtain ⟨t101, A3, H⟩ := H
 (try dsimp only at H)
 by_cases c4 : t101 = true
 ·subst c4
  replace H := iT H
  as_aux_lemma =>
   obtain rfl := Option.some.inj H
   go_enter Tryz.func3, Tryz.ntmps3
   go_wp2_with (first | ((with_reducible refine gate_callee (f := 10) rfl ?_); refine gL 54 Tryz.func10 #[.slice A0 l0.length c0, .slice A1 l1.length c1] ?_; (with_reducible refine (laws_big.calls _ _ l0 _ _ l1 true _ HR0.out HC0.out HR1.out HC1.out A3.out).mono ?_); rintro e w' ⟨rfl, ⟨nd, rfl⟩⟩; refine ⟨_, rfl, ?_⟩))
   go_ret
   exact ⟨by first | rfl | (simp <;> rfl) | (simp [*] <;> rfl), by repeat (first | (with_reducible first | exact HB.out | apply ba | apply bd | apply be) | exact HB.out)⟩
 ·replace c4 := Bool.eq_false_iff.mpr c4
  subst c4
  replace H := iF H
  replace H := oB H
  obtain ⟨⟨t102, t103, t106⟩, A50, H⟩ := H
  (try dsimp only at H)
  have A5 := Aside0.mk A50
  clear A50
  replace H := oB H
  obtain ⟨⟨t110, t111⟩, A60, H⟩ := H
  (try dsimp only at H)
  have A6 := Aside0.mk A60
  clear A60
  replace H := oB H
  obtain ⟨⟨t112, t113⟩, A70, H⟩ := H
  (try dsimp only at H)
  have A7 := Aside0.mk A70
  clear A70
  replace H := oB H
  obtain ⟨⟨t114, t115⟩, A80, H⟩ := H
  (try dsimp only at H)
  have A8 := Aside0.mk A80
  clear A80
  replace H := oB H
  obtain ⟨⟨t116, t117⟩, A90, H⟩ := H
  (try dsimp only at H)
  have A9 := Aside0.mk A90
  clear A90
  replace H := oB H
  obtain ⟨⟨t118, t119⟩, A100, H⟩ := H
  (try dsimp only at H)
  have A10 := Aside0.mk A100
  clear A100
  replace H := oB H
  obtain ⟨⟨t120, t121⟩, A110, H⟩ := H
  (try dsimp only at H)
  have A11 := Aside0.mk A110
  clear A110
  replace H := oB H
  obtain ⟨⟨t122, t123⟩, A120, H⟩ := H
  (try dsimp only at H)
  have A12 := Aside0.mk A120
  clear A120
  replace H := oB H
  obtain ⟨⟨t124, t125⟩, A130, H⟩ := H
  (try dsimp only at H)
  have A13 := Aside0.mk A130
  clear A130
  have HC14 := Aside0.mk H
  clear H
  go_enter Tryz.func3, Tryz.ntmps3
  go_upto_region 3 with (first | ((with_reducible refine gate_callee (f := 10) rfl ?_); refine gL 54 Tryz.func10 #[.slice A0 l0.length c0, .slice A1 l1.length c1] ?_; (with_reducible refine (laws_big.calls _ _ l0 _ _ l1 false _ ?side1 ?side2 ?side3 ?side4 A3.out).mono ?_); (case side1 =>  repeat (first | exact HR0.out | (with_reducible refine Kd.C_alloc ?_ _) | (with_reducible refine Kd.C_drewN ?_ _) | (with_reducible refine Kd.C_drew ?_))); (case side2 => exact HC0.out); (case side3 =>  repeat (first | exact HR1.out | (with_reducible refine Kd.C_alloc ?_ _) | (with_reducible refine Kd.C_drewN ?_ _) | (with_reducible refine Kd.C_drew ?_))); (case side4 => exact HC1.out); rintro e w' ⟨rfl, ⟨nd, rfl⟩⟩; refine ⟨_, rfl, ?_⟩))
  go_upto_region 4 with (first | ((with_reducible refine gate_callee (f := 11) rfl ?_); refine gL 57 Tryz.func11 #[.slice A0 l0.length c0] ?_; (with_reducible refine (spec_DrawIsWinning.calls k _ _ l0 t102 t103 t106 _ ?side1 ?side2 A5.out).mono ?_); (case side1 =>  repeat (first | exact HR0.out | (with_reducible refine Kd.C_alloc ?_ _) | (with_reducible refine Kd.C_drewN ?_ _) | (with_reducible refine Kd.C_drew ?_))); (case side2 => exact HC0.out); rintro e w15 ⟨v104, v107, rfl, ho0, ho1, hb⟩; refine ⟨_, rfl, ?_⟩; have HO105 := Aside0.mk (Kd.R_lower ho0 (below_size (by repeat (first | exact HB.out | apply ba | apply bd | apply be)))); have HO108 := Aside0.mk (Kd.R_lower ho1 (below_size (by repeat (first | exact HB.out | apply ba | apply bd | apply be)))); replace HB := Aside0.mk (below_step (by repeat (first | exact HB.out | apply ba | apply bd | apply be)) hb); (try clear hb); (try clear ho0); (try clear ho1)) | ((with_reducible refine gate_dst (N := 5) rfl ?_); (try (refine gate_guard (by rfl) ?_; dsimp only)); refine xE (N := 5) (cs := #[.int .i64 0, .slice none 0 0]) (t := 26) ?_; intro gb109 hg w16 BK109 hb; have GW109 := Aside0.mk ((by rw [hg]; exact (below_size (by repeat (first | exact HB.out | apply ba | apply bd | apply be))) : w.heap.size ≤ gb109)); have GE109 := Aside0.mk ((by rw [hg]; exact (below_size (by repeat (first | exact HB.out | apply ba | apply bd | apply be))) : w.heap.size ≤ gb109)); replace HO105 := Aside0.mk (Kd.R_below (by (with_reducible repeat (first | apply qA | apply qN | apply qD)); exact HO105.out) hb); replace HO108 := Aside0.mk (Kd.R_below (by (with_reducible repeat (first | apply qA | apply qN | apply qD)); exact HO108.out) hb); replace HB := Aside0.mk (below_step (by repeat (first | exact HB.out | apply ba | apply bd | apply be)) hb); clear hb hg; have hcz17_0 := cZ BK109 0; have hcz17_1 := cZ BK109 1; have hfz17_0 := fZ BK109 0; have hfz17_1 := fZ BK109 1; obtain ⟨Ao18, co18, eo18⟩ := Kd.R_slice HO105.out; subst eo18; obtain ⟨Ao19, co19, eo19⟩ := Kd.R_slice HO108.out; subst eo19))
  go_upto_region 5 with (first | ((with_reducible refine gate_callee (f := 12) rfl ?_); refine gL 63 Tryz.func12 #[.agg #[.int .i64 t102, .slice Ao18 t103.length co18], .slice Ao19 t106.length co19] ?_; (with_reducible refine (impl_IsWinning.calls k t102 _ _ t103 _ _ t106 t110 t111 _ ?side1 ?side2 ?side3 ?side4 A6.out).mono ?_); (case side1 => refine (Kd.R_reads' (e := 3) (base := w.heap.size) (ok := fun k_ => some k_ ≠ (.slice Ao19 t106.length co19 : Value).ownBlock) (n := t103.length) (c := co18) ?_).2.2; exact (by (with_reducible repeat (first | apply qA | apply qN | apply qD)); exact (Kd.R_mono (Kd.R_far (p := ⟨gb109, 1, none⟩) (Kd.R_far (p := ⟨gb109, 0, none⟩) (Kd.R_types HO105.out BK109.out (by decide)) (fun _ hk => hk.2) (.int .i64 t102)) (fun _ hk => hk.2) (.slice Ao18 t103.length co18)) (fun _ h_ => h_.1)))); (case side2 => exact (Kd.R_reads' HO105.out).2.1); (case side3 => refine (Kd.R_reads' (e := 3) (base := w.heap.size) (ok := fun k_ => some k_ ≠ (.slice Ao18 t103.length co18 : Value).ownBlock) (n := t106.length) (c := co19) ?_).2.2; exact (by (with_reducible repeat (first | apply qA | apply qN | apply qD)); exact (Kd.R_mono (Kd.R_far (p := ⟨gb109, 1, none⟩) (Kd.R_far (p := ⟨gb109, 0, none⟩) (Kd.R_types HO108.out BK109.out (by decide)) (fun _ hk => hk.2) (.int .i64 t102)) (fun _ hk => hk.2) (.slice Ao18 t103.length co18)) (fun _ h_ => h_.1)))); (case side4 => exact (Kd.R_reads' HO108.out).2.1); rintro e w20 ⟨rfl, hb⟩; refine ⟨_, rfl, ?_⟩; replace HO105 := Aside0.mk (Kd.R_below (by (with_reducible repeat (first | apply qA | apply qN | apply qD)); exact (Kd.R_mono (Kd.R_far (p := ⟨gb109, 1, none⟩) (Kd.R_far (p := ⟨gb109, 0, none⟩) (Kd.R_types HO105.out BK109.out (by decide)) (fun _ hk => hk.2) (.int .i64 t102)) (fun _ hk => hk.2) (.slice Ao18 t103.length co18)) (fun _ h_ => h_.1))) hb); replace HO108 := Aside0.mk (Kd.R_below (by (with_reducible repeat (first | apply qA | apply qN | apply qD)); exact (Kd.R_mono (Kd.R_far (p := ⟨gb109, 1, none⟩) (Kd.R_far (p := ⟨gb109, 0, none⟩) (Kd.R_types HO108.out BK109.out (by decide)) (fun _ hk => hk.2) (.int .i64 t102)) (fun _ hk => hk.2) (.slice Ao18 t103.length co18)) (fun _ h_ => h_.1))) hb); replace BK109 := Aside0.mk (blk_below (g := gb109) (o := .cells #[.int .i64 t102, .slice Ao18 t103.length co18] 26 (0, 0)) (by (with_reducible repeat (first | refine kN ?_ _ | refine kD ?_ | refine kA ?_ _)); refine blk_put (cs := #[.int .i64 t102, .slice none 0 0]) ?_ 1 _ rfl; (with_reducible repeat (first | refine kN ?_ _ | refine kD ?_ | refine kA ?_ _)); refine blk_put (cs := #[.int .i64 0, .slice none 0 0]) ?_ 0 _ rfl; (with_reducible repeat (first | refine kN ?_ _ | refine kD ?_ | refine kA ?_ _)); exact BK109.out) hb); replace HB := Aside0.mk (below_step (by repeat (first | exact HB.out | apply ba | apply bd | apply be | refine bs ?_ GE109.out)) hb); (try clear hb); (try clear hcz17_0 hcz17_1 hfz17_0 hfz17_1); have hcz21_0 := cZ BK109 0; have hcz21_1 := cZ BK109 1; have hfz21_0 := fZ BK109 0; have hfz21_1 := fZ BK109 1))
  go_upto_region 6 with (first | ((with_reducible refine gate_callee (f := 13) rfl ?_); refine gL 69 Tryz.func13 #[.agg #[.int .i64 t102, .slice Ao18 t103.length co18], .slice Ao19 t106.length co19] ?_; (with_reducible refine (spec_IsWinning.calls k t102 _ _ t103 _ _ t106 t112 t113 _ ?side1 ?side2 ?side3 ?side4 A7.out).mono ?_); (case side1 =>  repeat (first | exact (Kd.R_reads' HO105.out).2.2 | (with_reducible refine Kd.C_alloc ?_ _) | (with_reducible refine Kd.C_drewN ?_ _) | (with_reducible refine Kd.C_drew ?_))); (case side2 => exact (Kd.R_reads' HO105.out).2.1); (case side3 =>  repeat (first | exact (Kd.R_reads' HO108.out).2.2 | (with_reducible refine Kd.C_alloc ?_ _) | (with_reducible refine Kd.C_drewN ?_ _) | (with_reducible refine Kd.C_drew ?_))); (case side4 => exact (Kd.R_reads' HO108.out).2.1); rintro e w22 ⟨rfl, hb⟩; refine ⟨_, rfl, ?_⟩; replace HO105 := Aside0.mk (Kd.R_below (by (with_reducible repeat (first | apply qA | apply qN | apply qD)); exact HO105.out) hb); replace HO108 := Aside0.mk (Kd.R_below (by (with_reducible repeat (first | apply qA | apply qN | apply qD)); exact HO108.out) hb); replace BK109 := Aside0.mk (blk_below (g := gb109) (o := .cells #[.int .i64 t102, .slice Ao18 t103.length co18] 26 (0, 0)) (by (with_reducible repeat (first | refine kN ?_ _ | refine kD ?_ | refine kA ?_ _)); exact BK109.out) hb); replace HB := Aside0.mk (below_step (by repeat (first | exact HB.out | apply ba | apply bd | apply be | refine bs ?_ GE109.out)) hb); (try clear hb); (try clear hcz21_0 hcz21_1 hfz21_0 hfz21_1); have hcz23_0 := cZ BK109 0; have hcz23_1 := cZ BK109 1; have hfz23_0 := fZ BK109 0; have hfz23_1 := fZ BK109 1))
  go_upto_region 7 with (first | ((with_reducible refine gate_callee (f := 14) rfl ?_); refine gL 75 Tryz.func14 #[.agg #[.int .i64 t102, .slice Ao18 t103.length co18], .slice Ao19 t106.length co19] ?_; (with_reducible refine (impl_IsBlocking.calls k t102 _ _ t103 _ _ t106 t114 t115 _ ?side1 ?side2 ?side3 ?side4 A8.out).mono ?_); (case side1 =>  repeat (first | exact (Kd.R_reads' HO105.out).2.2 | (with_reducible refine Kd.C_alloc ?_ _) | (with_reducible refine Kd.C_drewN ?_ _) | (with_reducible refine Kd.C_drew ?_))); (case side2 => exact (Kd.R_reads' HO105.out).2.1); (case side3 =>  repeat (first | exact (Kd.R_reads' HO108.out).2.2 | (with_reducible refine Kd.C_alloc ?_ _) | (with_reducible refine Kd.C_drewN ?_ _) | (with_reducible refine Kd.C_drew ?_))); (case side4 => exact (Kd.R_reads' HO108.out).2.1); rintro e w24 ⟨rfl, hb⟩; refine ⟨_, rfl, ?_⟩; replace HO105 := Aside0.mk (Kd.R_below (by (with_reducible repeat (first | apply qA | apply qN | apply qD)); exact HO105.out) hb); replace HO108 := Aside0.mk (Kd.R_below (by (with_reducible repeat (first | apply qA | apply qN | apply qD)); exact HO108.out) hb); replace BK109 := Aside0.mk (blk_below (g := gb109) (o := .cells #[.int .i64 t102, .slice Ao18 t103.length co18] 26 (0, 0)) (by (with_reducible repeat (first | refine kN ?_ _ | refine kD ?_ | refine kA ?_ _)); exact BK109.out) hb); replace HB := Aside0.mk (below_step (by repeat (first | exact HB.out | apply ba | apply bd | apply be | refine bs ?_ GE109.out)) hb); (try clear hb); (try clear hcz23_0 hcz23_1 hfz23_0 hfz23_1); have hcz25_0 := cZ BK109 0; have hcz25_1 := cZ BK109 1; have hfz25_0 := fZ BK109 0; have hfz25_1 := fZ BK109 1))
  go_upto_region 8 with (first | ((with_reducible refine gate_callee (f := 15) rfl ?_); refine gL 81 Tryz.func15 #[.agg #[.int .i64 t102, .slice Ao18 t103.length co18], .slice Ao19 t106.length co19] ?_; (with_reducible refine (spec_IsBlocking.calls k t102 _ _ t103 _ _ t106 t116 t117 _ ?side1 ?side2 ?side3 ?side4 A9.out).mono ?_); (case side1 =>  repeat (first | exact (Kd.R_reads' HO105.out).2.2 | (with_reducible refine Kd.C_alloc ?_ _) | (with_reducible refine Kd.C_drewN ?_ _) | (with_reducible refine Kd.C_drew ?_))); (case side2 => exact (Kd.R_reads' HO105.out).2.1); (case side3 =>  repeat (first | exact (Kd.R_reads' HO108.out).2.2 | (with_reducible refine Kd.C_alloc ?_ _) | (with_reducible refine Kd.C_drewN ?_ _) | (with_reducible refine Kd.C_drew ?_))); (case side4 => exact (Kd.R_reads' HO108.out).2.1); rintro e w26 ⟨rfl, hb⟩; refine ⟨_, rfl, ?_⟩; replace HO105 := Aside0.mk (Kd.R_below (by (with_reducible repeat (first | apply qA | apply qN | apply qD)); exact HO105.out) hb); replace HO108 := Aside0.mk (Kd.R_below (by (with_reducible repeat (first | apply qA | apply qN | apply qD)); exact HO108.out) hb); replace BK109 := Aside0.mk (blk_below (g := gb109) (o := .cells #[.int .i64 t102, .slice Ao18 t103.length co18] 26 (0, 0)) (by (with_reducible repeat (first | refine kN ?_ _ | refine kD ?_ | refine kA ?_ _)); exact BK109.out) hb); replace HB := Aside0.mk (below_step (by repeat (first | exact HB.out | apply ba | apply bd | apply be | refine bs ?_ GE109.out)) hb); (try clear hb); (try clear hcz25_0 hcz25_1 hfz25_0 hfz25_1); have hcz27_0 := cZ BK109 0; have hcz27_1 := cZ BK109 1; have hfz27_0 := fZ BK109 0; have hfz27_1 := fZ BK109 1))
  go_upto_region 9 with (first | ((with_reducible refine gate_callee (f := 16) rfl ?_); refine gL 87 Tryz.func16 #[.agg #[.int .i64 t102, .slice Ao18 t103.length co18], .slice Ao19 t106.length co19] ?_; (with_reducible refine (impl_WeightOfSet.calls k t102 _ _ t103 _ _ t106 t118 t119 _ ?side1 ?side2 ?side3 ?side4 A10.out).mono ?_); (case side1 =>  repeat (first | exact (Kd.R_reads' HO105.out).2.2 | (with_reducible refine Kd.C_alloc ?_ _) | (with_reducible refine Kd.C_drewN ?_ _) | (with_reducible refine Kd.C_drew ?_))); (case side2 => exact (Kd.R_reads' HO105.out).2.1); (case side3 =>  repeat (first | exact (Kd.R_reads' HO108.out).2.2 | (with_reducible refine Kd.C_alloc ?_ _) | (with_reducible refine Kd.C_drewN ?_ _) | (with_reducible refine Kd.C_drew ?_))); (case side4 => exact (Kd.R_reads' HO108.out).2.1); rintro e w28 ⟨rfl, hb⟩; refine ⟨_, rfl, ?_⟩; replace HO105 := Aside0.mk (Kd.R_below (by (with_reducible repeat (first | apply qA | apply qN | apply qD)); exact HO105.out) hb); replace HO108 := Aside0.mk (Kd.R_below (by (with_reducible repeat (first | apply qA | apply qN | apply qD)); exact HO108.out) hb); replace BK109 := Aside0.mk (blk_below (g := gb109) (o := .cells #[.int .i64 t102, .slice Ao18 t103.length co18] 26 (0, 0)) (by (with_reducible repeat (first | refine kN ?_ _ | refine kD ?_ | refine kA ?_ _)); exact BK109.out) hb); replace HB := Aside0.mk (below_step (by repeat (first | exact HB.out | apply ba | apply bd | apply be | refine bs ?_ GE109.out)) hb); (try clear hb); (try clear hcz27_0 hcz27_1 hfz27_0 hfz27_1); have hcz29_0 := cZ BK109 0; have hcz29_1 := cZ BK109 1; have hfz29_0 := fZ BK109 0; have hfz29_1 := fZ BK109 1))
  go_upto_region 10 with (first | ((with_reducible refine gate_callee (f := 17) rfl ?_); refine gL 93 Tryz.func17 #[.agg #[.int .i64 t102, .slice Ao18 t103.length co18], .slice Ao19 t106.length co19] ?_; (with_reducible refine (spec_WeightOfSet.calls k t102 _ _ t103 _ _ t106 t120 t121 _ ?side1 ?side2 ?side3 ?side4 A11.out).mono ?_); (case side1 =>  repeat (first | exact (Kd.R_reads' HO105.out).2.2 | (with_reducible refine Kd.C_alloc ?_ _) | (with_reducible refine Kd.C_drewN ?_ _) | (with_reducible refine Kd.C_drew ?_))); (case side2 => exact (Kd.R_reads' HO105.out).2.1); (case side3 =>  repeat (first | exact (Kd.R_reads' HO108.out).2.2 | (with_reducible refine Kd.C_alloc ?_ _) | (with_reducible refine Kd.C_drewN ?_ _) | (with_reducible refine Kd.C_drew ?_))); (case side4 => exact (Kd.R_reads' HO108.out).2.1); rintro e w30 ⟨rfl, hb⟩; refine ⟨_, rfl, ?_⟩; replace HO105 := Aside0.mk (Kd.R_below (by (with_reducible repeat (first | apply qA | apply qN | apply qD)); exact HO105.out) hb); replace HO108 := Aside0.mk (Kd.R_below (by (with_reducible repeat (first | apply qA | apply qN | apply qD)); exact HO108.out) hb); replace BK109 := Aside0.mk (blk_below (g := gb109) (o := .cells #[.int .i64 t102, .slice Ao18 t103.length co18] 26 (0, 0)) (by (with_reducible repeat (first | refine kN ?_ _ | refine kD ?_ | refine kA ?_ _)); exact BK109.out) hb); replace HB := Aside0.mk (below_step (by repeat (first | exact HB.out | apply ba | apply bd | apply be | refine bs ?_ GE109.out)) hb); (try clear hb); (try clear hcz29_0 hcz29_1 hfz29_0 hfz29_1); have hcz31_0 := cZ BK109 0; have hcz31_1 := cZ BK109 1; have hfz31_0 := fZ BK109 0; have hfz31_1 := fZ BK109 1))
  go_upto_region 11 with (first | ((with_reducible refine gate_callee (f := 18) rfl ?_); refine gL 98 Tryz.func18 #[.agg #[.int .i64 t102, .slice Ao18 t103.length co18]] ?_; (with_reducible refine (impl_TotalWeight.calls k t102 _ _ t103 t122 t123 _ ?side1 ?side2 A12.out).mono ?_); (case side1 =>  repeat (first | exact (Kd.R_reads' HO105.out).2.2 | (with_reducible refine Kd.C_alloc ?_ _) | (with_reducible refine Kd.C_drewN ?_ _) | (with_reducible refine Kd.C_drew ?_))); (case side2 => exact (Kd.R_reads' HO105.out).2.1); rintro e w32 ⟨rfl, hb⟩; refine ⟨_, rfl, ?_⟩; replace HO105 := Aside0.mk (Kd.R_below (by (with_reducible repeat (first | apply qA | apply qN | apply qD)); exact HO105.out) hb); replace HO108 := Aside0.mk (Kd.R_below (by (with_reducible repeat (first | apply qA | apply qN | apply qD)); exact HO108.out) hb); replace BK109 := Aside0.mk (blk_below (g := gb109) (o := .cells #[.int .i64 t102, .slice Ao18 t103.length co18] 26 (0, 0)) (by (with_reducible repeat (first | refine kN ?_ _ | refine kD ?_ | refine kA ?_ _)); exact BK109.out) hb); replace HB := Aside0.mk (below_step (by repeat (first | exact HB.out | apply ba | apply bd | apply be | refine bs ?_ GE109.out)) hb); (try clear hb); (try clear hcz31_0 hcz31_1 hfz31_0 hfz31_1); have hcz33_0 := cZ BK109 0; have hcz33_1 := cZ BK109 1; have hfz33_0 := fZ BK109 0; have hfz33_1 := fZ BK109 1))
  go_upto_region 12 with (first | ((with_reducible refine gate_callee (f := 19) rfl ?_); refine gL 103 Tryz.func19 #[.agg #[.int .i64 t102, .slice Ao18 t103.length co18]] ?_; (with_reducible refine (spec_TotalWeight.calls k t102 _ _ t103 t124 t125 _ ?side1 ?side2 A13.out).mono ?_); (case side1 =>  repeat (first | exact (Kd.R_reads' HO105.out).2.2 | (with_reducible refine Kd.C_alloc ?_ _) | (with_reducible refine Kd.C_drewN ?_ _) | (with_reducible refine Kd.C_drew ?_))); (case side2 => exact (Kd.R_reads' HO105.out).2.1); rintro e w34 ⟨rfl, hb⟩; refine ⟨_, rfl, ?_⟩; replace HO105 := Aside0.mk (Kd.R_below (by (with_reducible repeat (first | apply qA | apply qN | apply qD)); exact HO105.out) hb); replace HO108 := Aside0.mk (Kd.R_below (by (with_reducible repeat (first | apply qA | apply qN | apply qD)); exact HO108.out) hb); replace BK109 := Aside0.mk (blk_below (g := gb109) (o := .cells #[.int .i64 t102, .slice Ao18 t103.length co18] 26 (0, 0)) (by (with_reducible repeat (first | refine kN ?_ _ | refine kD ?_ | refine kA ?_ _)); exact BK109.out) hb); replace HB := Aside0.mk (below_step (by repeat (first | exact HB.out | apply ba | apply bd | apply be | refine bs ?_ GE109.out)) hb); (try clear hb)))
  (try simp only [Act.put, sA, sZ, sS])
  refine cutT_ [F,F,F,F,F,F,F,F,F,F,F,F,F,F,F,F,F,F,F,F,F,F,F,F,F,F,F,F,F,F,F,F,F,F,F,F,F,F,F,F,F,F,F,F,F,F,F,F,F,F,F,F,F,F,F,F,F,F,F,F,F,F,F,F,F,F,F,F,F,F,F,F,F,F,F,F,F,F,F,F,F,F,F,F,F,F,F,F,F,F,F,F,F,F,F,F,F,F,F,F,F,F,F,F,F,F,T,T,T,T,T,T,T,T,T,T,T,T,T,T,T,T,T,T,T,T,T,T,T,T,T,T,T,T,T,T,T,T,T,T,T,T,T,T,T,T,T,T,T,T,T,T,T,T,T,T,T,T,T,T,T,T,T,T,T,T,T,T,T,T,T,T,T,T] (fun T_ wc_ => (fun v173 wc => ∃ (kq : Nat) (x173_13 : Bool), v173 = .bool x173_13 ∧ Aside0 (laws_FnSetsWin.j0 kq l1 t106 t110 t111 t114 t118 t122 x173_13 t102 t103 = some r) ∧ Aside0 (kq ≤ k) ∧ Aside0 (Kd.R (Kd.int .i64) 3 wc w.heap.size (fun k_ => some k_ ≠ ((.slice Ao18 t103.length co18) : Value).ownBlock) (.slice Ao19 t106.length co19) t106) ∧ Aside0 (Kd.R (Kd.int .i64) 3 wc w.heap.size (fun k_ => some k_ ≠ ((.slice Ao19 t106.length co19) : Value).ownBlock) (.slice Ao18 t103.length co18) t103) ∧ Aside0 (wc.heap[gb109]? = some (.cells #[.int .i64 t102, (.slice Ao18 t103.length co18)] 26 (0, 0))) ∧ Aside0 (Below w.heap.size w wc)) (T_ 173) wc_) ?rest ?first
  case first => as_aux_lemma =>
   intro J_ K_ hJ_j0 hM_
   have H := HC14.out
   clear HC14
   replace H := ite_no H
   obtain ⟨c35, H⟩ := H
   replace c35 := of_nbne c35
   subst t111
   (try simp only [bne_self_eq_false])
   replace H := ite_no H
   obtain ⟨c36, H⟩ := H
   replace c36 := of_nbne c36
   subst t110
   replace H := ite_no H
   obtain ⟨c37, H⟩ := H
   replace c37 := of_nbne c37
   subst t115
   replace H := ite_no H
   obtain ⟨c38, H⟩ := H
   replace c38 := of_nbne c38
   subst t114
   replace H := ite_no H
   obtain ⟨c39, H⟩ := H
   replace c39 := of_nbne c39
   subst t119
   replace H := ite_yes H
   obtain ⟨c40, H⟩ := H
   have c40b0 : (t118 == t120) = true := beq_iff_eq.mpr c40
   have c40b1 : (t118 != t120) = false := bne_eq_false_iff_eq.mpr c40
   clear c40
   replace H := ite_no H
   obtain ⟨c41, H⟩ := H
   replace c41 := of_nbne c41
   subst t123
   replace H := ite_yes H
   obtain ⟨c42, H⟩ := H
   have c42b0 : (t122 == t124) = true := beq_iff_eq.mpr c42
   have c42b1 : (t122 != t124) = false := bne_eq_false_iff_eq.mpr c42
   clear c42
   replace H := ite_no H
   obtain ⟨c43, H⟩ := H
   replace c43 := of_nbne c43
   subst t117
   replace H := ite_no H
   obtain ⟨c44, H⟩ := H
   replace c44 := of_nbne c44
   subst t121
   by_cases c45 : t113 = true
   ·subst c45
    replace H := iT H
    replace H := ite_yes H
    obtain ⟨c46, H⟩ := H
    subst c46
    replace H := oA H
    obtain ⟨t126, A47, H⟩ := H
    (try dsimp only at H)
    replace H := ite_no H
    obtain ⟨c48, H⟩ := H
    have c48b0 : (true != t126) = false := by simpa using c48
    (try (have c48b1 : decide (true = t126) = true := by simpa using c48))
    (try (have c48b2 : (true == t126) = true := by simpa using c48))
    clear c48
    replace H := oA H
    obtain ⟨t127, A49, H⟩ := H
    (try dsimp only at H)
    replace H := oA H
    obtain ⟨t128, A50, H⟩ := H
    (try dsimp only at H)
    as_aux_lemma =>
     have H' := Aside0.mk H
     clear H
     try go_wp2
     replace HO105 := Aside0.mk (Kd.R_drew HO105.out)
     replace HO108 := Aside0.mk (Kd.R_drew HO108.out)
     replace BK109 := Aside0.mk (blk_drew BK109.out)
     replace HB := Aside0.mk (below_drew1 HB.out)
     refine start_ (n := 68) (S := fun w' => w'.cell? ⟨gb109, 0, none⟩ = some (.int .i64 t102) ∧ w'.cell? ⟨gb109, 1, none⟩ = some (.slice Ao18 t103.length co18)) (ds := []) #[F,F,F,F,F,F,F,F,F,F,F,F,F,F,F,F,F,F,F,F,F,F,F,F,F,F,F,F,F,F,F,F,F,F,F,F,F,F,F,F,F,F,F,F,F,F,F,F,F,F,F,F,F,F,F,F,F,F,F,F,F,F,F,F,F,F,F,F] (by kernel_rfl) rfl rfl ⟨(blk_cell BK109.out 0).trans rfl, (blk_cell BK109.out 1).trans rfl⟩ (fun hHeld => ?_); refine with_tabW laws_FnSetsWin.tab12 laws_FnSetsWin.bits12 (fun HT_ HW_ => ?_)
     generalize w34.drew = w51 at HO105 HO108 BK109 HB hHeld ⊢
     refine pU 0 HT_ ?_
     refine pU 1 HT_ ?_
     refine pU 2 HT_ ?_
     refine pU 3 HT_ ?_
     refine pU 4 HT_ ?_
     refine pU 5 HT_ ?_
     refine pU 6 HT_ ?_
     refine pU 7 HT_ ?_
     refine pU 8 HT_ ?_
     refine pU 9 HT_ ?_
     refine pU 10 HT_ ?_
     refine pU 11 HT_ ?_
     refine pU 12 HT_ ?_
     refine pU 13 HT_ ?_
     refine pU 14 HT_ ?_
     refine pU 15 HT_ ?_
     refine pU 16 HT_ ?_
     refine pU 17 HT_ ?_
     refine pU 18 HT_ ?_
     refine pU 19 HT_ ?_
     refine pU 20 HT_ ?_
     refine pU 21 HT_ ?_
     refine pU 22 HT_ ?_
     refine pU 23 HT_ ?_
     refine pU 24 HT_ ?_
     refine pU 25 HT_ ?_
     refine pU 26 HT_ ?_
     refine pU 27 HT_ ?_
     refine pU 28 HT_ ?_
     refine pU 29 HT_ ?_
     refine pU 30 HT_ ?_
     refine pU 31 HT_ ?_
     refine pU 32 HT_ ?_
     refine pU 33 HT_ ?_
     refine pU 34 HT_ ?_
     refine pU 35 HT_ ?_
     refine pU 36 HT_ ?_
     refine pU 37 HT_ ?_
     refine pU 38 HT_ ?_
     refine pU 39 HT_ ?_
     refine pU 40 HT_ ?_
     refine pU 41 HT_ ?_
     refine pU 42 HT_ ?_
     refine pU 43 HT_ ?_
     refine pU 44 HT_ ?_
     refine pU 45 HT_ ?_
     refine pU 46 HT_ ?_
     refine pU 47 HT_ ?_
     refine pU 48 HT_ ?_
     refine pU 49 HT_ ?_
     refine pU 50 HT_ ?_
     refine pU 51 HT_ ?_
     refine pU 52 HT_ ?_
     refine pU 53 HT_ ?_
     refine pU 54 HT_ ?_
     refine pU 55 HT_ ?_
     refine pU 56 HT_ ?_
     refine tK 57 HT_ HW_ hHeld (hy := by rintro w' ⟨s0, s1⟩; go_simp; with_reducible rfl) ?_
     refine oN 58 HT_ (fun K hK => ?_)
     refine gE Tryz.func20 #[.agg #[.int .i64 t102, .slice Ao18 t103.length co18]] ?_
     with_reducible refine (impl_IsCommittee.calls k t102 _ _ t103 t126 _ ?side1 ?side2 A47.out).mono ?_
     (case side1 => repeat (first | exact (Kd.R_reads' HO105.out).2.2 | (with_reducible refine Kd.C_alloc ?_ _) | (with_reducible refine Kd.C_drewN ?_ _) | (with_reducible refine Kd.C_drew ?_)))
     (case side2 => exact (Kd.R_reads' HO105.out).2.1)
     rintro e w52 ⟨rfl, hb⟩
     refine ⟨_, rfl, ?_⟩
     replace HO105 := Aside0.mk (Kd.R_below HO105.out hb)
     replace HO108 := Aside0.mk (Kd.R_below HO108.out hb)
     replace BK109 := bB BK109 hb
     replace HB := sB HB hb
     (try clear hb)
     (try clear hb2)
     (try clear hk)
     (try clear hi)
     refine hK.out _ _ ⟨(blk_cell BK109.out 0).trans rfl, (blk_cell BK109.out 1).trans rfl⟩ (fun hHeld => ?_)
     clear hK K
     refine nM ?_
     refine pU 59 HT_ ?_
     refine pU 60 HT_ ?_
     refine pU 61 HT_ ?_
     refine tK 62 HT_ HW_ hHeld (hy := by rintro w' ⟨s0, s1⟩; go_simp; with_reducible rfl) ?_
     refine tK 64 HT_ HW_ hHeld (hy := by rintro w' ⟨s0, s1⟩; go_simp; with_reducible rfl) ?_
     refine oN 63 HT_ (fun K hK => ?_)
     refine gE Tryz.func20 #[.agg #[.int .i64 t102, .slice Ao18 t103.length co18]] ?_
     with_reducible refine (impl_IsCommittee.calls k t102 _ _ t103 t127 _ ?side1 ?side2 A49.out).mono ?_
     (case side1 => repeat (first | exact (Kd.R_reads' HO105.out).2.2 | (with_reducible refine Kd.C_alloc ?_ _) | (with_reducible refine Kd.C_drewN ?_ _) | (with_reducible refine Kd.C_drew ?_)))
     (case side2 => exact (Kd.R_reads' HO105.out).2.1)
     rintro e w53 ⟨rfl, hb⟩
     refine ⟨_, rfl, ?_⟩
     replace HO105 := Aside0.mk (Kd.R_below HO105.out hb)
     replace HO108 := Aside0.mk (Kd.R_below HO108.out hb)
     replace BK109 := bB BK109 hb
     replace HB := sB HB hb
     (try clear hb)
     (try clear hb2)
     (try clear hk)
     (try clear hi)
     refine hK.out _ _ ⟨(blk_cell BK109.out 0).trans rfl, (blk_cell BK109.out 1).trans rfl⟩ (fun hHeld => ?_)
     clear hK K
     refine nM ?_
     refine oN 65 HT_ (fun K hK => ?_)
     refine gE Tryz.func21 #[.agg #[.int .i64 t102, .slice Ao18 t103.length co18]] ?_
     with_reducible refine (spec_IsCommittee.calls k t102 _ _ t103 t128 _ ?side1 ?side2 A50.out).mono ?_
     (case side1 => repeat (first | exact (Kd.R_reads' HO105.out).2.2 | (with_reducible refine Kd.C_alloc ?_ _) | (with_reducible refine Kd.C_drewN ?_ _) | (with_reducible refine Kd.C_drew ?_)))
     (case side2 => exact (Kd.R_reads' HO105.out).2.1)
     rintro e w54 ⟨rfl, hb⟩
     refine ⟨_, rfl, ?_⟩
     replace HO105 := Aside0.mk (Kd.R_below HO105.out hb)
     replace HO108 := Aside0.mk (Kd.R_below HO108.out hb)
     replace BK109 := bB BK109 hb
     replace HB := sB HB hb
     (try clear hb)
     (try clear hb2)
     (try clear hk)
     (try clear hi)
     refine hK.out _ _ ⟨(blk_cell BK109.out 0).trans rfl, (blk_cell BK109.out 1).trans rfl⟩ (fun hHeld => ?_)
     clear hK K
     refine nM ?_
     refine pU 66 HT_ ?_
     refine pU 67 HT_ ?_
     refine done_ (done_of HT_.out (by kernel_rfl)) ?_
     try go_wp2
     refine meetT_ hJ_j0 (by kernel_rfl) ?rel
     case rel => exact ⟨_, ((t127 != t128)), (by first | rfl | (simp; done) | (simp [*]; done)), H', ⟨by first | omega | exact Nat.le_refl _⟩, ⟨by exact HO108.out⟩, ⟨by exact HO105.out⟩, ⟨by exact BK109.out⟩, ⟨by repeat (first | (with_reducible first | exact HB.out | apply ba | apply bd | apply be | refine bs ?_ GE109.out) | exact HB.out)⟩⟩
   ·replace c45 := Bool.eq_false_iff.mpr c45
    subst c45
    replace H := iF H
    replace H := oA H
    obtain ⟨t129, A55, H⟩ := H
    (try dsimp only at H)
    replace H := ite_no H
    obtain ⟨c56, H⟩ := H
    replace c56 := of_nbne c56
    subst t125
    replace H := oA H
    obtain ⟨t130, A57, H⟩ := H
    (try dsimp only at H)
    replace H := oA H
    obtain ⟨t131, A58, H⟩ := H
    (try dsimp only at H)
    as_aux_lemma =>
     have H' := Aside0.mk H
     clear H
     try go_wp2
     replace HO105 := Aside0.mk (Kd.R_drew HO105.out)
     replace HO108 := Aside0.mk (Kd.R_drew HO108.out)
     replace BK109 := Aside0.mk (blk_drew BK109.out)
     replace HB := Aside0.mk (below_drew1 HB.out)
     refine start_ (n := 68) (S := fun w' => w'.cell? ⟨gb109, 0, none⟩ = some (.int .i64 t102) ∧ w'.cell? ⟨gb109, 1, none⟩ = some (.slice Ao18 t103.length co18)) (ds := []) #[F,F,F,F,F,F,F,F,F,F,F,F,F,F,F,F,F,F,F,F,F,F,F,F,F,F,F,F,F,F,F,F,F,F,F,F,F,F,F,F,F,F,F,F,F,F,F,F,F,F,F,F,F,F,F,F,F,F,F,F,F,F,F,F,F,F,F,F] (by kernel_rfl) rfl rfl ⟨(blk_cell BK109.out 0).trans rfl, (blk_cell BK109.out 1).trans rfl⟩ (fun hHeld => ?_); refine with_tabW laws_FnSetsWin.tab12 laws_FnSetsWin.bits12 (fun HT_ HW_ => ?_)
     generalize w34.drew = w59 at HO105 HO108 BK109 HB hHeld ⊢
     refine pU 0 HT_ ?_
     refine pU 1 HT_ ?_
     refine pU 2 HT_ ?_
     refine pU 3 HT_ ?_
     refine pU 4 HT_ ?_
     refine pU 5 HT_ ?_
     refine pU 6 HT_ ?_
     refine pU 7 HT_ ?_
     refine pU 8 HT_ ?_
     refine pU 9 HT_ ?_
     refine pU 10 HT_ ?_
     refine pU 11 HT_ ?_
     refine pU 12 HT_ ?_
     refine pU 13 HT_ ?_
     refine pU 14 HT_ ?_
     refine pU 15 HT_ ?_
     refine pU 16 HT_ ?_
     refine pU 17 HT_ ?_
     refine pU 18 HT_ ?_
     refine pU 19 HT_ ?_
     refine pU 20 HT_ ?_
     refine pU 21 HT_ ?_
     refine pU 22 HT_ ?_
     refine pU 23 HT_ ?_
     refine pU 24 HT_ ?_
     refine pU 25 HT_ ?_
     refine pU 26 HT_ ?_
     refine pU 27 HT_ ?_
     refine pU 28 HT_ ?_
     refine pU 29 HT_ ?_
     refine pU 30 HT_ ?_
     refine pU 31 HT_ ?_
     refine pU 32 HT_ ?_
     refine pU 33 HT_ ?_
     refine pU 34 HT_ ?_
     refine pU 35 HT_ ?_
     refine pU 36 HT_ ?_
     refine pU 37 HT_ ?_
     refine pU 38 HT_ ?_
     refine pU 39 HT_ ?_
     refine pU 40 HT_ ?_
     refine pU 41 HT_ ?_
     refine pU 42 HT_ ?_
     refine pU 43 HT_ ?_
     refine pU 44 HT_ ?_
     refine pU 45 HT_ ?_
     refine pU 46 HT_ ?_
     refine pU 47 HT_ ?_
     refine pU 48 HT_ ?_
     refine pU 49 HT_ ?_
     refine pU 50 HT_ ?_
     refine pV 51 HT_ ?_
     refine pV 52 HT_ ?_
     refine pU 53 HT_ ?_
     refine pU 54 HT_ ?_
     refine pU 55 HT_ ?_
     refine pU 56 HT_ ?_
     refine tK 57 HT_ HW_ hHeld (hy := by rintro w' ⟨s0, s1⟩; go_simp; with_reducible rfl) ?_
     refine oN 58 HT_ (fun K hK => ?_)
     refine gE Tryz.func20 #[.agg #[.int .i64 t102, .slice Ao18 t103.length co18]] ?_
     with_reducible refine (impl_IsCommittee.calls k t102 _ _ t103 t129 _ ?side1 ?side2 A55.out).mono ?_
     (case side1 => repeat (first | exact (Kd.R_reads' HO105.out).2.2 | (with_reducible refine Kd.C_alloc ?_ _) | (with_reducible refine Kd.C_drewN ?_ _) | (with_reducible refine Kd.C_drew ?_)))
     (case side2 => exact (Kd.R_reads' HO105.out).2.1)
     rintro e w60 ⟨rfl, hb⟩
     refine ⟨_, rfl, ?_⟩
     replace HO105 := Aside0.mk (Kd.R_below HO105.out hb)
     replace HO108 := Aside0.mk (Kd.R_below HO108.out hb)
     replace BK109 := bB BK109 hb
     replace HB := sB HB hb
     (try clear hb)
     (try clear hb2)
     (try clear hk)
     (try clear hi)
     refine hK.out _ _ ⟨(blk_cell BK109.out 0).trans rfl, (blk_cell BK109.out 1).trans rfl⟩ (fun hHeld => ?_)
     clear hK K
     refine nM ?_
     refine pU 59 HT_ ?_
     refine pU 60 HT_ ?_
     refine pU 61 HT_ ?_
     refine tK 62 HT_ HW_ hHeld (hy := by rintro w' ⟨s0, s1⟩; go_simp; with_reducible rfl) ?_
     refine tK 64 HT_ HW_ hHeld (hy := by rintro w' ⟨s0, s1⟩; go_simp; with_reducible rfl) ?_
     refine oN 63 HT_ (fun K hK => ?_)
     refine gE Tryz.func20 #[.agg #[.int .i64 t102, .slice Ao18 t103.length co18]] ?_
     with_reducible refine (impl_IsCommittee.calls k t102 _ _ t103 t130 _ ?side1 ?side2 A57.out).mono ?_
     (case side1 => repeat (first | exact (Kd.R_reads' HO105.out).2.2 | (with_reducible refine Kd.C_alloc ?_ _) | (with_reducible refine Kd.C_drewN ?_ _) | (with_reducible refine Kd.C_drew ?_)))
     (case side2 => exact (Kd.R_reads' HO105.out).2.1)
     rintro e w61 ⟨rfl, hb⟩
     refine ⟨_, rfl, ?_⟩
     replace HO105 := Aside0.mk (Kd.R_below HO105.out hb)
     replace HO108 := Aside0.mk (Kd.R_below HO108.out hb)
     replace BK109 := bB BK109 hb
     replace HB := sB HB hb
     (try clear hb)
     (try clear hb2)
     (try clear hk)
     (try clear hi)
     refine hK.out _ _ ⟨(blk_cell BK109.out 0).trans rfl, (blk_cell BK109.out 1).trans rfl⟩ (fun hHeld => ?_)
     clear hK K
     refine nM ?_
     refine oN 65 HT_ (fun K hK => ?_)
     refine gE Tryz.func21 #[.agg #[.int .i64 t102, .slice Ao18 t103.length co18]] ?_
     with_reducible refine (spec_IsCommittee.calls k t102 _ _ t103 t131 _ ?side1 ?side2 A58.out).mono ?_
     (case side1 => repeat (first | exact (Kd.R_reads' HO105.out).2.2 | (with_reducible refine Kd.C_alloc ?_ _) | (with_reducible refine Kd.C_drewN ?_ _) | (with_reducible refine Kd.C_drew ?_)))
     (case side2 => exact (Kd.R_reads' HO105.out).2.1)
     rintro e w62 ⟨rfl, hb⟩
     refine ⟨_, rfl, ?_⟩
     replace HO105 := Aside0.mk (Kd.R_below HO105.out hb)
     replace HO108 := Aside0.mk (Kd.R_below HO108.out hb)
     replace BK109 := bB BK109 hb
     replace HB := sB HB hb
     (try clear hb)
     (try clear hb2)
     (try clear hk)
     (try clear hi)
     refine hK.out _ _ ⟨(blk_cell BK109.out 0).trans rfl, (blk_cell BK109.out 1).trans rfl⟩ (fun hHeld => ?_)
     clear hK K
     refine nM ?_
     refine pU 66 HT_ ?_
     refine pU 67 HT_ ?_
     refine done_ (done_of HT_.out (by kernel_rfl)) ?_
     try go_wp2
     refine meetT_ hJ_j0 (by kernel_rfl) ?rel
     case rel => exact ⟨_, ((t130 != t131)), (by first | rfl | (simp; done) | (simp [*]; done)), H', ⟨by first | omega | exact Nat.le_refl _⟩, ⟨by exact HO108.out⟩, ⟨by exact HO105.out⟩, ⟨by exact BK109.out⟩, ⟨by repeat (first | (with_reducible first | exact HB.out | apply ba | apply bd | apply be | refine bs ?_ GE109.out) | exact HB.out)⟩⟩
  case rest => as_aux_lemma =>
   intro T_ wc hcut
   simp only [putT, putM, T, F, Nat.reduceAdd]
   (try dsimp only at hcut)
   generalize T_ 173 = u173 at hcut ⊢
   clear HC14
   (try clear c2); (try clear p2); (try clear c20); (try clear c21)
   obtain ⟨kq, x173_13, rfl, HA, HJ13, HO_6, HO_110001, BK109, HB⟩ := hcut
   cases kq with
   | zero => exact absurd HA.out (by simp [laws_FnSetsWin.j0])
   | succ kj13 =>
    have H := HA.out
    clear HA
    simp only [laws_FnSetsWin.j0] at H
    replace H := ite_no H
    obtain ⟨c63, H⟩ := H
    replace c63 := Bool.eq_false_iff.mpr c63
    subst c63
    have HC64 := Aside0.mk H
    clear H
    go_upto_if 174 with (fail)
    refine cutT_ [F,F,F,F,T,F,F,F,F,F,F,F,F,F,F,F,F,F,F,F,F,F,F,T,T,T,T,T,T,T,T,T,T,F,F,F,F,F,F,F,F,F,F,F,F,F,F,F,F,F,F,F,F,F,F,F,F,F,F,F,F,F,F,F,F,F,F,F,F,F,F,F,F,F,F,F,F,F,F,F,F,F,F,F,F,F,F,F,F,F,F,F,F,F,F,F,F,F,F,F,F,F,F,F,F,F,F,F,F,F,F,F,F,F,F,F,F,F,F,F,F,F,F,F,F,F,F,F,F,F,F,F,F,F,F,F,F,F,F,F,F,F,F,F,F,F,F,F,F,F,F,F,F,F,F,F,F,F,F,F,F,F,F,F,F,F,F,F,F,F,F,F,F,F,T,T,T,T,T,T,T,T,T,T,T,T,T,T,T,T,T,T,T,T,T,T,T,T,T,T,T,T,T,T,T,T,T,T,T,T,T,T,T,T,T,T,T,T,T,T,T,T,T,T,T,T,T,T,T,T,T,T,T,T,T,T,T,T,T,T,T,T,T,T,T,T,T,T,T,T,T] (fun T_ wc_ => (fun wc => ∃ (kq : Nat), Aside0 (laws_FnSetsWin.j1 kq l1 = some r) ∧ Aside0 (kq ≤ kj13) ∧ Aside0 (Kd.R (Kd.int .i64) 3 wc w.heap.size (fun _ => True) (.slice Ao18 t103.length co18) t103) ∧ Aside0 (wc.heap[gb109]? = some (.cells #[.int .i64 t102, (.slice Ao18 t103.length co18)] 26 (0, 0))) ∧ Aside0 (Below w.heap.size w wc))  wc_) ?rest ?first
    case first => as_aux_lemma =>
     intro J_ K_ hJ_j1 hM_
     have H := HC64.out
     clear HC64
     by_cases c65 : t111 = true
     ·subst c65
      replace H := iT H
      replace H := oA H
      obtain ⟨t132, A66, H⟩ := H
      (try dsimp only at H)
      replace H := oB H
      obtain ⟨⟨t135, t136⟩, A670, H⟩ := H
      (try dsimp only at H)
      have A67 := Aside0.mk A670
      clear A670
      replace H := oB H
      obtain ⟨⟨t137, t138⟩, A680, H⟩ := H
      (try dsimp only at H)
      have A68 := Aside0.mk A680
      clear A680
      replace H := oB H
      obtain ⟨⟨t139, t140, t143⟩, A690, H⟩ := H
      (try dsimp only at H)
      have A69 := Aside0.mk A690
      clear A690
      replace H := oB H
      obtain ⟨⟨t145, t146⟩, A700, H⟩ := H
      (try dsimp only at H)
      have A70 := Aside0.mk A700
      clear A700
      replace H := ite_no H
      obtain ⟨c71, H⟩ := H
      have c71b0 : (t110 != (decide (t118 ≥ t102))) = false := by simpa using c71
      (try (have c71b1 : decide (t110 = (decide (t118 ≥ t102))) = true := by simpa using c71))
      (try (have c71b2 : (t110 == (decide (t118 ≥ t102))) = true := by simpa using c71))
      clear c71
      (first | rw [c71b0] | (simp only [i64_w, i32_w]; rw [c71b0]) | skip)
      replace H := ite_yes H
      obtain ⟨c72, H⟩ := H
      subst c72
      replace H := ite_yes H
      obtain ⟨c73, H⟩ := H
      have c73b0 : ((wrap64 (t118 + t135)) == t122) = true := beq_iff_eq.mpr c73
      have c73b1 : ((wrap64 (t118 + t135)) != t122) = false := bne_eq_false_iff_eq.mpr c73
      clear c73
      replace H := ite_yes H
      obtain ⟨c74, H⟩ := H
      subst c74
      replace H := ite_no H
      obtain ⟨c75, H⟩ := H
      replace c75 := of_nbne c75
      subst t114
      replace H := ite_yes H
      obtain ⟨c76, H⟩ := H
      subst c76
      replace H := ite_yes H
      obtain ⟨c77, H⟩ := H
      subst c77
      replace H := ite_no H
      obtain ⟨c78, H⟩ := H
      replace c78 := of_nbne c78
      subst t145
      replace H := oA H
      obtain ⟨t147, A79, H⟩ := H
      (try dsimp only at H)
      replace H := ite_yes H
      obtain ⟨c80, H⟩ := H
      have c80b0 : (t122 == t147) = true := beq_iff_eq.mpr c80
      have c80b1 : (t122 != t147) = false := bne_eq_false_iff_eq.mpr c80
      clear c80
      as_aux_lemma =>
       have H' := Aside0.mk H
       clear H
       have hcz81_0 := cZ BK109 0
       have hcz81_1 := cZ BK109 1
       have hfz81_0 := fZ BK109 0
       have hfz81_1 := fZ BK109 1
       go_upto_region 17 with (first | ((with_reducible refine gate_callee (f := 22) rfl ?_); refine gL 180 Tryz.func22 #[.slice Ao19 t106.length co19, .int .i64 (t103.length : Int)] ?_; (with_reducible refine (laws_mOthers.calls kj13 _ _ t106 (t103.length : Int) t132 _ ?side1 ?side2 A66.out).mono ?_); (case side1 => repeat (first | exact (Kd.R_reads' HO_6.out).2.2 | (with_reducible refine Kd.C_alloc ?_ _) | (with_reducible refine Kd.C_drewN ?_ _) | (with_reducible refine Kd.C_drew ?_))); (case side2 => exact (Kd.R_reads' HO_6.out).2.1); rintro e w82 ⟨v133, rfl, ho0, hb⟩; refine ⟨_, rfl, ?_⟩; have HO134 := Aside0.mk (Kd.R_lower (Kd.R_new' (Kd.R_new' ho0 (Kd.R_lt HO_6.out)) (Kd.R_lt HO_110001.out)) (below_size HB.out)); replace HO_6 := Aside0.mk (Kd.R_elder' HO_6.out (Kd.R_base ho0) hb); replace HO_110001 := Aside0.mk (Kd.R_elder' HO_110001.out (Kd.R_base ho0) hb); replace BK109 := bB BK109 hb; replace HB := sB HB hb; (try clear hb); (try clear ho0); (try clear hcz81_0 hcz81_1 hfz81_0 hfz81_1); have hcz83_0 := cZ BK109 0; have hcz83_1 := cZ BK109 1; have hfz83_0 := fZ BK109 0; have hfz83_1 := fZ BK109 1; obtain ⟨Ao84, co84, eo84⟩ := Kd.R_slice HO134.out; subst eo84))
       go_upto_region 18 with (first | ((with_reducible refine gate_callee (f := 16) rfl ?_); refine gL 184 Tryz.func16 #[.agg #[.int .i64 t102, .slice Ao18 t103.length co18], .slice Ao84 t132.length co84] ?_; (with_reducible refine (impl_WeightOfSet.calls kj13 t102 _ _ t103 _ _ t132 t135 true _ ?side1 ?side2 ?side3 ?side4 A67.out).mono ?_); (case side1 => repeat (first | exact (Kd.R_reads' HO_110001.out).2.2 | (with_reducible refine Kd.C_alloc ?_ _) | (with_reducible refine Kd.C_drewN ?_ _) | (with_reducible refine Kd.C_drew ?_))); (case side2 => exact (Kd.R_reads' HO_110001.out).2.1); (case side3 => repeat (first | exact (Kd.R_reads' HO134.out).2.2 | (with_reducible refine Kd.C_alloc ?_ _) | (with_reducible refine Kd.C_drewN ?_ _) | (with_reducible refine Kd.C_drew ?_))); (case side4 => exact (Kd.R_reads' HO134.out).2.1); rintro e w85 ⟨rfl, hb⟩; refine ⟨_, rfl, ?_⟩; replace HO_6 := Aside0.mk (Kd.R_below HO_6.out hb); replace HO_110001 := Aside0.mk (Kd.R_below HO_110001.out hb); replace HO134 := Aside0.mk (Kd.R_below HO134.out hb); replace BK109 := bB BK109 hb; replace HB := sB HB hb; (try clear hb); (try clear hcz83_0 hcz83_1 hfz83_0 hfz83_1); have hcz86_0 := cZ BK109 0; have hcz86_1 := cZ BK109 1; have hfz86_0 := fZ BK109 0; have hfz86_1 := fZ BK109 1))
       go_upto_region 19 with (first | ((with_reducible refine gate_callee (f := 12) rfl ?_); refine gL 190 Tryz.func12 #[.agg #[.int .i64 t102, .slice Ao18 t103.length co18], .slice Ao84 t132.length co84] ?_; (with_reducible refine (impl_IsWinning.calls kj13 t102 _ _ t103 _ _ t132 t137 true _ ?side1 ?side2 ?side3 ?side4 A68.out).mono ?_); (case side1 => repeat (first | exact (Kd.R_reads' HO_110001.out).2.2 | (with_reducible refine Kd.C_alloc ?_ _) | (with_reducible refine Kd.C_drewN ?_ _) | (with_reducible refine Kd.C_drew ?_))); (case side2 => exact (Kd.R_reads' HO_110001.out).2.1); (case side3 => repeat (first | exact (Kd.R_reads' HO134.out).2.2 | (with_reducible refine Kd.C_alloc ?_ _) | (with_reducible refine Kd.C_drewN ?_ _) | (with_reducible refine Kd.C_drew ?_))); (case side4 => exact (Kd.R_reads' HO134.out).2.1); rintro e w87 ⟨rfl, hb⟩; refine ⟨_, rfl, ?_⟩; replace HO_6 := Aside0.mk (Kd.R_below HO_6.out hb); replace HO_110001 := Aside0.mk (Kd.R_below HO_110001.out hb); replace HO134 := Aside0.mk (Kd.R_below HO134.out hb); replace BK109 := bB BK109 hb; replace HB := sB HB hb; (try clear hb); (try clear hcz86_0 hcz86_1 hfz86_0 hfz86_1); have hcz88_0 := cZ BK109 0; have hcz88_1 := cZ BK109 1; have hfz88_0 := fZ BK109 0; have hfz88_1 := fZ BK109 1))
       go_upto_region 20 with (first | ((with_reducible refine gate_callee (f := 23) rfl ?_); refine gL 195 Tryz.func23 #[.agg #[.int .i64 t102, .slice Ao18 t103.length co18]] ?_; (with_reducible refine (impl_DualCommittee.calls kj13 t102 _ _ t103 t139 t140 true _ ?side1 ?side2 A69.out).mono ?_); (case side1 => repeat (first | exact (Kd.R_reads' HO_110001.out).2.2 | (with_reducible refine Kd.C_alloc ?_ _) | (with_reducible refine Kd.C_drewN ?_ _) | (with_reducible refine Kd.C_drew ?_))); (case side2 => exact (Kd.R_reads' HO_110001.out).2.1); rintro e w89 ⟨v141, rfl, ho0, hb⟩; refine ⟨_, rfl, ?_⟩; have HO142 := Aside0.mk (Kd.R_lower (Kd.R_new' (Kd.R_new' (Kd.R_new' ho0 (Kd.R_lt HO_6.out)) (Kd.R_lt HO_110001.out)) (Kd.R_lt HO134.out)) (below_size HB.out)); replace HO_6 := Aside0.mk (Kd.R_elder' HO_6.out (Kd.R_base ho0) hb); replace HO_110001 := Aside0.mk (Kd.R_elder' HO_110001.out (Kd.R_base ho0) hb); replace HO134 := Aside0.mk (Kd.R_elder' HO134.out (Kd.R_base ho0) hb); replace BK109 := bB BK109 hb; replace HB := sB HB hb; (try clear hb); (try clear ho0)) | ((with_reducible refine gate_dst (N := 29) rfl ?_); (try (refine gate_guard (by rfl) ?_; dsimp only)); refine xE (N := 29) (cs := #[.int .i64 0, .slice none 0 0]) (t := 26) ?_; intro gb144 hg w90 BK144 hb; have GW144 := gS hg HB; have GE144 := gS hg HB; have NB109_144 := nL hg (blk_lt BK109.out); have NB144_109 := nG hg (blk_lt BK109.out); replace HO_6 := Aside0.mk (Kd.R_below HO_6.out hb); replace HO_110001 := Aside0.mk (Kd.R_below HO_110001.out hb); replace HO134 := Aside0.mk (Kd.R_below HO134.out hb); replace HO142 := Aside0.mk (Kd.R_below HO142.out hb); replace BK109 := bB BK109 hb; replace HB := sB HB hb; clear hb hg; have hnb91 := NB144_109.out; have hnc91 := NB109_144.out; (try clear hcz88_0 hcz88_1 hfz88_0 hfz88_1); have hcz92_0 := cZ BK144 0; have hcz92_1 := cZ BK144 1; have hfz92_0 := fZ BK144 0; have hfz92_1 := fZ BK144 1; obtain ⟨Ao93, co93, eo93⟩ := Kd.R_slice HO142.out; subst eo93))
       go_upto_region 21 with (first | ((with_reducible refine gate_callee (f := 12) rfl ?_); refine gL 201 Tryz.func12 #[.agg #[.int .i64 t139, .slice Ao93 t140.length co93], .slice Ao19 t106.length co19] ?_; (with_reducible refine (impl_IsWinning.calls kj13 t139 _ _ t140 _ _ t106 (!t137) true _ ?side1 ?side2 ?side3 ?side4 A70.out).mono ?_); (case side1 => refine (Kd.R_reads' (e := 3) (base := w.heap.size) (ok := fun k_ => (((True ∧ some k_ ≠ (.slice Ao19 t106.length co19 : Value).ownBlock) ∧ some k_ ≠ (.slice Ao18 t103.length co18 : Value).ownBlock) ∧ some k_ ≠ (.slice Ao84 t132.length co84 : Value).ownBlock)) (n := t140.length) (c := co93) ?_).2.2; exact (by exact (Kd.R_mono (Kd.R_far (p := ⟨gb144, 1, none⟩) (Kd.R_far (p := ⟨gb144, 0, none⟩) (Kd.R_types HO142.out BK144.out (by decide)) (fun _ hk => hk.2) (.int .i64 t139)) (fun _ hk => hk.2) (.slice Ao93 t140.length co93)) (fun _ h_ => h_.1)))); (case side2 => exact (Kd.R_reads' HO142.out).2.1); (case side3 => refine (Kd.R_reads' (e := 3) (base := w.heap.size) (ok := fun k_ => ((some k_ ≠ (.slice Ao18 t103.length co18 : Value).ownBlock ∧ some k_ ≠ (.slice Ao84 t132.length co84 : Value).ownBlock) ∧ some k_ ≠ (.slice Ao93 t140.length co93 : Value).ownBlock)) (n := t106.length) (c := co19) ?_).2.2; exact (by exact (Kd.R_mono (Kd.R_far (p := ⟨gb144, 1, none⟩) (Kd.R_far (p := ⟨gb144, 0, none⟩) (Kd.R_types HO_6.out BK144.out (by decide)) (fun _ hk => hk.2) (.int .i64 t139)) (fun _ hk => hk.2) (.slice Ao93 t140.length co93)) (fun _ h_ => h_.1)))); (case side4 => exact (Kd.R_reads' HO_6.out).2.1); rintro e w94 ⟨rfl, hb⟩; refine ⟨_, rfl, ?_⟩; replace HO_6 := Aside0.mk (Kd.R_below (by exact (Kd.R_mono (Kd.R_far (p := ⟨gb144, 1, none⟩) (Kd.R_far (p := ⟨gb144, 0, none⟩) (Kd.R_types HO_6.out BK144.out (by decide)) (fun _ hk => hk.2) (.int .i64 t139)) (fun _ hk => hk.2) (.slice Ao93 t140.length co93)) (fun _ h_ => h_.1))) hb); replace HO_110001 := Aside0.mk (Kd.R_below (by exact (Kd.R_mono (Kd.R_far (p := ⟨gb144, 1, none⟩) (Kd.R_far (p := ⟨gb144, 0, none⟩) (Kd.R_types HO_110001.out BK144.out (by decide)) (fun _ hk => hk.2) (.int .i64 t139)) (fun _ hk => hk.2) (.slice Ao93 t140.length co93)) (fun _ h_ => h_.1))) hb); replace HO134 := Aside0.mk (Kd.R_below (by exact (Kd.R_mono (Kd.R_far (p := ⟨gb144, 1, none⟩) (Kd.R_far (p := ⟨gb144, 0, none⟩) (Kd.R_types HO134.out BK144.out (by decide)) (fun _ hk => hk.2) (.int .i64 t139)) (fun _ hk => hk.2) (.slice Ao93 t140.length co93)) (fun _ h_ => h_.1))) hb); replace HO142 := Aside0.mk (Kd.R_below (by exact (Kd.R_mono (Kd.R_far (p := ⟨gb144, 1, none⟩) (Kd.R_far (p := ⟨gb144, 0, none⟩) (Kd.R_types HO142.out BK144.out (by decide)) (fun _ hk => hk.2) (.int .i64 t139)) (fun _ hk => hk.2) (.slice Ao93 t140.length co93)) (fun _ h_ => h_.1))) hb); replace BK109 := Aside0.mk (blk_below (g := gb109) (o := .cells #[.int .i64 t102, .slice Ao18 t103.length co18] 26 (0, 0)) (by refine blk_far ?_ NB109_144.out _; refine blk_far ?_ NB109_144.out _; exact BK109.out) hb); replace BK144 := Aside0.mk (blk_below (g := gb144) (o := .cells #[.int .i64 t139, .slice Ao93 t140.length co93] 26 (0, 0)) (by refine blk_put (cs := #[.int .i64 t139, .slice none 0 0]) ?_ 1 _ rfl; refine blk_put (cs := #[.int .i64 0, .slice none 0 0]) ?_ 0 _ rfl; exact BK144.out) hb); replace HB := Aside0.mk (below_step (by repeat (first | exact HB.out | apply ba | refine bs ?_ GE144.out)) hb); (try clear hb); (try clear hcz92_0 hcz92_1 hfz92_0 hfz92_1); have hcz95_0 := cZ BK109 0; have hcz95_1 := cZ BK109 1; have hfz95_0 := fZ BK109 0; have hfz95_1 := fZ BK109 1))
       go_wp2_with (first | (go_at_call 24; (with_reducible refine (laws_mSum.calls kj13 _ _ t103 t147 _ ?side1 ?side2 A79.out).mono ?_); (case side1 => repeat (first | exact (Kd.R_reads' HO_110001.out).2.2 | (with_reducible refine Kd.C_alloc ?_ _) | (with_reducible refine Kd.C_drewN ?_ _) | (with_reducible refine Kd.C_drew ?_))); (case side2 => exact (Kd.R_reads' HO_110001.out).2.1); rintro e w' ⟨rfl, ⟨nd, rfl⟩⟩))
       refine meetT_ hJ_j1 (by kernel_rfl) ?rel
       case rel => exact ⟨_, H', ⟨by have := HJ13.out; first | omega | exact Nat.le_refl _⟩, ⟨by (with_reducible repeat (first | apply qA | apply qN | apply qD)); exact Kd.R_mono HO_110001.out (fun _ hk => trivial)⟩, ⟨by (with_reducible repeat (first | refine kN ?_ _ | refine kD ?_ | refine kA ?_ _)); exact BK109.out⟩, ⟨by repeat (first | (with_reducible first | exact HB.out | apply ba | apply bd | apply be | refine bs ?_ GE109.out | refine bs ?_ GE144.out) | exact HB.out)⟩⟩
     ·replace c65 := Bool.eq_false_iff.mpr c65
      subst c65
      replace H := iF H
      as_aux_lemma =>
       have H' := Aside0.mk H
       clear H
       go_wp2
       refine meetT_ hJ_j1 (by kernel_rfl) ?rel
       case rel => exact ⟨_, H', ⟨by have := HJ13.out; first | omega | exact Nat.le_refl _⟩, ⟨by (with_reducible repeat (first | apply qA | apply qN | apply qD)); exact Kd.R_mono HO_110001.out (fun _ hk => trivial)⟩, ⟨by (with_reducible repeat (first | refine kN ?_ _ | refine kD ?_ | refine kA ?_ _)); exact BK109.out⟩, ⟨by repeat (first | (with_reducible first | exact HB.out | apply ba | apply bd | apply be | refine bs ?_ GE109.out) | exact HB.out)⟩⟩
    case rest => as_aux_lemma =>
     intro T_ wc hcut
     simp only [putT, putM, T, F, Nat.reduceAdd]
     (try dsimp only at hcut)
     clear HC64
     (try clear c1); (try clear c2); (try clear p2); (try clear c6); (try clear p6); (try clear c7); (try clear c8); (try clear c9); (try clear c12); (try clear c16); (try clear c20); (try clear c21); (try clear c22); (try clear c23); (try clear c63); (try clear p64); (try clear c65); (try clear c71); (try clear c71b0); (try clear c71b1); (try clear c71b2); (try clear c72); (try clear c73); (try clear c73b0); (try clear c73b1); (try clear c74); (try clear c75); (try clear c76); (try clear c77); (try clear c78); (try clear c80); (try clear c80b0); (try clear c80b1); (try clear c91); (try clear hcz95_0); (try clear hcz95_1); (try clear hfz95_0); (try clear hfz95_1); (try clear p2)
     obtain ⟨kq, HA, HJ63, HO_110001, BK109, HB⟩ := hcut
     cases kq with
     | zero => exact absurd HA.out (by simp [laws_FnSetsWin.j1])
     | succ kj63 =>
      have H := HA.out
      clear HA
      simp only [laws_FnSetsWin.j1] at H
      replace H := oB H
      obtain ⟨⟨t148, t149⟩, A960, H⟩ := H
      (try dsimp only at H)
      have A96 := Aside0.mk A960
      clear A960
      replace H := oB H
      obtain ⟨⟨t153, t154⟩, A970, H⟩ := H
      (try dsimp only at H)
      have A97 := Aside0.mk A970
      clear A970
      replace H := oB H
      obtain ⟨⟨t155, t156⟩, A980, H⟩ := H
      (try dsimp only at H)
      have A98 := Aside0.mk A980
      clear A980
      replace H := oB H
      obtain ⟨⟨t157, t160⟩, A990, H⟩ := H
      (try dsimp only at H)
      have A99 := Aside0.mk A990
      clear A990
      replace H := oB H
      obtain ⟨⟨t161, t164⟩, A1000, H⟩ := H
      (try dsimp only at H)
      have A100 := Aside0.mk A1000
      clear A1000
      replace H := oB H
      obtain ⟨⟨t165, t168⟩, A1010, H⟩ := H
      (try dsimp only at H)
      have A101 := Aside0.mk A1010
      clear A1010
      replace H := oB H
      obtain ⟨⟨t169, t172⟩, A1020, H⟩ := H
      (try dsimp only at H)
      have A102 := Aside0.mk A1020
      clear A1020
      have HC103 := Aside0.mk H
      clear H
      go_upto_region 24 with (first | ((with_reducible refine gate_callee (f := 25) rfl ?_); refine gL 252 Tryz.func25 #[.slice A1 l1.length c1] ?_; (with_reducible refine (spec_DrawDictatorOf.calls kj63 _ _ l1 t148 t149 _ (Kd.C_below HR1.out HB.out) HC1.out A96.out).mono ?_); rintro e w104 ⟨v150, rfl, ho0, hb⟩; refine ⟨_, rfl, ?_⟩; have HO151 := Aside0.mk (Kd.R_lower (Kd.R_new' ho0 (Kd.R_lt HO_110001.out)) (below_size HB.out)); replace HO_110001 := Aside0.mk (Kd.R_elder' HO_110001.out (Kd.R_base ho0) hb); replace BK109 := bB BK109 hb; replace HB := sB HB hb; (try clear hb); (try clear ho0)) | ((with_reducible refine gate_dst (N := 33) rfl ?_); (try (refine gate_guard (by rfl) ?_; dsimp only)); refine xE (N := 33) (cs := #[.int .i64 0, .slice none 0 0]) (t := 26) ?_; intro gb152 hg w105 BK152 hb; have GW152 := gS hg HB; have GE152 := gS hg HB; have NB109_152 := nL hg (blk_lt BK109.out); have NB152_109 := nG hg (blk_lt BK109.out); replace HO_110001 := Aside0.mk (Kd.R_below HO_110001.out hb); replace HO151 := Aside0.mk (Kd.R_below HO151.out hb); replace BK109 := bB BK109 hb; replace HB := sB HB hb; clear hb hg; have hnb106 := NB152_109.out; have hnc106 := NB109_152.out; have hcz107_0 := cZ BK152 0; have hcz107_1 := cZ BK152 1; have hfz107_0 := fZ BK152 0; have hfz107_1 := fZ BK152 1; obtain ⟨Ao108, co108, eo108⟩ := Kd.R_slice HO151.out; subst eo108))
      go_upto_region 25 with (first | ((with_reducible refine gate_callee (f := 26) rfl ?_); refine gL 255 Tryz.func26 #[.agg #[.int .i64 t148, .slice Ao108 t149.length co108]] ?_; (with_reducible refine (impl_DictatorOf.calls kj63 t148 _ _ t149 t153 t154 _ ?side1 ?side2 A97.out).mono ?_); (case side1 => refine (Kd.R_reads' (e := 3) (base := w.heap.size) (ok := fun k_ => (True ∧ some k_ ≠ (.slice Ao18 t103.length co18 : Value).ownBlock)) (n := t149.length) (c := co108) ?_).2.2; exact (by exact (Kd.R_mono (Kd.R_far (p := ⟨gb152, 1, none⟩) (Kd.R_far (p := ⟨gb152, 0, none⟩) (Kd.R_types HO151.out BK152.out (by decide)) (fun _ hk => hk.2) (.int .i64 t148)) (fun _ hk => hk.2) (.slice Ao108 t149.length co108)) (fun _ h_ => h_.1)))); (case side2 => exact (Kd.R_reads' HO151.out).2.1); rintro e w109 ⟨rfl, hb⟩; refine ⟨_, rfl, ?_⟩; replace HO_110001 := Aside0.mk (Kd.R_below (by exact (Kd.R_mono (Kd.R_far (p := ⟨gb152, 1, none⟩) (Kd.R_far (p := ⟨gb152, 0, none⟩) (Kd.R_types HO_110001.out BK152.out (by decide)) (fun _ hk => hk.2) (.int .i64 t148)) (fun _ hk => hk.2) (.slice Ao108 t149.length co108)) (fun _ h_ => h_.1))) hb); replace HO151 := Aside0.mk (Kd.R_below (by exact (Kd.R_mono (Kd.R_far (p := ⟨gb152, 1, none⟩) (Kd.R_far (p := ⟨gb152, 0, none⟩) (Kd.R_types HO151.out BK152.out (by decide)) (fun _ hk => hk.2) (.int .i64 t148)) (fun _ hk => hk.2) (.slice Ao108 t149.length co108)) (fun _ h_ => h_.1))) hb); replace BK109 := Aside0.mk (blk_below (g := gb109) (o := .cells #[.int .i64 t102, .slice Ao18 t103.length co18] 26 (0, 0)) (by refine blk_far ?_ NB109_152.out _; refine blk_far ?_ NB109_152.out _; exact BK109.out) hb); replace BK152 := Aside0.mk (blk_below (g := gb152) (o := .cells #[.int .i64 t148, .slice Ao108 t149.length co108] 26 (0, 0)) (by refine blk_put (cs := #[.int .i64 t148, .slice none 0 0]) ?_ 1 _ rfl; refine blk_put (cs := #[.int .i64 0, .slice none 0 0]) ?_ 0 _ rfl; exact BK152.out) hb); replace HB := Aside0.mk (below_step (by repeat (first | exact HB.out | apply ba | refine bs ?_ GE152.out)) hb); (try clear hb); (try clear hcz107_0 hcz107_1 hfz107_0 hfz107_1); have hcz110_0 := cZ BK152 0; have hcz110_1 := cZ BK152 1; have hfz110_0 := fZ BK152 0; have hfz110_1 := fZ BK152 1))
      go_upto_region 26 with (first | ((with_reducible refine gate_callee (f := 27) rfl ?_); refine gL 260 Tryz.func27 #[.agg #[.int .i64 t148, .slice Ao108 t149.length co108]] ?_; (with_reducible refine (spec_DictatorOf.calls kj63 t148 _ _ t149 t155 t156 _ ?side1 ?side2 A98.out).mono ?_); (case side1 => repeat (first | exact (Kd.R_reads' HO151.out).2.2 | (with_reducible refine Kd.C_alloc ?_ _) | (with_reducible refine Kd.C_drewN ?_ _) | (with_reducible refine Kd.C_drew ?_))); (case side2 => exact (Kd.R_reads' HO151.out).2.1); rintro e w111 ⟨rfl, hb⟩; refine ⟨_, rfl, ?_⟩; replace HO_110001 := Aside0.mk (Kd.R_below HO_110001.out hb); replace HO151 := Aside0.mk (Kd.R_below HO151.out hb); replace BK109 := bB BK109 hb; replace BK152 := bB BK152 hb; replace HB := sB HB hb; (try clear hb); (try clear hcz110_0 hcz110_1 hfz110_0 hfz110_1); have hcz112_0 := cZ BK152 0; have hcz112_1 := cZ BK152 1; have hfz112_0 := fZ BK152 0; have hfz112_1 := fZ BK152 1))
      go_upto_region 27 with (first | ((with_reducible refine gate_callee (f := 28) rfl ?_); refine gL 265 Tryz.func28 #[.agg #[.int .i64 t148, .slice Ao108 t149.length co108]] ?_; (with_reducible refine (impl_VetoMembers.calls kj63 t148 _ _ t149 t157 t160 _ ?side1 ?side2 A99.out).mono ?_); (case side1 => repeat (first | exact (Kd.R_reads' HO151.out).2.2 | (with_reducible refine Kd.C_alloc ?_ _) | (with_reducible refine Kd.C_drewN ?_ _) | (with_reducible refine Kd.C_drew ?_))); (case side2 => exact (Kd.R_reads' HO151.out).2.1); rintro e w113 ⟨v158, rfl, ho0, hb⟩; refine ⟨_, rfl, ?_⟩; have HO159 := Aside0.mk (Kd.R_lower (Kd.R_new' (Kd.R_new' ho0 (Kd.R_lt HO_110001.out)) (Kd.R_lt HO151.out)) (below_size HB.out)); replace HO_110001 := Aside0.mk (Kd.R_elder' HO_110001.out (Kd.R_base ho0) hb); replace HO151 := Aside0.mk (Kd.R_elder' HO151.out (Kd.R_base ho0) hb); replace BK109 := bB BK109 hb; replace BK152 := bB BK152 hb; replace HB := sB HB hb; (try clear hb); (try clear ho0); (try clear hcz112_0 hcz112_1 hfz112_0 hfz112_1); have hcz114_0 := cZ BK152 0; have hcz114_1 := cZ BK152 1; have hfz114_0 := fZ BK152 0; have hfz114_1 := fZ BK152 1))
      go_upto_region 28 with (first | ((with_reducible refine gate_callee (f := 29) rfl ?_); refine gL 270 Tryz.func29 #[.agg #[.int .i64 t148, .slice Ao108 t149.length co108]] ?_; (with_reducible refine (spec_VetoMembers.calls kj63 t148 _ _ t149 t161 t164 _ ?side1 ?side2 A100.out).mono ?_); (case side1 => repeat (first | exact (Kd.R_reads' HO151.out).2.2 | (with_reducible refine Kd.C_alloc ?_ _) | (with_reducible refine Kd.C_drewN ?_ _) | (with_reducible refine Kd.C_drew ?_))); (case side2 => exact (Kd.R_reads' HO151.out).2.1); rintro e w115 ⟨v162, rfl, ho0, hb⟩; refine ⟨_, rfl, ?_⟩; have HO163 := Aside0.mk (Kd.R_lower (Kd.R_new' (Kd.R_new' (Kd.R_new' ho0 (Kd.R_lt HO_110001.out)) (Kd.R_lt HO151.out)) (Kd.R_lt HO159.out)) (below_size HB.out)); replace HO_110001 := Aside0.mk (Kd.R_elder' HO_110001.out (Kd.R_base ho0) hb); replace HO151 := Aside0.mk (Kd.R_elder' HO151.out (Kd.R_base ho0) hb); replace HO159 := Aside0.mk (Kd.R_elder' HO159.out (Kd.R_base ho0) hb); replace BK109 := bB BK109 hb; replace BK152 := bB BK152 hb; replace HB := sB HB hb; (try clear hb); (try clear ho0); (try clear hcz114_0 hcz114_1 hfz114_0 hfz114_1); have hcz116_0 := cZ BK152 0; have hcz116_1 := cZ BK152 1; have hfz116_0 := fZ BK152 0; have hfz116_1 := fZ BK152 1))
      go_upto_region 29 with (first | ((with_reducible refine gate_callee (f := 30) rfl ?_); refine gL 275 Tryz.func30 #[.agg #[.int .i64 t148, .slice Ao108 t149.length co108]] ?_; (with_reducible refine (impl_DummiesOf.calls kj63 t148 _ _ t149 t165 t168 _ ?side1 ?side2 A101.out).mono ?_); (case side1 => repeat (first | exact (Kd.R_reads' HO151.out).2.2 | (with_reducible refine Kd.C_alloc ?_ _) | (with_reducible refine Kd.C_drewN ?_ _) | (with_reducible refine Kd.C_drew ?_))); (case side2 => exact (Kd.R_reads' HO151.out).2.1); rintro e w117 ⟨v166, rfl, ho0, hb⟩; refine ⟨_, rfl, ?_⟩; have HO167 := Aside0.mk (Kd.R_lower (Kd.R_new' (Kd.R_new' (Kd.R_new' (Kd.R_new' ho0 (Kd.R_lt HO_110001.out)) (Kd.R_lt HO151.out)) (Kd.R_lt HO159.out)) (Kd.R_lt HO163.out)) (below_size HB.out)); replace HO_110001 := Aside0.mk (Kd.R_elder' HO_110001.out (Kd.R_base ho0) hb); replace HO151 := Aside0.mk (Kd.R_elder' HO151.out (Kd.R_base ho0) hb); replace HO159 := Aside0.mk (Kd.R_elder' HO159.out (Kd.R_base ho0) hb); replace HO163 := Aside0.mk (Kd.R_elder' HO163.out (Kd.R_base ho0) hb); replace BK109 := bB BK109 hb; replace BK152 := bB BK152 hb; replace HB := sB HB hb; (try clear hb); (try clear ho0); (try clear hcz116_0 hcz116_1 hfz116_0 hfz116_1); have hcz118_0 := cZ BK152 0; have hcz118_1 := cZ BK152 1; have hfz118_0 := fZ BK152 0; have hfz118_1 := fZ BK152 1))
      go_upto_region 30 with (first | ((with_reducible refine gate_callee (f := 31) rfl ?_); refine gL 280 Tryz.func31 #[.agg #[.int .i64 t148, .slice Ao108 t149.length co108]] ?_; (with_reducible refine (spec_DummiesOf.calls kj63 t148 _ _ t149 t169 t172 _ ?side1 ?side2 A102.out).mono ?_); (case side1 => repeat (first | exact (Kd.R_reads' HO151.out).2.2 | (with_reducible refine Kd.C_alloc ?_ _) | (with_reducible refine Kd.C_drewN ?_ _) | (with_reducible refine Kd.C_drew ?_))); (case side2 => exact (Kd.R_reads' HO151.out).2.1); rintro e w119 ⟨v170, rfl, ho0, hb⟩; refine ⟨_, rfl, ?_⟩; have HO171 := Aside0.mk (Kd.R_lower (Kd.R_new' (Kd.R_new' (Kd.R_new' (Kd.R_new' (Kd.R_new' ho0 (Kd.R_lt HO_110001.out)) (Kd.R_lt HO151.out)) (Kd.R_lt HO159.out)) (Kd.R_lt HO163.out)) (Kd.R_lt HO167.out)) (below_size HB.out)); replace HO_110001 := Aside0.mk (Kd.R_elder' HO_110001.out (Kd.R_base ho0) hb); replace HO151 := Aside0.mk (Kd.R_elder' HO151.out (Kd.R_base ho0) hb); replace HO159 := Aside0.mk (Kd.R_elder' HO159.out (Kd.R_base ho0) hb); replace HO163 := Aside0.mk (Kd.R_elder' HO163.out (Kd.R_base ho0) hb); replace HO167 := Aside0.mk (Kd.R_elder' HO167.out (Kd.R_base ho0) hb); replace BK109 := bB BK109 hb; replace BK152 := bB BK152 hb; replace HB := sB HB hb; (try clear hb); (try clear ho0)))
      (try simp only [Act.put, sA, sZ, sS])
      refine cutT_ [F,F,F,F,F,F,F,F,F,F,F,F,F,F,F,F,F,F,F,F,F,F,F,F,F,F,F,F,F,F,F,F,F,F,F,F,F,F,F,F,F,F,F,F,F,F,F,F,F,F,F,F,F,F,F,F,F,F,F,F,F,F,F,F,F,F,F,F,F,F,F,F,F,F,F,F,F,F,F,F,F,F,F,F,F,F,F,F,F,F,F,F,F,F,F,F,F,F,F,F,F,F,F,F,F,F,F,F,F,F,F,F,F,F,F,F,F,F,F,F,F,F,F,F,F,F,F,F,F,F,F,F,F,F,F,F,F,F,F,F,F,F,F,F,F,F,F,F,F,F,F,F,F,F,F,F,F,F,F,F,F,F,F,F,F,F,F,F,F,F,F,F,F,F,F,F,F,F,F,F,F,F,F,F,F,F,F,F,F,F,F,F,F,F,F,F,F,F,F,F,F,F,F,F,F,F,F,F,F,F,F,F,F,F,F,F,F,F,F,F,F,F,F,F,F,F,F,F,F,F,F,F,F,F,F,F,F,F,F,F,F,F,F,F,F,F,F,F,F,F,F,F,F,F,F,F,F,F,F,F,F,F,F,F,F,F,F,F,F,F,F,F,F,F,F,F,F,F,F,F,F,F,F,T,T,T,T,T,T,T,T,T,T,T,T,T,T,T,T,T,T,T,T,T,T,T,T,T,T,T,T,T,T,T,T,T,T,T,T,T,T,T,T,T,T] (fun T_ wc_ => (fun v324 wc => ∃ (kq : Nat) (x324_102 : Bool), v324 = .bool x324_102 ∧ Aside0 (laws_FnSetsWin.j2 kq t153 t154 t157 t160 t165 x324_102 t148 t149 = some r) ∧ Aside0 (kq ≤ kj63) ∧ Aside0 (Kd.R (Kd.int .i64) 3 wc w.heap.size (fun k_ => some k_ ≠ (v166 : Value).ownBlock ∧ some k_ ≠ ((.slice Ao18 t103.length co18) : Value).ownBlock ∧ some k_ ≠ ((.slice Ao108 t149.length co108) : Value).ownBlock) v158 t157) ∧ Aside0 (Kd.R (Kd.int .i64) 3 wc w.heap.size (fun k_ => some k_ ≠ (v158 : Value).ownBlock ∧ some k_ ≠ ((.slice Ao18 t103.length co18) : Value).ownBlock ∧ some k_ ≠ ((.slice Ao108 t149.length co108) : Value).ownBlock) v166 t165) ∧ Aside0 (Kd.R (Kd.int .i64) 3 wc w.heap.size (fun k_ => some k_ ≠ (v158 : Value).ownBlock ∧ some k_ ≠ (v166 : Value).ownBlock ∧ some k_ ≠ ((.slice Ao108 t149.length co108) : Value).ownBlock) (.slice Ao18 t103.length co18) t103) ∧ Aside0 (Kd.R (Kd.int .i64) 3 wc w.heap.size (fun k_ => some k_ ≠ (v158 : Value).ownBlock ∧ some k_ ≠ (v166 : Value).ownBlock ∧ some k_ ≠ ((.slice Ao18 t103.length co18) : Value).ownBlock) (.slice Ao108 t149.length co108) t149) ∧ Aside0 (wc.heap[gb109]? = some (.cells #[.int .i64 t102, (.slice Ao18 t103.length co18)] 26 (0, 0))) ∧ Aside0 (wc.heap[gb152]? = some (.cells #[.int .i64 t148, (.slice Ao108 t149.length co108)] 26 (0, 0))) ∧ Aside0 (Below w.heap.size w wc)) (T_ 324) wc_) ?rest ?first
      case first => as_aux_lemma =>
       intro J_ K_ hJ_j2 hM_
       have H := HC103.out
       clear HC103
       replace H := ite_no H
       obtain ⟨c120, H⟩ := H
       replace c120 := of_nbne c120
       subst t154
       (try simp only [bne_self_eq_false])
       replace H := ite_yes H
       obtain ⟨c121, H⟩ := H
       have c121b0 : (t153 == t155) = true := beq_iff_eq.mpr c121
       have c121b1 : (t153 != t155) = false := bne_eq_false_iff_eq.mpr c121
       clear c121
       replace H := ite_no H
       obtain ⟨c122, H⟩ := H
       replace c122 := of_nbne c122
       subst t160
       replace H := oA H
       obtain ⟨t173, A123, H⟩ := H
       (try dsimp only at H)
       replace H := ite_yes H
       obtain ⟨c124, H⟩ := H
       subst c124
       replace H := ite_no H
       obtain ⟨c125, H⟩ := H
       replace c125 := of_nbne c125
       subst t168
       replace H := oA H
       obtain ⟨t174, A126, H⟩ := H
       (try dsimp only at H)
       replace H := ite_yes H
       obtain ⟨c127, H⟩ := H
       subst c127
       by_cases c128 : t156 = true
       ·subst c128
        replace H := iT H
        replace H := ite_yes H
        obtain ⟨c129, H⟩ := H
        subst c129
        as_aux_lemma =>
         have H' := Aside0.mk H
         clear H
         obtain ⟨Ao130, co130, eo130⟩ := Kd.R_slice HO159.out
         subst eo130
         obtain ⟨Ao131, co131, eo131⟩ := Kd.R_slice HO163.out
         subst eo131
         go_wp2_with (first | (go_at_call 32; (with_reducible refine (laws_mSame.calls kj63 _ _ t157 _ _ t161 true _ ?side1 ?side2 ?side3 ?side4 A123.out).mono ?_); (case side1 => repeat (first | exact (Kd.R_reads' HO159.out).2.2 | (with_reducible refine Kd.C_alloc ?_ _) | (with_reducible refine Kd.C_drewN ?_ _) | (with_reducible refine Kd.C_drew ?_))); (case side2 => exact (Kd.R_reads' HO159.out).2.1); (case side3 => repeat (first | exact (Kd.R_reads' HO163.out).2.2 | (with_reducible refine Kd.C_alloc ?_ _) | (with_reducible refine Kd.C_drewN ?_ _) | (with_reducible refine Kd.C_drew ?_))); (case side4 => exact (Kd.R_reads' HO163.out).2.1); rintro e w' ⟨rfl, ⟨nd, rfl⟩⟩; obtain ⟨Ao132, co132, eo132⟩ := Kd.R_slice HO167.out; subst eo132; obtain ⟨Ao133, co133, eo133⟩ := Kd.R_slice HO171.out; subst eo133) | (go_at_call 32; (with_reducible refine (laws_mSame.calls kj63 _ _ t165 _ _ t169 true _ ?side1 ?side2 ?side3 ?side4 A126.out).mono ?_); (case side1 =>  repeat (first | exact (Kd.R_reads' HO167.out).2.2 | (with_reducible refine Kd.C_alloc ?_ _) | (with_reducible refine Kd.C_drewN ?_ _) | (with_reducible refine Kd.C_drew ?_))); (case side2 => exact (Kd.R_reads' HO167.out).2.1); (case side3 =>  repeat (first | exact (Kd.R_reads' HO171.out).2.2 | (with_reducible refine Kd.C_alloc ?_ _) | (with_reducible refine Kd.C_drewN ?_ _) | (with_reducible refine Kd.C_drew ?_))); (case side4 => exact (Kd.R_reads' HO171.out).2.1); rintro e w' ⟨rfl, ⟨nd, rfl⟩⟩))
         refine meetT_ hJ_j2 (by kernel_rfl) ?rel
         case rel => exact ⟨_, ((t172 != true)), (by first | rfl | (simp; done) | (simp [*]; done)), H', ⟨by have := HJ13.out; have := HJ63.out; first | omega | exact Nat.le_refl _⟩, ⟨by (with_reducible repeat (first | apply qA | apply qN | apply qD)); exact Kd.R_mono HO159.out (fun _ hk => by first | exact ⟨hk.1.2, ⟨hk.1.1.1.1.2, hk.1.1.1.2⟩⟩ | simp_all)⟩, ⟨by (with_reducible repeat (first | apply qA | apply qN | apply qD)); exact Kd.R_mono HO167.out (fun _ hk => by first | exact ⟨hk.1.1.2, ⟨hk.1.1.1.1.2, hk.1.1.1.2⟩⟩ | simp_all)⟩, ⟨by (with_reducible repeat (first | apply qA | apply qN | apply qD)); exact Kd.R_mono HO_110001.out (fun _ hk => by first | exact ⟨hk.1.1.1.2, ⟨hk.1.2, hk.1.1.1.1.2⟩⟩ | simp_all)⟩, ⟨by (with_reducible repeat (first | apply qA | apply qN | apply qD)); exact Kd.R_mono HO151.out (fun _ hk => by first | exact ⟨hk.1.1.1.2, ⟨hk.1.2, hk.1.1.1.1.2⟩⟩ | simp_all)⟩, ⟨by (with_reducible repeat (first | refine kN ?_ _ | refine kD ?_ | refine kA ?_ _)); exact BK109.out⟩, ⟨by (with_reducible repeat (first | refine kN ?_ _ | refine kD ?_ | refine kA ?_ _)); exact BK152.out⟩, ⟨by repeat (first | (with_reducible first | exact HB.out | apply ba | apply bd | apply be | refine bs ?_ GE109.out | refine bs ?_ GE152.out) | exact HB.out)⟩⟩
       ·replace c128 := Bool.eq_false_iff.mpr c128
        subst c128
        replace H := iF H
        as_aux_lemma =>
         have H' := Aside0.mk H
         clear H
         obtain ⟨Ao134, co134, eo134⟩ := Kd.R_slice HO159.out
         subst eo134
         obtain ⟨Ao135, co135, eo135⟩ := Kd.R_slice HO163.out
         subst eo135
         go_wp2_with (first | (go_at_call 32; (with_reducible refine (laws_mSame.calls kj63 _ _ t157 _ _ t161 true _ ?side1 ?side2 ?side3 ?side4 A123.out).mono ?_); (case side1 =>  repeat (first | exact (Kd.R_reads' HO159.out).2.2 | (with_reducible refine Kd.C_alloc ?_ _) | (with_reducible refine Kd.C_drewN ?_ _) | (with_reducible refine Kd.C_drew ?_))); (case side2 => exact (Kd.R_reads' HO159.out).2.1); (case side3 =>  repeat (first | exact (Kd.R_reads' HO163.out).2.2 | (with_reducible refine Kd.C_alloc ?_ _) | (with_reducible refine Kd.C_drewN ?_ _) | (with_reducible refine Kd.C_drew ?_))); (case side4 => exact (Kd.R_reads' HO163.out).2.1); rintro e w' ⟨rfl, ⟨nd, rfl⟩⟩; obtain ⟨Ao136, co136, eo136⟩ := Kd.R_slice HO167.out; subst eo136; obtain ⟨Ao137, co137, eo137⟩ := Kd.R_slice HO171.out; subst eo137) | (go_at_call 32; (with_reducible refine (laws_mSame.calls kj63 _ _ t165 _ _ t169 true _ ?side1 ?side2 ?side3 ?side4 A126.out).mono ?_); (case side1 =>  repeat (first | exact (Kd.R_reads' HO167.out).2.2 | (with_reducible refine Kd.C_alloc ?_ _) | (with_reducible refine Kd.C_drewN ?_ _) | (with_reducible refine Kd.C_drew ?_))); (case side2 => exact (Kd.R_reads' HO167.out).2.1); (case side3 =>  repeat (first | exact (Kd.R_reads' HO171.out).2.2 | (with_reducible refine Kd.C_alloc ?_ _) | (with_reducible refine Kd.C_drewN ?_ _) | (with_reducible refine Kd.C_drew ?_))); (case side4 => exact (Kd.R_reads' HO171.out).2.1); rintro e w' ⟨rfl, ⟨nd, rfl⟩⟩))
         refine meetT_ hJ_j2 (by kernel_rfl) ?rel
         case rel => exact ⟨_, ((t172 != t164)), (by first | rfl | (simp; done) | (simp [*]; done)), H', ⟨by have := HJ13.out; have := HJ63.out; first | omega | exact Nat.le_refl _⟩, ⟨by (with_reducible repeat (first | apply qA | apply qN | apply qD)); exact Kd.R_mono HO159.out (fun _ hk => by first | exact ⟨hk.1.2, ⟨hk.1.1.1.1.2, hk.1.1.1.2⟩⟩ | simp_all)⟩, ⟨by (with_reducible repeat (first | apply qA | apply qN | apply qD)); exact Kd.R_mono HO167.out (fun _ hk => by first | exact ⟨hk.1.1.2, ⟨hk.1.1.1.1.2, hk.1.1.1.2⟩⟩ | simp_all)⟩, ⟨by (with_reducible repeat (first | apply qA | apply qN | apply qD)); exact Kd.R_mono HO_110001.out (fun _ hk => by first | exact ⟨hk.1.1.1.2, ⟨hk.1.2, hk.1.1.1.1.2⟩⟩ | simp_all)⟩, ⟨by (with_reducible repeat (first | apply qA | apply qN | apply qD)); exact Kd.R_mono HO151.out (fun _ hk => by first | exact ⟨hk.1.1.1.2, ⟨hk.1.2, hk.1.1.1.1.2⟩⟩ | simp_all)⟩, ⟨by (with_reducible repeat (first | refine kN ?_ _ | refine kD ?_ | refine kA ?_ _)); exact BK109.out⟩, ⟨by (with_reducible repeat (first | refine kN ?_ _ | refine kD ?_ | refine kA ?_ _)); exact BK152.out⟩, ⟨by repeat (first | (with_reducible first | exact HB.out | apply ba | apply bd | apply be | refine bs ?_ GE109.out | refine bs ?_ GE152.out) | exact HB.out)⟩⟩
      case rest => as_aux_lemma =>
       intro T_ wc hcut
       simp only [putT, putM, T, F, Nat.reduceAdd]
       (try dsimp only at hcut)
       generalize T_ 324 = u324 at hcut ⊢
       clear HC103
       (try clear c1); (try clear c2); (try clear p2); (try clear c3); (try clear c6); (try clear p6); (try clear c7); (try clear c8); (try clear c9); (try clear c10); (try clear c12); (try clear c16); (try clear c20); (try clear c21); (try clear c22); (try clear c23); (try clear c25); (try clear c26); (try clear c27); (try clear c28); (try clear c29); (try clear c30); (try clear c31); (try clear c63); (try clear p64); (try clear c65); (try clear c71); (try clear c71b0); (try clear c71b1); (try clear c71b2); (try clear c72); (try clear c73); (try clear c73b0); (try clear c73b1); (try clear c74); (try clear c75); (try clear c76); (try clear c77); (try clear c78); (try clear c80); (try clear c80b0); (try clear c80b1); (try clear c91); (try clear c106); (try clear c120); (try clear c121); (try clear c121b0); (try clear c121b1); (try clear c122); (try clear c124); (try clear c125); (try clear c127); (try clear c128); (try clear c129); (try clear hcz118_0); (try clear hcz118_1); (try clear hcz95_0); (try clear hcz95_1); (try clear hfz118_0); (try clear hfz118_1); (try clear hfz95_0); (try clear hfz95_1); (try clear p2); (try clear p6); (try clear p64)
       obtain ⟨kq, x324_102, rfl, HA, HJ102, HO_38, HO_42, HO_110001, HO_153001, BK109, BK152, HB⟩ := hcut
       cases kq with
       | zero => exact absurd HA.out (by simp [laws_FnSetsWin.j2])
       | succ kj102 =>
        have H := HA.out
        clear HA
        simp only [laws_FnSetsWin.j2] at H
        replace H := ite_no H
        obtain ⟨c138, H⟩ := H
        replace c138 := Bool.eq_false_iff.mpr c138
        subst c138
        by_cases c139 : t160 = true
        ·subst c139
         replace H := iT H
         have HC140 := Aside0.mk H
         clear H
         have hnb141 := NB152_109.out
         have hnc141 := NB109_152.out
         have hcz142_0 := cZ BK152 0
         have hcz142_1 := cZ BK152 1
         have hfz142_0 := fZ BK152 0
         have hfz142_1 := fZ BK152 1
         go_upto_region 34 with (fail)
         refine cutT_ [F,F,F,F,F,F,F,F,F,F,F,F,F,F,F,F,F,F,F,F,F,F,F,F,F,F,F,F,F,F,F,F,F,F,F,F,F,F,F,F,F,F,F,F,F,F,F,F,F,F,F,F,F,F,F,F,F,F,F,F,F,F,F,F,F,F,F,F,F,F,F,F,F,F,F,F,F,F,F,F,F,F,F,F,F,F,F,F,F,F,F,F,F,F,F,F,F,F,F,F,F,F,F,F,F,F,F,F,F,F,F,F,F,F,F,F,F,F,F,F,F,F,F,F,F,F,F,F,F,F,F,F,F,F,F,F,F,F,F,F,F,F,F,F,F,F,F,F,F,F,F,F,F,F,F,F,F,F,F,F,F,F,F,F,F,F,F,F,F,F,F,F,F,F,F,F,F,F,F,F,F,F,F,F,F,F,F,F,F,F,F,F,F,F,F,F,F,F,F,F,F,F,F,F,F,F,F,F,F,F,F,F,F,F,F,F,F,F,F,F,F,F,F,F,F,F,F,F,F,F,F,F,F,F,F,F,F,F,F,F,F,F,F,F,F,F,F,F,F,F,F,F,F,F,F,F,F,F,F,F,F,F,F,F,F,F,F,F,F,F,F,F,F,F,F,F,F,F,F,F,F,F,F,F,F,F,F,F,F,F,F,F,F,F,F,F,F,F,F,F,F,F,F,F,F,F,F,F,F,F,F,F,F,F,F,F,F,F,F,F,F,F,F,F,F,F,F,F,F,T,T,T,T,T,T,T,T,T,T,T,T,T,T,T,T,T,T,T,T,T,T,T,T,T,T,T,T,T,T,T] (fun T_ wc_ => (fun v359 wc => ∃ (kq : Nat) (x359_139 : Bool), v359 = .bool x359_139 ∧ Aside0 (laws_FnSetsWin.j3 kq t153 t154 t157 t165 (t149.length : Int) x359_139 t148 t149 = some r) ∧ Aside0 (kq ≤ kj102) ∧ Aside0 (Kd.R (Kd.int .i64) 3 wc w.heap.size (fun k_ => some k_ ≠ (v166 : Value).ownBlock ∧ some k_ ≠ ((.slice Ao18 t103.length co18) : Value).ownBlock ∧ some k_ ≠ ((.slice Ao108 t149.length co108) : Value).ownBlock) v158 t157) ∧ Aside0 (Kd.R (Kd.int .i64) 3 wc w.heap.size (fun k_ => some k_ ≠ (v158 : Value).ownBlock ∧ some k_ ≠ ((.slice Ao18 t103.length co18) : Value).ownBlock ∧ some k_ ≠ ((.slice Ao108 t149.length co108) : Value).ownBlock) v166 t165) ∧ Aside0 (Kd.R (Kd.int .i64) 3 wc w.heap.size (fun k_ => some k_ ≠ (v158 : Value).ownBlock ∧ some k_ ≠ (v166 : Value).ownBlock ∧ some k_ ≠ ((.slice Ao108 t149.length co108) : Value).ownBlock) (.slice Ao18 t103.length co18) t103) ∧ Aside0 (Kd.R (Kd.int .i64) 3 wc w.heap.size (fun k_ => some k_ ≠ (v158 : Value).ownBlock ∧ some k_ ≠ (v166 : Value).ownBlock ∧ some k_ ≠ ((.slice Ao18 t103.length co18) : Value).ownBlock) (.slice Ao108 t149.length co108) t149) ∧ Aside0 (wc.heap[gb109]? = some (.cells #[.int .i64 t102, (.slice Ao18 t103.length co18)] 26 (0, 0))) ∧ Aside0 (wc.heap[gb152]? = some (.cells #[.int .i64 t148, (.slice Ao108 t149.length co108)] 26 (0, 0))) ∧ Aside0 (Below w.heap.size w wc)) (T_ 359) wc_) ?rest ?first
         case first => as_aux_lemma =>
          intro J_ K_ hJ_j3 hM_
          have H := HC140.out
          clear HC140
          replace H := oA H
          obtain ⟨t175, A143, H⟩ := H
          (try dsimp only at H)
          replace H := ite_yes H
          obtain ⟨c144, H⟩ := H
          subst c144
          replace H := oA H
          obtain ⟨t176, A145, H⟩ := H
          (try dsimp only at H)
          replace H := ite_yes H
          obtain ⟨c146, H⟩ := H
          subst c146
          by_cases c147 : t154 = true
          ·subst c147
           replace H := iT H
           obtain ⟨y177, hy177⟩ : ∃ y_ : List Int, y_ = (([t153] : List Int)) := ⟨_, rfl⟩
           replace H : ((laws_mSame.f kj102 t157 y177).bind fun t180 => (if t180 = true then (if (t165.length : Int) = (wrap64 ((t149.length : Int) - 1)) then (laws_FnSetsWin.j3 kj102 t153 true t157 t165 (t149.length : Int) ((t165.length : Int) == (t149.length : Int)) t148 t149) else (none)) else (none))) = some r := by first | (rw [hy177]; with_reducible exact H) | (have H2_ := (Option.bind_some _ _).symm.trans H; rw [hy177]; with_reducible exact H2_) | (have H2_ := (Option.bind_some _ _).symm.trans H; with_reducible exact H2_) | with_reducible exact H | (rw [hy177]; exact H) | exact H
           have Ny177 := Aside0.mk hy177
           clear hy177
           replace H := oA H
           obtain ⟨t180, A148, H⟩ := H
           (try dsimp only at H)
           replace H := ite_yes H
           obtain ⟨c149, H⟩ := H
           subst c149
           replace H := ite_yes H
           obtain ⟨c150, H⟩ := H
           have c150b0 : ((t165.length : Int) == (wrap64 ((t149.length : Int) - 1))) = true := beq_iff_eq.mpr c150
           have c150b1 : ((t165.length : Int) != (wrap64 ((t149.length : Int) - 1))) = false := bne_eq_false_iff_eq.mpr c150
           clear c150
           (first | rw [c150b0] | (simp only [i64_w, i32_w]; rw [c150b0]) | skip)
           as_aux_lemma =>
            have H' := Aside0.mk H
            clear H
            obtain ⟨Ao151, co151, eo151⟩ := Kd.R_slice HO_38.out
            subst eo151
            go_wp2_with (first | ((with_reducible refine gate_callee (f := 33) rfl ?_); refine gL 330 Tryz.func33 #[.slice Ao151 t157.length co151] ?_; (with_reducible refine (laws_mRises.calls kj102 _ _ t157 true _ ?side1 ?side2 A143.out).mono ?_); (case side1 => repeat (first | exact (Kd.R_reads' HO_38.out).2.2 | (with_reducible refine Kd.C_alloc ?_ _) | (with_reducible refine Kd.C_drewN ?_ _) | (with_reducible refine Kd.C_drew ?_))); (case side2 => exact (Kd.R_reads' HO_38.out).2.1); rintro e w' ⟨rfl, ⟨nd, rfl⟩⟩; refine ⟨_, rfl, ?_⟩; obtain ⟨Ao152, co152, eo152⟩ := Kd.R_slice HO_42.out; subst eo152) | (go_at_call 33; (with_reducible refine (laws_mRises.calls kj102 _ _ t165 true _ ?side1 ?side2 A145.out).mono ?_); (case side1 =>  repeat (first | exact (Kd.R_reads' HO_42.out).2.2 | (with_reducible refine Kd.C_alloc ?_ _) | (with_reducible refine Kd.C_drewN ?_ _) | (with_reducible refine Kd.C_drew ?_))); (case side2 => exact (Kd.R_reads' HO_42.out).2.1); rintro e w' ⟨rfl, ⟨nd, rfl⟩⟩) | ((with_reducible refine gate_dst (N := 342) rfl ?_); (try (refine gate_guard (by rfl) ?_; dsimp only)); refine Kd.R_lit (Kd.int .i64) _ 3 ?hg (N := 342) ?hd (xs := ([t153] : List Int)) (inner := [.int .i64 t153]) (ok := fun _ => True) (okp := fun _ => True) ?hr ?hp (fun _ hk => hk) trivial (Below.refl _ _) (Nat.le_refl _) (by simp) ?_; (case hd => rfl); (case hg => rfl); (case hr => first | (go_simp; done) | (go_simp; rfl)); (case hp => exact (Reps.one (show Kd.M (Kd.int .i64) _ _ _ t153 [.int .i64 t153] from rfl) (Reps.none _ _))); intro v178 w153 ho154 hb hg_ hnew_; clear hg_ hnew_; (first | rw [← Ny177.out] at ho154 | (simp only [Int.reduceToNat] at ho154; rw [← Ny177.out] at ho154)); have HO179 := Aside0.mk (Kd.R_lower (Kd.R_new' (Kd.R_new' (Kd.R_new' (Kd.R_new' ho154 (Kd.R_lt (by (with_reducible repeat (first | apply qA | apply qN | apply qD)); exact HO_38.out))) (Kd.R_lt (by (with_reducible repeat (first | apply qA | apply qN | apply qD)); exact HO_42.out))) (Kd.R_lt (by (with_reducible repeat (first | apply qA | apply qN | apply qD)); exact HO_110001.out))) (Kd.R_lt (by (with_reducible repeat (first | apply qA | apply qN | apply qD)); exact HO_153001.out))) (below_size (by repeat (first | exact HB.out | apply ba | apply bd | apply be | refine bs ?_ GE109.out | refine bs ?_ GE152.out)))); replace HO_38 := Aside0.mk (Kd.R_elder' (by (with_reducible repeat (first | apply qA | apply qN | apply qD)); exact HO_38.out) (Kd.R_base ho154) hb); replace HO_42 := Aside0.mk (Kd.R_elder' (by (with_reducible repeat (first | apply qA | apply qN | apply qD)); exact HO_42.out) (Kd.R_base ho154) hb); replace HO_110001 := Aside0.mk (Kd.R_elder' (by (with_reducible repeat (first | apply qA | apply qN | apply qD)); exact HO_110001.out) (Kd.R_base ho154) hb); replace HO_153001 := Aside0.mk (Kd.R_elder' (by (with_reducible repeat (first | apply qA | apply qN | apply qD)); exact HO_153001.out) (Kd.R_base ho154) hb); replace BK109 := Aside0.mk (blk_below (g := gb109) (o := .cells #[.int .i64 t102, .slice Ao18 t103.length co18] 26 (0, 0)) (by (with_reducible repeat (first | refine kN ?_ _ | refine kD ?_ | refine kA ?_ _)); exact BK109.out) hb); replace BK152 := Aside0.mk (blk_below (g := gb152) (o := .cells #[.int .i64 t148, .slice Ao108 t149.length co108] 26 (0, 0)) (by (with_reducible repeat (first | refine kN ?_ _ | refine kD ?_ | refine kA ?_ _)); exact BK152.out) hb); replace HB := Aside0.mk (below_step (by repeat (first | exact HB.out | apply ba | apply bd | apply be | refine bs ?_ GE109.out | refine bs ?_ GE152.out)) hb); clear hb ho154; obtain ⟨Ao155, co155, eo155⟩ := Kd.R_slice HO179.out; subst eo155) | (go_at_call 32; (with_reducible refine (laws_mSame.calls kj102 _ _ t157 _ _ y177 true _ ?side1 ?side2 ?side3 ?side4 A148.out).mono ?_); (case side1 =>  repeat (first | exact (Kd.R_reads' HO_38.out).2.2 | (with_reducible refine Kd.C_alloc ?_ _) | (with_reducible refine Kd.C_drewN ?_ _) | (with_reducible refine Kd.C_drew ?_))); (case side2 => exact (Kd.R_reads' HO_38.out).2.1); (case side3 =>  repeat (first | exact (Kd.R_reads' HO179.out).2.2 | (with_reducible refine Kd.C_alloc ?_ _) | (with_reducible refine Kd.C_drewN ?_ _) | (with_reducible refine Kd.C_drew ?_))); (case side4 => exact (Kd.R_reads' HO179.out).2.1); rintro e w' ⟨rfl, ⟨nd, rfl⟩⟩))
            refine meetT_ hJ_j3 (by kernel_rfl) ?rel
            case rel => exact ⟨_, (((t165.length : Int) == (t149.length : Int))), (by first | rfl | (simp; done) | (simp [*]; done)), H', ⟨by have := HJ13.out; have := HJ63.out; have := HJ102.out; first | omega | exact Nat.le_refl _⟩, ⟨by (with_reducible repeat (first | apply qA | apply qN | apply qD)); exact Kd.R_mono HO_38.out (fun _ hk => by first | exact ⟨hk.1.1, ⟨hk.1.2.1, hk.1.2.2⟩⟩ | simp_all)⟩, ⟨by (with_reducible repeat (first | apply qA | apply qN | apply qD)); exact Kd.R_mono HO_42.out (fun _ hk => by first | exact ⟨hk.1.1, ⟨hk.1.2.1, hk.1.2.2⟩⟩ | simp_all)⟩, ⟨by (with_reducible repeat (first | apply qA | apply qN | apply qD)); exact Kd.R_mono HO_110001.out (fun _ hk => by first | exact ⟨hk.1.1, ⟨hk.1.2.1, hk.1.2.2⟩⟩ | simp_all)⟩, ⟨by (with_reducible repeat (first | apply qA | apply qN | apply qD)); exact Kd.R_mono HO_153001.out (fun _ hk => by first | exact ⟨hk.1.1, ⟨hk.1.2.1, hk.1.2.2⟩⟩ | simp_all)⟩, ⟨by (with_reducible repeat (first | refine kN ?_ _ | refine kD ?_ | refine kA ?_ _)); exact BK109.out⟩, ⟨by (with_reducible repeat (first | refine kN ?_ _ | refine kD ?_ | refine kA ?_ _)); exact BK152.out⟩, ⟨by repeat (first | (with_reducible first | exact HB.out | apply ba | apply bd | apply be | refine bs ?_ GE109.out | refine bs ?_ GE152.out) | exact HB.out)⟩⟩
          ·replace c147 := Bool.eq_false_iff.mpr c147
           subst c147
           replace H := iF H
           as_aux_lemma =>
            have H' := Aside0.mk H
            clear H
            obtain ⟨Ao156, co156, eo156⟩ := Kd.R_slice HO_38.out
            subst eo156
            go_wp2_with (first | ((with_reducible refine gate_callee (f := 33) rfl ?_); refine gL 330 Tryz.func33 #[.slice Ao156 t157.length co156] ?_; (with_reducible refine (laws_mRises.calls kj102 _ _ t157 true _ ?side1 ?side2 A143.out).mono ?_); (case side1 =>  repeat (first | exact (Kd.R_reads' HO_38.out).2.2 | (with_reducible refine Kd.C_alloc ?_ _) | (with_reducible refine Kd.C_drewN ?_ _) | (with_reducible refine Kd.C_drew ?_))); (case side2 => exact (Kd.R_reads' HO_38.out).2.1); rintro e w' ⟨rfl, ⟨nd, rfl⟩⟩; refine ⟨_, rfl, ?_⟩; obtain ⟨Ao157, co157, eo157⟩ := Kd.R_slice HO_42.out; subst eo157) | (go_at_call 33; (with_reducible refine (laws_mRises.calls kj102 _ _ t165 true _ ?side1 ?side2 A145.out).mono ?_); (case side1 =>  repeat (first | exact (Kd.R_reads' HO_42.out).2.2 | (with_reducible refine Kd.C_alloc ?_ _) | (with_reducible refine Kd.C_drewN ?_ _) | (with_reducible refine Kd.C_drew ?_))); (case side2 => exact (Kd.R_reads' HO_42.out).2.1); rintro e w' ⟨rfl, ⟨nd, rfl⟩⟩))
            refine meetT_ hJ_j3 (by kernel_rfl) ?rel
            case rel => exact ⟨_, (((t165.length : Int) == (t149.length : Int))), (by first | rfl | (simp; done) | (simp [*]; done)), H', ⟨by have := HJ13.out; have := HJ63.out; have := HJ102.out; first | omega | exact Nat.le_refl _⟩, ⟨by (with_reducible repeat (first | apply qA | apply qN | apply qD)); exact HO_38.out⟩, ⟨by (with_reducible repeat (first | apply qA | apply qN | apply qD)); exact HO_42.out⟩, ⟨by (with_reducible repeat (first | apply qA | apply qN | apply qD)); exact HO_110001.out⟩, ⟨by (with_reducible repeat (first | apply qA | apply qN | apply qD)); exact HO_153001.out⟩, ⟨by (with_reducible repeat (first | refine kN ?_ _ | refine kD ?_ | refine kA ?_ _)); exact BK109.out⟩, ⟨by (with_reducible repeat (first | refine kN ?_ _ | refine kD ?_ | refine kA ?_ _)); exact BK152.out⟩, ⟨by repeat (first | (with_reducible first | exact HB.out | apply ba | apply bd | apply be | refine bs ?_ GE109.out | refine bs ?_ GE152.out) | exact HB.out)⟩⟩
         case rest => as_aux_lemma =>
          intro T_ wc hcut
          simp only [putT, putM, T, F, Nat.reduceAdd]
          (try dsimp only at hcut)
          generalize T_ 359 = u359 at hcut ⊢
          clear HC140
          (try clear c1); (try clear c2); (try clear p2); (try clear c3); (try clear c6); (try clear p6); (try clear c7); (try clear c8); (try clear c9); (try clear c10); (try clear c12); (try clear c13); (try clear c14); (try clear c15); (try clear c16); (try clear c20); (try clear c21); (try clear c22); (try clear c23); (try clear c25); (try clear c26); (try clear c27); (try clear c28); (try clear c29); (try clear c30); (try clear c31); (try clear c33); (try clear c63); (try clear p64); (try clear c65); (try clear c71); (try clear c71b0); (try clear c71b1); (try clear c71b2); (try clear c72); (try clear c73); (try clear c73b0); (try clear c73b1); (try clear c74); (try clear c75); (try clear c76); (try clear c77); (try clear c78); (try clear c80); (try clear c80b0); (try clear c80b1); (try clear c91); (try clear c106); (try clear c120); (try clear c121); (try clear c121b0); (try clear c121b1); (try clear c122); (try clear c124); (try clear c125); (try clear c127); (try clear c128); (try clear c129); (try clear c138); (try clear c139); (try clear c141); (try clear c144); (try clear c146); (try clear c147); (try clear c149); (try clear c150); (try clear c150b0); (try clear c150b1); (try clear hcz118_0); (try clear hcz118_1); (try clear hcz142_0); (try clear hcz142_1); (try clear hcz95_0); (try clear hcz95_1); (try clear hfz118_0); (try clear hfz118_1); (try clear hfz142_0); (try clear hfz142_1); (try clear hfz95_0); (try clear hfz95_1); (try clear p2); (try clear p6); (try clear p64)
          obtain ⟨kq, x359_139, rfl, HA, HJ139, HO_38, HO_42, HO_110001, HO_153001, BK109, BK152, HB⟩ := hcut
          cases kq with
          | zero => exact absurd HA.out (by simp [laws_FnSetsWin.j3])
          | succ kj139 =>
           have H := HA.out
           clear HA
           simp only [laws_FnSetsWin.j3] at H
           replace H := ite_no H
           obtain ⟨c158, H⟩ := H
           replace c158 := Bool.eq_false_iff.mpr c158
           subst c158
           have H' := Aside0.mk H
           clear H
           go_wp2
           refine loopT_ [F,F,F,F,T,F,F,F,F,F,F,F,F,F,F,F,F,F,F,F,F,F,F,F,F,F,F,F,F,F,F,F,F,F,F,F,F,F,F,F,F,F,F,F,F,F,F,T,T,T,T,T,F,F,F,F,F,F,F,F,F,F,F,F,F,F,F,F,F,F,F,F,F,F,F,F,F,F,F,F,F,F,F,F,F,F,F,F,F,F,F,F,F,F,F,F,F,F,F,F,F,F,F,F,F,F,F,F,F,F,F,F,F,F,F,F,F,F,F,F,F,F,F,F,F,F,F,F,F,F,F,F,F,F,F,F,F,F,F,F,F,F,F,F,F,F,F,F,F,F,F,F,F,F,F,F,F,F,F,F,F,F,F,F,F,F,F,F,F,F,F,F,F,F,F,F,F,F,F,F,F,F,F,F,F,F,F,F,F,F,F,F,F,F,F,F,F,F,F,F,F,F,F,F,F,F,F,F,F,F,F,F,F,F,F,F,F,F,F,F,F,F,F,F,F,F,F,F,F,F,F,F,F,F,F,F,F,F,F,F,F,F,F,F,F,F,F,F,F,F,F,F,F,F,F,F,F,F,F,F,F,F,F,F,F,F,F,F,F,F,F,F,F,F,F,F,F,F,F,F,F,F,F,F,F,F,F,F,F,F,F,F,F,F,F,F,F,F,F,F,F,F,F,F,F,F,F,F,F,F,F,F,F,F,F,F,F,F,F,F,F,F,F,F,F,F,F,F,F,F,F,F,F,F,F,F,F,F,F,F,F,F,F,F,F,F,F,F,F,F,F,F,F,F,F,F,F,F,F,F,T,T,T,T,T,T,T,T,T,T,T,T,T,T,T,T,T,T,T,T,T,T,T,T,T,T,T,T,T,T,T,T,T,T,T,T,T,T,T,T,T,T,T,T,T,T,T,T,T,T,T,T,T,T,T,T] kj139 (fun kq_ T_ w_ => (fun kq v47 w' => ∃ (x47_5 : Int), v47 = .int .i64 x47_5 ∧ Aside0 (laws_FnSetsWin.l0 kq t153 t154 t157 t165 (t149.length : Int) x47_5 t148 t149 = some r) ∧ Aside0 (kq ≤ kj139) ∧ Aside0 (Kd.R (Kd.int .i64) 3 w' w.heap.size (fun k_ => some k_ ≠ (v166 : Value).ownBlock ∧ some k_ ≠ ((.slice Ao18 t103.length co18) : Value).ownBlock ∧ some k_ ≠ ((.slice Ao108 t149.length co108) : Value).ownBlock) v158 t157) ∧ Aside0 (Kd.R (Kd.int .i64) 3 w' w.heap.size (fun k_ => some k_ ≠ (v158 : Value).ownBlock ∧ some k_ ≠ ((.slice Ao18 t103.length co18) : Value).ownBlock ∧ some k_ ≠ ((.slice Ao108 t149.length co108) : Value).ownBlock) v166 t165) ∧ Aside0 (Kd.R (Kd.int .i64) 3 w' w.heap.size (fun k_ => some k_ ≠ (v158 : Value).ownBlock ∧ some k_ ≠ (v166 : Value).ownBlock ∧ some k_ ≠ ((.slice Ao108 t149.length co108) : Value).ownBlock) (.slice Ao18 t103.length co18) t103) ∧ Aside0 (Kd.R (Kd.int .i64) 3 w' w.heap.size (fun k_ => some k_ ≠ (v158 : Value).ownBlock ∧ some k_ ≠ (v166 : Value).ownBlock ∧ some k_ ≠ ((.slice Ao18 t103.length co18) : Value).ownBlock) (.slice Ao108 t149.length co108) t149) ∧ Aside0 (w'.heap[gb109]? = some (.cells #[.int .i64 t102, (.slice Ao18 t103.length co18)] 26 (0, 0))) ∧ Aside0 (w'.heap[gb152]? = some (.cells #[.int .i64 t148, (.slice Ao108 t149.length co108)] 26 (0, 0))) ∧ Aside0 (Below w.heap.size w w')) kq_ (T_ 47) w_) (by kernel_rfl) ?atStart ?round
           case atStart => exact ⟨(0), (by first | rfl | (simp; done) | (simp [*]; done)), H', ⟨Nat.le_refl _⟩, ⟨by exact HO_38.out⟩, ⟨by exact HO_42.out⟩, ⟨by exact HO_110001.out⟩, ⟨by exact HO_153001.out⟩, ⟨by exact BK109.out⟩, ⟨by exact BK152.out⟩, ⟨by repeat (first | (with_reducible first | exact HB.out | apply ba | apply bd | apply be | refine bs ?_ GE109.out | refine bs ?_ GE152.out) | exact HB.out)⟩⟩
           case round => as_aux_lemma =>
            intro gk T_ wr hrel J_ K_ hJ_l0 hM_
            simp only [putT, putM, T, F, Nat.reduceAdd]
            (try dsimp only at hrel)
            generalize T_ 47 = u47 at hrel ⊢
            clear H'
            (try clear c1); (try clear c2); (try clear p2); (try clear c3); (try clear c6); (try clear p6); (try clear c7); (try clear c8); (try clear c9); (try clear c10); (try clear c12); (try clear c13); (try clear c14); (try clear c15); (try clear c16); (try clear c20); (try clear c21); (try clear c22); (try clear c23); (try clear c25); (try clear c26); (try clear c27); (try clear c28); (try clear c29); (try clear c30); (try clear c31); (try clear c33); (try clear c63); (try clear p64); (try clear c65); (try clear c71); (try clear c71b0); (try clear c71b1); (try clear c71b2); (try clear c72); (try clear c73); (try clear c73b0); (try clear c73b1); (try clear c74); (try clear c75); (try clear c76); (try clear c77); (try clear c78); (try clear c80); (try clear c80b0); (try clear c80b1); (try clear c91); (try clear c106); (try clear c120); (try clear c121); (try clear c121b0); (try clear c121b1); (try clear c122); (try clear c124); (try clear c125); (try clear c127); (try clear c128); (try clear c129); (try clear c138); (try clear c139); (try clear c141); (try clear c144); (try clear c146); (try clear c147); (try clear c149); (try clear c150); (try clear c150b0); (try clear c150b1); (try clear c158); (try clear hcz118_0); (try clear hcz118_1); (try clear hcz142_0); (try clear hcz142_1); (try clear hcz95_0); (try clear hcz95_1); (try clear hfz118_0); (try clear hfz118_1); (try clear hfz142_0); (try clear hfz142_1); (try clear hfz95_0); (try clear hfz95_1); (try clear p2); (try clear p6); (try clear p64)
            obtain ⟨x47_5, rfl, HA, HK5, HO_38, HO_42, HO_110001, HO_153001, BK109, BK152, HB⟩ := hrel
            cases gk with
            | zero => exact absurd HA.out (by simp [laws_FnSetsWin.l0])
            | succ k5 =>
             have H := HA.out
             clear HA
             simp only [laws_FnSetsWin.l0] at H
             by_cases c159 : x47_5 < (t149.length : Int)
             ·rw [if_pos c159] at H
              have c159b0 : decide (x47_5 < (t149.length : Int)) = true := decide_eq_true c159
              clear c159
              obtain ⟨y181, hy181⟩ : ∃ y_ : List Int, y_ = (([x47_5] : List Int)) := ⟨_, rfl⟩
              replace H : ((impl_IsBlocking.f k5 t148 t149 y181).bind fun bt184 => ((impl_IsWinning.f k5 t148 t149 (([x47_5] : List Int))).bind fun bt189 => (if bt184.2 = true then ((laws_mHas.f k5 t157 x47_5).bind fun t191 => (if (bt184.1 != t191) = true then (none) else (if bt189.2 = true then (if t154 = true then (if bt184.1 = true then (if ((t153 == x47_5) != bt189.1) = true then (none) else ((laws_mHas.f k5 t165 x47_5).bind fun t192 => (if t192 = true then (none) else (laws_FnSetsWin.j5 k5 t153 t154 t157 t165 (t149.length : Int) x47_5 false t148 t149)))) else (if ((t153 == x47_5) != false) = true then (none) else ((laws_mHas.f k5 t165 x47_5).bind fun t193 => (if t193 = true then (laws_FnSetsWin.j5 k5 t153 t154 t157 t165 (t149.length : Int) x47_5 bt189.1 t148 t149) else (laws_FnSetsWin.j5 k5 t153 t154 t157 t165 (t149.length : Int) x47_5 false t148 t149))))) else (if bt184.1 = true then (if (false != bt189.1) = true then (none) else ((laws_mHas.f k5 t165 x47_5).bind fun t194 => (if t194 = true then (none) else (laws_FnSetsWin.j5 k5 t153 t154 t157 t165 (t149.length : Int) x47_5 false t148 t149)))) else ((laws_mHas.f k5 t165 x47_5).bind fun t195 => (if t195 = true then (laws_FnSetsWin.j5 k5 t153 t154 t157 t165 (t149.length : Int) x47_5 bt189.1 t148 t149) else (laws_FnSetsWin.j5 k5 t153 t154 t157 t165 (t149.length : Int) x47_5 false t148 t149))))) else (none)))) else (none)))) = some r := by first | (rw [hy181]; with_reducible exact H) | (have H2_ := (Option.bind_some _ _).symm.trans H; rw [hy181]; with_reducible exact H2_) | (have H2_ := (Option.bind_some _ _).symm.trans H; with_reducible exact H2_) | with_reducible exact H | (rw [hy181]; exact H) | exact H
              have Ny181 := Aside0.mk hy181
              clear hy181
              replace H := oB H
              obtain ⟨⟨t184, t185⟩, A1600, H⟩ := H
              (try dsimp only at H)
              have A160 := Aside0.mk A1600
              clear A1600
              obtain ⟨y186, hy186⟩ : ∃ y_ : List Int, y_ = (([x47_5] : List Int)) := ⟨_, rfl⟩
              replace H : ((impl_IsWinning.f k5 t148 t149 y186).bind fun bt189 => (if t185 = true then ((laws_mHas.f k5 t157 x47_5).bind fun t191 => (if (t184 != t191) = true then (none) else (if bt189.2 = true then (if t154 = true then (if t184 = true then (if ((t153 == x47_5) != bt189.1) = true then (none) else ((laws_mHas.f k5 t165 x47_5).bind fun t192 => (if t192 = true then (none) else (laws_FnSetsWin.j5 k5 t153 t154 t157 t165 (t149.length : Int) x47_5 false t148 t149)))) else (if ((t153 == x47_5) != false) = true then (none) else ((laws_mHas.f k5 t165 x47_5).bind fun t193 => (if t193 = true then (laws_FnSetsWin.j5 k5 t153 t154 t157 t165 (t149.length : Int) x47_5 bt189.1 t148 t149) else (laws_FnSetsWin.j5 k5 t153 t154 t157 t165 (t149.length : Int) x47_5 false t148 t149))))) else (if t184 = true then (if (false != bt189.1) = true then (none) else ((laws_mHas.f k5 t165 x47_5).bind fun t194 => (if t194 = true then (none) else (laws_FnSetsWin.j5 k5 t153 t154 t157 t165 (t149.length : Int) x47_5 false t148 t149)))) else ((laws_mHas.f k5 t165 x47_5).bind fun t195 => (if t195 = true then (laws_FnSetsWin.j5 k5 t153 t154 t157 t165 (t149.length : Int) x47_5 bt189.1 t148 t149) else (laws_FnSetsWin.j5 k5 t153 t154 t157 t165 (t149.length : Int) x47_5 false t148 t149))))) else (none)))) else (none))) = some r := by first | (rw [hy186]; with_reducible exact H) | (have H2_ := (Option.bind_some _ _).symm.trans H; rw [hy186]; with_reducible exact H2_) | (have H2_ := (Option.bind_some _ _).symm.trans H; with_reducible exact H2_) | with_reducible exact H | (rw [hy186]; exact H) | exact H
              have Ny186 := Aside0.mk hy186
              clear hy186
              replace H := oB H
              obtain ⟨⟨t189, t190⟩, A1610, H⟩ := H
              (try dsimp only at H)
              have A161 := Aside0.mk A1610
              clear A1610
              have HC162 := Aside0.mk H
              clear H
              have hnb163 := NB152_109.out
              have hnc163 := NB109_152.out
              have hcz164_0 := cZ BK152 0
              have hcz164_1 := cZ BK152 1
              have hfz164_0 := fZ BK152 0
              have hfz164_1 := fZ BK152 1
              go_upto_region 40 with (first | ((with_reducible refine gate_dst (N := 368) rfl ?_); (try (refine gate_guard (by rfl) ?_; dsimp only)); refine Kd.R_lit (Kd.int .i64) _ 3 ?hg (N := 368) ?hd (xs := ([x47_5] : List Int)) (inner := [.int .i64 x47_5]) (ok := fun _ => True) (okp := fun _ => True) ?hr ?hp (fun _ hk => hk) trivial (Below.refl _ _) (Nat.le_refl _) (by simp) ?_; (case hd => rfl); (case hg => rfl); (case hr => first | (go_simp; done) | (go_simp; rfl)); (case hp => exact (Reps.one (show Kd.M (Kd.int .i64) _ _ _ x47_5 [.int .i64 x47_5] from rfl) (Reps.none _ _))); intro v182 w165 ho166 hb hg_ hnew_; clear hg_ hnew_; (first | rw [← Ny181.out] at ho166 | (simp only [Int.reduceToNat] at ho166; rw [← Ny181.out] at ho166)); have HO183 := Aside0.mk (Kd.R_lower (Kd.R_new' (Kd.R_new' (Kd.R_new' (Kd.R_new' ho166 (Kd.R_lt HO_38.out)) (Kd.R_lt HO_42.out)) (Kd.R_lt HO_110001.out)) (Kd.R_lt HO_153001.out)) (below_size HB.out)); replace HO_38 := Aside0.mk (Kd.R_elder' HO_38.out (Kd.R_base ho166) hb); replace HO_42 := Aside0.mk (Kd.R_elder' HO_42.out (Kd.R_base ho166) hb); replace HO_110001 := Aside0.mk (Kd.R_elder' HO_110001.out (Kd.R_base ho166) hb); replace HO_153001 := Aside0.mk (Kd.R_elder' HO_153001.out (Kd.R_base ho166) hb); replace BK109 := bB BK109 hb; replace BK152 := bB BK152 hb; replace HB := sB HB hb; clear hb ho166; obtain ⟨Ao167, co167, eo167⟩ := Kd.R_slice HO183.out; subst eo167) | ((with_reducible refine gate_callee (f := 14) rfl ?_); refine gL 369 Tryz.func14 #[.agg #[.int .i64 t148, .slice Ao108 t149.length co108], .slice Ao167 y181.length co167] ?_; (with_reducible refine (impl_IsBlocking.calls k5 t148 _ _ t149 _ _ y181 t184 t185 _ ?side1 ?side2 ?side3 ?side4 A160.out).mono ?_); (case side1 => repeat (first | exact (Kd.R_reads' HO_153001.out).2.2 | (with_reducible refine Kd.C_alloc ?_ _) | (with_reducible refine Kd.C_drewN ?_ _) | (with_reducible refine Kd.C_drew ?_))); (case side2 => exact (Kd.R_reads' HO_153001.out).2.1); (case side3 => repeat (first | exact (Kd.R_reads' HO183.out).2.2 | (with_reducible refine Kd.C_alloc ?_ _) | (with_reducible refine Kd.C_drewN ?_ _) | (with_reducible refine Kd.C_drew ?_))); (case side4 => exact (Kd.R_reads' HO183.out).2.1); rintro e w168 ⟨rfl, hb⟩; refine ⟨_, rfl, ?_⟩; replace HO_38 := Aside0.mk (Kd.R_below HO_38.out hb); replace HO_42 := Aside0.mk (Kd.R_below HO_42.out hb); replace HO_110001 := Aside0.mk (Kd.R_below HO_110001.out hb); replace HO_153001 := Aside0.mk (Kd.R_below HO_153001.out hb); replace HO183 := Aside0.mk (Kd.R_below HO183.out hb); replace BK109 := bB BK109 hb; replace BK152 := bB BK152 hb; replace HB := sB HB hb; (try clear hb); (try clear hcz164_0 hcz164_1 hfz164_0 hfz164_1); have hcz169_0 := cZ BK152 0; have hcz169_1 := cZ BK152 1; have hfz169_0 := fZ BK152 0; have hfz169_1 := fZ BK152 1))
              go_upto_region 41 with (first | ((with_reducible refine gate_dst (N := 375) rfl ?_); (try (refine gate_guard (by rfl) ?_; dsimp only)); refine Kd.R_lit (Kd.int .i64) _ 3 ?hg (N := 375) ?hd (xs := ([x47_5] : List Int)) (inner := [.int .i64 x47_5]) (ok := fun _ => True) (okp := fun _ => True) ?hr ?hp (fun _ hk => hk) trivial (Below.refl _ _) (Nat.le_refl _) (by simp) ?_; (case hd => rfl); (case hg => rfl); (case hr => first | (go_simp; done) | (go_simp; rfl)); (case hp => exact (Reps.one (show Kd.M (Kd.int .i64) _ _ _ x47_5 [.int .i64 x47_5] from rfl) (Reps.none _ _))); intro v187 w170 ho171 hb hg_ hnew_; clear hg_ hnew_; (first | rw [← Ny186.out] at ho171 | (simp only [Int.reduceToNat] at ho171; rw [← Ny186.out] at ho171)); have HO188 := Aside0.mk (Kd.R_lower (Kd.R_new' (Kd.R_new' (Kd.R_new' (Kd.R_new' (Kd.R_new' ho171 (Kd.R_lt HO_38.out)) (Kd.R_lt HO_42.out)) (Kd.R_lt HO_110001.out)) (Kd.R_lt HO_153001.out)) (Kd.R_lt HO183.out)) (below_size HB.out)); replace HO_38 := Aside0.mk (Kd.R_elder' HO_38.out (Kd.R_base ho171) hb); replace HO_42 := Aside0.mk (Kd.R_elder' HO_42.out (Kd.R_base ho171) hb); replace HO_110001 := Aside0.mk (Kd.R_elder' HO_110001.out (Kd.R_base ho171) hb); replace HO_153001 := Aside0.mk (Kd.R_elder' HO_153001.out (Kd.R_base ho171) hb); replace HO183 := Aside0.mk (Kd.R_elder' HO183.out (Kd.R_base ho171) hb); replace BK109 := bB BK109 hb; replace BK152 := bB BK152 hb; replace HB := sB HB hb; clear hb ho171; obtain ⟨Ao172, co172, eo172⟩ := Kd.R_slice HO188.out; subst eo172) | ((with_reducible refine gate_callee (f := 12) rfl ?_); refine gL 376 Tryz.func12 #[.agg #[.int .i64 t148, .slice Ao108 t149.length co108], .slice Ao172 y186.length co172] ?_; (with_reducible refine (impl_IsWinning.calls k5 t148 _ _ t149 _ _ y186 t189 t190 _ ?side1 ?side2 ?side3 ?side4 A161.out).mono ?_); (case side1 => repeat (first | exact (Kd.R_reads' HO_153001.out).2.2 | (with_reducible refine Kd.C_alloc ?_ _) | (with_reducible refine Kd.C_drewN ?_ _) | (with_reducible refine Kd.C_drew ?_))); (case side2 => exact (Kd.R_reads' HO_153001.out).2.1); (case side3 => repeat (first | exact (Kd.R_reads' HO188.out).2.2 | (with_reducible refine Kd.C_alloc ?_ _) | (with_reducible refine Kd.C_drewN ?_ _) | (with_reducible refine Kd.C_drew ?_))); (case side4 => exact (Kd.R_reads' HO188.out).2.1); rintro e w173 ⟨rfl, hb⟩; refine ⟨_, rfl, ?_⟩; replace HO_38 := Aside0.mk (Kd.R_below HO_38.out hb); replace HO_42 := Aside0.mk (Kd.R_below HO_42.out hb); replace HO_110001 := Aside0.mk (Kd.R_below HO_110001.out hb); replace HO_153001 := Aside0.mk (Kd.R_below HO_153001.out hb); replace HO183 := Aside0.mk (Kd.R_below HO183.out hb); replace HO188 := Aside0.mk (Kd.R_below HO188.out hb); replace BK109 := bB BK109 hb; replace BK152 := bB BK152 hb; replace HB := sB HB hb; (try clear hb)))
              (try simp only [Act.put, sA, sZ, sS])
              refine cutT_ [F,F,F,F,F,F,F,F,F,F,F,F,F,F,F,F,F,F,F,F,F,F,F,F,F,F,F,F,F,F,F,F,F,F,F,F,F,F,F,F,F,F,F,F,F,F,F,F,F,F,F,F,F,F,F,F,F,F,F,F,F,F,F,F,F,F,F,F,F,F,F,F,F,F,F,F,F,F,F,F,F,F,F,F,F,F,F,F,F,F,F,F,F,F,F,F,F,F,F,F,F,F,F,F,F,F,F,F,F,F,F,F,F,F,F,F,F,F,F,F,F,F,F,F,F,F,F,F,F,F,F,F,F,F,F,F,F,F,F,F,F,F,F,F,F,F,F,F,F,F,F,F,F,F,F,F,F,F,F,F,F,F,F,F,F,F,F,F,F,F,F,F,F,F,F,F,F,F,F,F,F,F,F,F,F,F,F,F,F,F,F,F,F,F,F,F,F,F,F,F,F,F,F,F,F,F,F,F,F,F,F,F,F,F,F,F,F,F,F,F,F,F,F,F,F,F,F,F,F,F,F,F,F,F,F,F,F,F,F,F,F,F,F,F,F,F,F,F,F,F,F,F,F,F,F,F,F,F,F,F,F,F,F,F,F,F,F,F,F,F,F,F,F,F,F,F,F,F,F,F,F,F,F,F,F,F,F,F,F,F,F,F,F,F,F,F,F,F,F,F,F,F,F,F,F,F,F,F,F,F,F,F,F,F,F,F,F,F,F,F,F,F,F,F,F,F,F,F,F,F,F,F,F,F,F,F,F,F,F,F,F,F,F,F,F,F,F,F,F,F,F,F,F,F,F,F,F,F,F,F,F,F,F,F,F,F,F,F,F,F,F,F,F,F,F,F,F,F,F,T,T,T,T,T,T,T,T,T,T,T,T,T,T,T,T,T,T,T,T,T,T,T,T,T,T,T,T,T,T,T,T,T,T,T,T,T] (fun T_ wc_ => (fun v415 wc => ∃ (kq : Nat) (x415_161 : Bool), v415 = .bool x415_161 ∧ Aside0 (laws_FnSetsWin.j5 kq t153 t154 t157 t165 (t149.length : Int) x47_5 x415_161 t148 t149 = some r) ∧ Aside0 (kq ≤ k5) ∧ Aside0 (Kd.R (Kd.int .i64) 3 wc w.heap.size (fun k_ => some k_ ≠ (v166 : Value).ownBlock ∧ some k_ ≠ ((.slice Ao18 t103.length co18) : Value).ownBlock ∧ some k_ ≠ ((.slice Ao108 t149.length co108) : Value).ownBlock) v158 t157) ∧ Aside0 (Kd.R (Kd.int .i64) 3 wc w.heap.size (fun k_ => some k_ ≠ (v158 : Value).ownBlock ∧ some k_ ≠ ((.slice Ao18 t103.length co18) : Value).ownBlock ∧ some k_ ≠ ((.slice Ao108 t149.length co108) : Value).ownBlock) v166 t165) ∧ Aside0 (Kd.R (Kd.int .i64) 3 wc w.heap.size (fun k_ => some k_ ≠ (v158 : Value).ownBlock ∧ some k_ ≠ (v166 : Value).ownBlock ∧ some k_ ≠ ((.slice Ao108 t149.length co108) : Value).ownBlock) (.slice Ao18 t103.length co18) t103) ∧ Aside0 (Kd.R (Kd.int .i64) 3 wc w.heap.size (fun k_ => some k_ ≠ (v158 : Value).ownBlock ∧ some k_ ≠ (v166 : Value).ownBlock ∧ some k_ ≠ ((.slice Ao18 t103.length co18) : Value).ownBlock) (.slice Ao108 t149.length co108) t149) ∧ Aside0 (wc.heap[gb109]? = some (.cells #[.int .i64 t102, (.slice Ao18 t103.length co18)] 26 (0, 0))) ∧ Aside0 (wc.heap[gb152]? = some (.cells #[.int .i64 t148, (.slice Ao108 t149.length co108)] 26 (0, 0))) ∧ Aside0 (Below w.heap.size w wc)) (T_ 415) wc_) ?rest ?first
              case first => as_aux_lemma =>
               intro J_ K_ hJ_j5 hM_
               have H := HC162.out
               clear HC162
               replace H := ite_yes H
               obtain ⟨c174, H⟩ := H
               subst c174
               replace H := oA H
               obtain ⟨t191, A175, H⟩ := H
               (try dsimp only at H)
               replace H := ite_no H
               obtain ⟨c176, H⟩ := H
               replace c176 := of_nbne c176
               subst t184
               (try simp only [bne_self_eq_false])
               replace H := ite_yes H
               obtain ⟨c177, H⟩ := H
               subst c177
               by_cases c178 : t154 = true
               ·subst c178
                replace H := iT H
                by_cases c179 : t191 = true
                ·subst c179
                 replace H := iT H
                 replace H := ite_no H
                 obtain ⟨c180, H⟩ := H
                 have c180b0 : ((t153 == x47_5) != t189) = false := by simpa using c180
                 (try (have c180b1 : decide ((t153 == x47_5) = t189) = true := by simpa using c180))
                 (try (have c180b2 : ((t153 == x47_5) == t189) = true := by simpa using c180))
                 clear c180
                 replace H := oA H
                 obtain ⟨t192, A181, H⟩ := H
                 (try dsimp only at H)
                 replace H := ite_no H
                 obtain ⟨c182, H⟩ := H
                 replace c182 := Bool.eq_false_iff.mpr c182
                 subst c182
                 as_aux_lemma =>
                  have H' := Aside0.mk H
                  clear H
                  obtain ⟨Ao183, co183, eo183⟩ := Kd.R_slice HO_38.out
                  subst eo183
                  go_wp2_with (first | (go_at_call 34; (with_reducible refine (laws_mHas.calls k5 _ _ t157 x47_5 true _ ?side1 ?side2 A175.out).mono ?_); (case side1 => repeat (first | exact (Kd.R_reads' HO_38.out).2.2 | (with_reducible refine Kd.C_alloc ?_ _) | (with_reducible refine Kd.C_drewN ?_ _) | (with_reducible refine Kd.C_drew ?_))); (case side2 => exact (Kd.R_reads' HO_38.out).2.1); rintro e w' ⟨rfl, ⟨nd, rfl⟩⟩; obtain ⟨Ao184, co184, eo184⟩ := Kd.R_slice HO_42.out; subst eo184) | (go_at_call 34; (with_reducible refine (laws_mHas.calls k5 _ _ t165 x47_5 false _ ?side1 ?side2 A181.out).mono ?_); (case side1 =>  repeat (first | exact (Kd.R_reads' HO_42.out).2.2 | (with_reducible refine Kd.C_alloc ?_ _) | (with_reducible refine Kd.C_drewN ?_ _) | (with_reducible refine Kd.C_drew ?_))); (case side2 => exact (Kd.R_reads' HO_42.out).2.1); rintro e w' ⟨rfl, ⟨nd, rfl⟩⟩))
                  refine meetT_ hJ_j5 (by kernel_rfl) ?rel
                  case rel => exact ⟨_, (false), (by first | rfl | (simp; done) | (simp [*]; done)), H', ⟨by have := HJ13.out; have := HJ63.out; have := HJ102.out; have := HJ139.out; have := HK5.out; first | omega | exact Nat.le_refl _⟩, ⟨by (with_reducible repeat (first | apply qA | apply qN | apply qD)); exact Kd.R_mono HO_38.out (fun _ hk => by first | exact ⟨hk.1.1.1, ⟨hk.1.1.2.1, hk.1.1.2.2⟩⟩ | simp_all)⟩, ⟨by (with_reducible repeat (first | apply qA | apply qN | apply qD)); exact Kd.R_mono HO_42.out (fun _ hk => by first | exact ⟨hk.1.1.1, ⟨hk.1.1.2.1, hk.1.1.2.2⟩⟩ | simp_all)⟩, ⟨by (with_reducible repeat (first | apply qA | apply qN | apply qD)); exact Kd.R_mono HO_110001.out (fun _ hk => by first | exact ⟨hk.1.1.1, ⟨hk.1.1.2.1, hk.1.1.2.2⟩⟩ | simp_all)⟩, ⟨by (with_reducible repeat (first | apply qA | apply qN | apply qD)); exact Kd.R_mono HO_153001.out (fun _ hk => by first | exact ⟨hk.1.1.1, ⟨hk.1.1.2.1, hk.1.1.2.2⟩⟩ | simp_all)⟩, ⟨by (with_reducible repeat (first | refine kN ?_ _ | refine kD ?_ | refine kA ?_ _)); exact BK109.out⟩, ⟨by (with_reducible repeat (first | refine kN ?_ _ | refine kD ?_ | refine kA ?_ _)); exact BK152.out⟩, ⟨by repeat (first | (with_reducible first | exact HB.out | apply ba | apply bd | apply be | refine bs ?_ GE109.out | refine bs ?_ GE152.out) | exact HB.out)⟩⟩
                ·replace c179 := Bool.eq_false_iff.mpr c179
                 subst c179
                 replace H := iF H
                 replace H := ite_no H
                 obtain ⟨c185, H⟩ := H
                 have c185b0 : ((t153 == x47_5) != false) = false := by simpa using c185
                 (try (have c185b1 : decide ((t153 == x47_5) = false) = true := by simpa using c185))
                 (try (have c185b2 : ((t153 == x47_5) == false) = true := by simpa using c185))
                 clear c185
                 replace H := oA H
                 obtain ⟨t193, A186, H⟩ := H
                 (try dsimp only at H)
                 by_cases c187 : t193 = true
                 ·subst c187
                  replace H := iT H
                  as_aux_lemma =>
                   have H' := Aside0.mk H
                   clear H
                   obtain ⟨Ao188, co188, eo188⟩ := Kd.R_slice HO_38.out
                   subst eo188
                   go_wp2_with (first | (go_at_call 34; (with_reducible refine (laws_mHas.calls k5 _ _ t157 x47_5 false _ ?side1 ?side2 A175.out).mono ?_); (case side1 =>  repeat (first | exact (Kd.R_reads' HO_38.out).2.2 | (with_reducible refine Kd.C_alloc ?_ _) | (with_reducible refine Kd.C_drewN ?_ _) | (with_reducible refine Kd.C_drew ?_))); (case side2 => exact (Kd.R_reads' HO_38.out).2.1); rintro e w' ⟨rfl, ⟨nd, rfl⟩⟩; obtain ⟨Ao189, co189, eo189⟩ := Kd.R_slice HO_42.out; subst eo189) | (go_at_call 34; (with_reducible refine (laws_mHas.calls k5 _ _ t165 x47_5 true _ ?side1 ?side2 A186.out).mono ?_); (case side1 =>  repeat (first | exact (Kd.R_reads' HO_42.out).2.2 | (with_reducible refine Kd.C_alloc ?_ _) | (with_reducible refine Kd.C_drewN ?_ _) | (with_reducible refine Kd.C_drew ?_))); (case side2 => exact (Kd.R_reads' HO_42.out).2.1); rintro e w' ⟨rfl, ⟨nd, rfl⟩⟩))
                   refine meetT_ hJ_j5 (by kernel_rfl) ?rel
                   case rel => exact ⟨_, (t189), (by first | rfl | (simp; done) | (simp [*]; done)), H', ⟨by have := HJ13.out; have := HJ63.out; have := HJ102.out; have := HJ139.out; have := HK5.out; first | omega | exact Nat.le_refl _⟩, ⟨by (with_reducible repeat (first | apply qA | apply qN | apply qD)); exact Kd.R_mono HO_38.out (fun _ hk => by first | exact ⟨hk.1.1.1, ⟨hk.1.1.2.1, hk.1.1.2.2⟩⟩ | simp_all)⟩, ⟨by (with_reducible repeat (first | apply qA | apply qN | apply qD)); exact Kd.R_mono HO_42.out (fun _ hk => by first | exact ⟨hk.1.1.1, ⟨hk.1.1.2.1, hk.1.1.2.2⟩⟩ | simp_all)⟩, ⟨by (with_reducible repeat (first | apply qA | apply qN | apply qD)); exact Kd.R_mono HO_110001.out (fun _ hk => by first | exact ⟨hk.1.1.1, ⟨hk.1.1.2.1, hk.1.1.2.2⟩⟩ | simp_all)⟩, ⟨by (with_reducible repeat (first | apply qA | apply qN | apply qD)); exact Kd.R_mono HO_153001.out (fun _ hk => by first | exact ⟨hk.1.1.1, ⟨hk.1.1.2.1, hk.1.1.2.2⟩⟩ | simp_all)⟩, ⟨by (with_reducible repeat (first | refine kN ?_ _ | refine kD ?_ | refine kA ?_ _)); exact BK109.out⟩, ⟨by (with_reducible repeat (first | refine kN ?_ _ | refine kD ?_ | refine kA ?_ _)); exact BK152.out⟩, ⟨by repeat (first | (with_reducible first | exact HB.out | apply ba | apply bd | apply be | refine bs ?_ GE109.out | refine bs ?_ GE152.out) | exact HB.out)⟩⟩
                 ·replace c187 := Bool.eq_false_iff.mpr c187
                  subst c187
                  replace H := iF H
                  as_aux_lemma =>
                   have H' := Aside0.mk H
                   clear H
                   obtain ⟨Ao190, co190, eo190⟩ := Kd.R_slice HO_38.out
                   subst eo190
                   go_wp2_with (first | (go_at_call 34; (with_reducible refine (laws_mHas.calls k5 _ _ t157 x47_5 false _ ?side1 ?side2 A175.out).mono ?_); (case side1 =>  repeat (first | exact (Kd.R_reads' HO_38.out).2.2 | (with_reducible refine Kd.C_alloc ?_ _) | (with_reducible refine Kd.C_drewN ?_ _) | (with_reducible refine Kd.C_drew ?_))); (case side2 => exact (Kd.R_reads' HO_38.out).2.1); rintro e w' ⟨rfl, ⟨nd, rfl⟩⟩; obtain ⟨Ao191, co191, eo191⟩ := Kd.R_slice HO_42.out; subst eo191) | (go_at_call 34; (with_reducible refine (laws_mHas.calls k5 _ _ t165 x47_5 false _ ?side1 ?side2 A186.out).mono ?_); (case side1 =>  repeat (first | exact (Kd.R_reads' HO_42.out).2.2 | (with_reducible refine Kd.C_alloc ?_ _) | (with_reducible refine Kd.C_drewN ?_ _) | (with_reducible refine Kd.C_drew ?_))); (case side2 => exact (Kd.R_reads' HO_42.out).2.1); rintro e w' ⟨rfl, ⟨nd, rfl⟩⟩))
                   refine meetT_ hJ_j5 (by kernel_rfl) ?rel
                   case rel => exact ⟨_, (false), (by first | rfl | (simp; done) | (simp [*]; done)), H', ⟨by have := HJ13.out; have := HJ63.out; have := HJ102.out; have := HJ139.out; have := HK5.out; first | omega | exact Nat.le_refl _⟩, ⟨by (with_reducible repeat (first | apply qA | apply qN | apply qD)); exact Kd.R_mono HO_38.out (fun _ hk => by first | exact ⟨hk.1.1.1, ⟨hk.1.1.2.1, hk.1.1.2.2⟩⟩ | simp_all)⟩, ⟨by (with_reducible repeat (first | apply qA | apply qN | apply qD)); exact Kd.R_mono HO_42.out (fun _ hk => by first | exact ⟨hk.1.1.1, ⟨hk.1.1.2.1, hk.1.1.2.2⟩⟩ | simp_all)⟩, ⟨by (with_reducible repeat (first | apply qA | apply qN | apply qD)); exact Kd.R_mono HO_110001.out (fun _ hk => by first | exact ⟨hk.1.1.1, ⟨hk.1.1.2.1, hk.1.1.2.2⟩⟩ | simp_all)⟩, ⟨by (with_reducible repeat (first | apply qA | apply qN | apply qD)); exact Kd.R_mono HO_153001.out (fun _ hk => by first | exact ⟨hk.1.1.1, ⟨hk.1.1.2.1, hk.1.1.2.2⟩⟩ | simp_all)⟩, ⟨by (with_reducible repeat (first | refine kN ?_ _ | refine kD ?_ | refine kA ?_ _)); exact BK109.out⟩, ⟨by (with_reducible repeat (first | refine kN ?_ _ | refine kD ?_ | refine kA ?_ _)); exact BK152.out⟩, ⟨by repeat (first | (with_reducible first | exact HB.out | apply ba | apply bd | apply be | refine bs ?_ GE109.out | refine bs ?_ GE152.out) | exact HB.out)⟩⟩
               ·replace c178 := Bool.eq_false_iff.mpr c178
                subst c178
                replace H := iF H
                by_cases c192 : t191 = true
                ·subst c192
                 replace H := iT H
                 replace H := ite_no H
                 obtain ⟨c193, H⟩ := H
                 have c193b0 : (false != t189) = false := by simpa using c193
                 (try (have c193b1 : decide (false = t189) = true := by simpa using c193))
                 (try (have c193b2 : (false == t189) = true := by simpa using c193))
                 clear c193
                 replace H := oA H
                 obtain ⟨t194, A194, H⟩ := H
                 (try dsimp only at H)
                 replace H := ite_no H
                 obtain ⟨c195, H⟩ := H
                 replace c195 := Bool.eq_false_iff.mpr c195
                 subst c195
                 as_aux_lemma =>
                  have H' := Aside0.mk H
                  clear H
                  obtain ⟨Ao196, co196, eo196⟩ := Kd.R_slice HO_38.out
                  subst eo196
                  go_wp2_with (first | (go_at_call 34; (with_reducible refine (laws_mHas.calls k5 _ _ t157 x47_5 true _ ?side1 ?side2 A175.out).mono ?_); (case side1 =>  repeat (first | exact (Kd.R_reads' HO_38.out).2.2 | (with_reducible refine Kd.C_alloc ?_ _) | (with_reducible refine Kd.C_drewN ?_ _) | (with_reducible refine Kd.C_drew ?_))); (case side2 => exact (Kd.R_reads' HO_38.out).2.1); rintro e w' ⟨rfl, ⟨nd, rfl⟩⟩; obtain ⟨Ao197, co197, eo197⟩ := Kd.R_slice HO_42.out; subst eo197) | (go_at_call 34; (with_reducible refine (laws_mHas.calls k5 _ _ t165 x47_5 false _ ?side1 ?side2 A194.out).mono ?_); (case side1 =>  repeat (first | exact (Kd.R_reads' HO_42.out).2.2 | (with_reducible refine Kd.C_alloc ?_ _) | (with_reducible refine Kd.C_drewN ?_ _) | (with_reducible refine Kd.C_drew ?_))); (case side2 => exact (Kd.R_reads' HO_42.out).2.1); rintro e w' ⟨rfl, ⟨nd, rfl⟩⟩))
                  refine meetT_ hJ_j5 (by kernel_rfl) ?rel
                  case rel => exact ⟨_, (false), (by first | rfl | (simp; done) | (simp [*]; done)), H', ⟨by have := HJ13.out; have := HJ63.out; have := HJ102.out; have := HJ139.out; have := HK5.out; first | omega | exact Nat.le_refl _⟩, ⟨by (with_reducible repeat (first | apply qA | apply qN | apply qD)); exact Kd.R_mono HO_38.out (fun _ hk => by first | exact ⟨hk.1.1.1, ⟨hk.1.1.2.1, hk.1.1.2.2⟩⟩ | simp_all)⟩, ⟨by (with_reducible repeat (first | apply qA | apply qN | apply qD)); exact Kd.R_mono HO_42.out (fun _ hk => by first | exact ⟨hk.1.1.1, ⟨hk.1.1.2.1, hk.1.1.2.2⟩⟩ | simp_all)⟩, ⟨by (with_reducible repeat (first | apply qA | apply qN | apply qD)); exact Kd.R_mono HO_110001.out (fun _ hk => by first | exact ⟨hk.1.1.1, ⟨hk.1.1.2.1, hk.1.1.2.2⟩⟩ | simp_all)⟩, ⟨by (with_reducible repeat (first | apply qA | apply qN | apply qD)); exact Kd.R_mono HO_153001.out (fun _ hk => by first | exact ⟨hk.1.1.1, ⟨hk.1.1.2.1, hk.1.1.2.2⟩⟩ | simp_all)⟩, ⟨by (with_reducible repeat (first | refine kN ?_ _ | refine kD ?_ | refine kA ?_ _)); exact BK109.out⟩, ⟨by (with_reducible repeat (first | refine kN ?_ _ | refine kD ?_ | refine kA ?_ _)); exact BK152.out⟩, ⟨by repeat (first | (with_reducible first | exact HB.out | apply ba | apply bd | apply be | refine bs ?_ GE109.out | refine bs ?_ GE152.out) | exact HB.out)⟩⟩
                ·replace c192 := Bool.eq_false_iff.mpr c192
                 subst c192
                 replace H := iF H
                 replace H := oA H
                 obtain ⟨t195, A198, H⟩ := H
                 (try dsimp only at H)
                 by_cases c199 : t195 = true
                 ·subst c199
                  replace H := iT H
                  as_aux_lemma =>
                   have H' := Aside0.mk H
                   clear H
                   obtain ⟨Ao200, co200, eo200⟩ := Kd.R_slice HO_38.out
                   subst eo200
                   go_wp2_with (first | (go_at_call 34; (with_reducible refine (laws_mHas.calls k5 _ _ t157 x47_5 false _ ?side1 ?side2 A175.out).mono ?_); (case side1 =>  repeat (first | exact (Kd.R_reads' HO_38.out).2.2 | (with_reducible refine Kd.C_alloc ?_ _) | (with_reducible refine Kd.C_drewN ?_ _) | (with_reducible refine Kd.C_drew ?_))); (case side2 => exact (Kd.R_reads' HO_38.out).2.1); rintro e w' ⟨rfl, ⟨nd, rfl⟩⟩; obtain ⟨Ao201, co201, eo201⟩ := Kd.R_slice HO_42.out; subst eo201) | (go_at_call 34; (with_reducible refine (laws_mHas.calls k5 _ _ t165 x47_5 true _ ?side1 ?side2 A198.out).mono ?_); (case side1 =>  repeat (first | exact (Kd.R_reads' HO_42.out).2.2 | (with_reducible refine Kd.C_alloc ?_ _) | (with_reducible refine Kd.C_drewN ?_ _) | (with_reducible refine Kd.C_drew ?_))); (case side2 => exact (Kd.R_reads' HO_42.out).2.1); rintro e w' ⟨rfl, ⟨nd, rfl⟩⟩))
                   refine meetT_ hJ_j5 (by kernel_rfl) ?rel
                   case rel => exact ⟨_, (t189), (by first | rfl | (simp; done) | (simp [*]; done)), H', ⟨by have := HJ13.out; have := HJ63.out; have := HJ102.out; have := HJ139.out; have := HK5.out; first | omega | exact Nat.le_refl _⟩, ⟨by (with_reducible repeat (first | apply qA | apply qN | apply qD)); exact Kd.R_mono HO_38.out (fun _ hk => by first | exact ⟨hk.1.1.1, ⟨hk.1.1.2.1, hk.1.1.2.2⟩⟩ | simp_all)⟩, ⟨by (with_reducible repeat (first | apply qA | apply qN | apply qD)); exact Kd.R_mono HO_42.out (fun _ hk => by first | exact ⟨hk.1.1.1, ⟨hk.1.1.2.1, hk.1.1.2.2⟩⟩ | simp_all)⟩, ⟨by (with_reducible repeat (first | apply qA | apply qN | apply qD)); exact Kd.R_mono HO_110001.out (fun _ hk => by first | exact ⟨hk.1.1.1, ⟨hk.1.1.2.1, hk.1.1.2.2⟩⟩ | simp_all)⟩, ⟨by (with_reducible repeat (first | apply qA | apply qN | apply qD)); exact Kd.R_mono HO_153001.out (fun _ hk => by first | exact ⟨hk.1.1.1, ⟨hk.1.1.2.1, hk.1.1.2.2⟩⟩ | simp_all)⟩, ⟨by (with_reducible repeat (first | refine kN ?_ _ | refine kD ?_ | refine kA ?_ _)); exact BK109.out⟩, ⟨by (with_reducible repeat (first | refine kN ?_ _ | refine kD ?_ | refine kA ?_ _)); exact BK152.out⟩, ⟨by repeat (first | (with_reducible first | exact HB.out | apply ba | apply bd | apply be | refine bs ?_ GE109.out | refine bs ?_ GE152.out) | exact HB.out)⟩⟩
                 ·replace c199 := Bool.eq_false_iff.mpr c199
                  subst c199
                  replace H := iF H
                  as_aux_lemma =>
                   have H' := Aside0.mk H
                   clear H
                   obtain ⟨Ao202, co202, eo202⟩ := Kd.R_slice HO_38.out
                   subst eo202
                   go_wp2_with (first | (go_at_call 34; (with_reducible refine (laws_mHas.calls k5 _ _ t157 x47_5 false _ ?side1 ?side2 A175.out).mono ?_); (case side1 =>  repeat (first | exact (Kd.R_reads' HO_38.out).2.2 | (with_reducible refine Kd.C_alloc ?_ _) | (with_reducible refine Kd.C_drewN ?_ _) | (with_reducible refine Kd.C_drew ?_))); (case side2 => exact (Kd.R_reads' HO_38.out).2.1); rintro e w' ⟨rfl, ⟨nd, rfl⟩⟩; obtain ⟨Ao203, co203, eo203⟩ := Kd.R_slice HO_42.out; subst eo203) | (go_at_call 34; (with_reducible refine (laws_mHas.calls k5 _ _ t165 x47_5 false _ ?side1 ?side2 A198.out).mono ?_); (case side1 =>  repeat (first | exact (Kd.R_reads' HO_42.out).2.2 | (with_reducible refine Kd.C_alloc ?_ _) | (with_reducible refine Kd.C_drewN ?_ _) | (with_reducible refine Kd.C_drew ?_))); (case side2 => exact (Kd.R_reads' HO_42.out).2.1); rintro e w' ⟨rfl, ⟨nd, rfl⟩⟩))
                   refine meetT_ hJ_j5 (by kernel_rfl) ?rel
                   case rel => exact ⟨_, (false), (by first | rfl | (simp; done) | (simp [*]; done)), H', ⟨by have := HJ13.out; have := HJ63.out; have := HJ102.out; have := HJ139.out; have := HK5.out; first | omega | exact Nat.le_refl _⟩, ⟨by (with_reducible repeat (first | apply qA | apply qN | apply qD)); exact Kd.R_mono HO_38.out (fun _ hk => by first | exact ⟨hk.1.1.1, ⟨hk.1.1.2.1, hk.1.1.2.2⟩⟩ | simp_all)⟩, ⟨by (with_reducible repeat (first | apply qA | apply qN | apply qD)); exact Kd.R_mono HO_42.out (fun _ hk => by first | exact ⟨hk.1.1.1, ⟨hk.1.1.2.1, hk.1.1.2.2⟩⟩ | simp_all)⟩, ⟨by (with_reducible repeat (first | apply qA | apply qN | apply qD)); exact Kd.R_mono HO_110001.out (fun _ hk => by first | exact ⟨hk.1.1.1, ⟨hk.1.1.2.1, hk.1.1.2.2⟩⟩ | simp_all)⟩, ⟨by (with_reducible repeat (first | apply qA | apply qN | apply qD)); exact Kd.R_mono HO_153001.out (fun _ hk => by first | exact ⟨hk.1.1.1, ⟨hk.1.1.2.1, hk.1.1.2.2⟩⟩ | simp_all)⟩, ⟨by (with_reducible repeat (first | refine kN ?_ _ | refine kD ?_ | refine kA ?_ _)); exact BK109.out⟩, ⟨by (with_reducible repeat (first | refine kN ?_ _ | refine kD ?_ | refine kA ?_ _)); exact BK152.out⟩, ⟨by repeat (first | (with_reducible first | exact HB.out | apply ba | apply bd | apply be | refine bs ?_ GE109.out | refine bs ?_ GE152.out) | exact HB.out)⟩⟩
              case rest => as_aux_lemma =>
               intro T_ wc hcut
               simp only [putT, putM, T, F, Nat.reduceAdd]
               (try dsimp only at hcut)
               generalize T_ 415 = u415 at hcut ⊢
               clear HC162
               (try clear c1); (try clear c2); (try clear p2); (try clear c3); (try clear c6); (try clear p6); (try clear c7); (try clear c8); (try clear c9); (try clear c10); (try clear c12); (try clear c13); (try clear c14); (try clear c15); (try clear c16); (try clear c17); (try clear c18); (try clear c19); (try clear c20); (try clear c21); (try clear c22); (try clear c23); (try clear c25); (try clear c26); (try clear c27); (try clear c28); (try clear c29); (try clear c30); (try clear c31); (try clear c33); (try clear c63); (try clear p64); (try clear c65); (try clear c71); (try clear c71b0); (try clear c71b1); (try clear c71b2); (try clear c72); (try clear c73); (try clear c73b0); (try clear c73b1); (try clear c74); (try clear c75); (try clear c76); (try clear c77); (try clear c78); (try clear c80); (try clear c80b0); (try clear c80b1); (try clear c91); (try clear c106); (try clear c120); (try clear c121); (try clear c121b0); (try clear c121b1); (try clear c122); (try clear c124); (try clear c125); (try clear c127); (try clear c128); (try clear c129); (try clear c138); (try clear c139); (try clear c141); (try clear c144); (try clear c146); (try clear c147); (try clear c149); (try clear c150); (try clear c150b0); (try clear c150b1); (try clear c158); (try clear c159); (try clear c159b0); (try clear c163); (try clear c174); (try clear c176); (try clear c177); (try clear c178); (try clear c179); (try clear c180); (try clear c180b0); (try clear c180b1); (try clear c180b2); (try clear c182); (try clear c185); (try clear c185b0); (try clear c185b1); (try clear c185b2); (try clear c187); (try clear c192); (try clear c193); (try clear c193b0); (try clear c193b1); (try clear c193b2); (try clear c195); (try clear c199); (try clear hcz118_0); (try clear hcz118_1); (try clear hcz142_0); (try clear hcz142_1); (try clear hcz169_0); (try clear hcz169_1); (try clear hcz95_0); (try clear hcz95_1); (try clear hfz118_0); (try clear hfz118_1); (try clear hfz142_0); (try clear hfz142_1); (try clear hfz169_0); (try clear hfz169_1); (try clear hfz95_0); (try clear hfz95_1); (try clear p2); (try clear p6); (try clear p64)
               obtain ⟨kq, x415_161, rfl, HA, HJ161, HO_38, HO_42, HO_110001, HO_153001, BK109, BK152, HB⟩ := hcut
               cases kq with
               | zero => exact absurd HA.out (by simp [laws_FnSetsWin.j5])
               | succ kj161 =>
                have H := HA.out
                clear HA
                simp only [laws_FnSetsWin.j5] at H
                replace H := ite_no H
                obtain ⟨c204, H⟩ := H
                replace c204 := Bool.eq_false_iff.mpr c204
                subst c204
                as_aux_lemma =>
                 have H' := Aside0.mk H
                 clear H
                 go_wp2
                 refine roundT_ kj161 ?measure hJ_l0 (by kernel_rfl) ?rel
                 case measure => have := HJ13.out; have := HJ63.out; have := HJ102.out; have := HJ139.out; have := HK5.out; have := HJ161.out; omega
                 case rel => exact ⟨(wrap64 (x47_5 + 1)), (by first | rfl | (simp; done) | (simp [*]; done)), H', ⟨by have := HJ13.out; have := HJ63.out; have := HJ102.out; have := HJ139.out; have := HK5.out; have := HJ161.out; omega⟩, ⟨by exact HO_38.out⟩, ⟨by exact HO_42.out⟩, ⟨by exact HO_110001.out⟩, ⟨by exact HO_153001.out⟩, ⟨by exact BK109.out⟩, ⟨by exact BK152.out⟩, ⟨by repeat (first | (with_reducible first | exact HB.out | apply ba | apply bd | apply be | refine bs ?_ GE109.out | refine bs ?_ GE152.out) | exact HB.out)⟩⟩
             ·rw [if_neg c159] at H
              have c159b0 : decide (x47_5 < (t149.length : Int)) = false := decide_eq_false c159
              clear c159
              as_aux_lemma =>
               obtain rfl := Option.some.inj H
               go_wp2
               go_ret
               exact ⟨by first | rfl | (simp <;> rfl) | (simp [*] <;> rfl), by repeat (first | (with_reducible first | exact HB.out | apply ba | apply bd | apply be | refine bs ?_ GE109.out | refine bs ?_ GE152.out) | exact HB.out)⟩
        ·replace c139 := Bool.eq_false_iff.mpr c139
         subst c139
         replace H := iF H
         as_aux_lemma =>
          obtain rfl := Option.some.inj H
          go_wp2
          go_ret
          exact ⟨by first | rfl | (simp <;> rfl) | (simp [*] <;> rfl), by repeat (first | (with_reducible first | exact HB.out | apply ba | apply bd | apply be | refine bs ?_ GE109.out | refine bs ?_ GE152.out) | exact HB.out)⟩
end Go.Proofs.YtamfpkefnhcngaaGreat.Q
namespace Go.Proofs.YtamfpkefnhcngaaGreat.Q
open Go.RowKit Go.Proofs.YtamfpkefnhcngaaGreatW.PrintWords Go.Proofs.YtamfpkefnhcngaaGreatW.PrintLast Go.Proofs.YtamfpkefnhcngaaGreatW.PrintMore Go.Proofs.YtamfpkefnhcngaaGreatM
set_option linter.unusedVariables false
set_option linter.unusedSimpArgs false
theorem laws_big.cases (l0 l1 : List Int) : (∃ b, laws_big.f l0 l1 = some b ∧ b = true) ∨ (laws_big.f l0 l1 = some false ∧ l0.length ≤ 1048576 ∧ l1.length ≤ 1048576) := by
  unfold laws_big.f
  by_cases c : (l0.length : Int) > 1048576
  · rw [if_pos c]
    exact .inl ⟨_, rfl, rfl⟩
  · rw [if_neg c, w64 (by omega) (by omega)]
    by_cases c2 : (l1.length : Int) > 1048576 - (l0.length : Int)
    · rw [decide_eq_true c2]
      exact .inl ⟨_, rfl, rfl⟩
    · rw [decide_eq_false c2]
      exact .inr ⟨rfl, by omega, by omega⟩
def bitB (m i : Nat) : Bool := decide (m / 2 ^ i % 2 = 1)
def setN (m : Nat) : List Int := ((List.range 62).filter (bitB m)).map fun (i : Nat) => (i : Int)
def setTo (m i : Nat) : List Int := ((List.range i).filter (bitB m)).map fun (i : Nat) => (i : Int)
theorem bitB_high {m i j : Nat} (h : m / 2 ^ i = 0) (hij : i ≤ j) : bitB m j = false := by
  unfold bitB
  have : m < 2 ^ i := by
    rcases Nat.lt_or_ge m (2 ^ i) with h1 | h1
    · exact h1
    · have := Nat.div_pos h1 (Nat.two_pow_pos i)
      omega
  have h2 : 2 ^ i ≤ 2 ^ j := Nat.pow_le_pow_right (by omega) hij
  rw [Nat.div_eq_of_lt (by omega)]
  rfl
theorem setTo_done {m i : Nat} (h : m / 2 ^ i = 0) (hi : i ≤ 62) : setTo m i = setN m := by
  unfold setTo setN
  rw [show List.range 62 = List.range i ++ (List.range (62 - i)).map (i + ·) by rw [← List.range_add]; congr 1; omega, List.filter_append]
  have : ((List.range (62 - i)).map (i + ·)).filter (bitB m) = [] := by
    rw [List.filter_eq_nil_iff]
    intro j hj
    obtain ⟨a, _, rfl⟩ := List.mem_map.1 hj
    rw [bitB_high h (by omega)]
    decide
  rw [this, List.append_nil]
theorem setTo_succ (m i : Nat) : setTo m (i + 1) = if bitB m i = true then setTo m i ++ [(i : Int)] else setTo m i := by
  unfold setTo
  rw [List.range_succ, List.filter_append, List.map_append]
  by_cases h : bitB m i = true
  · rw [if_pos h]
    simp [h]
  · rw [if_neg h]
    simp [h]
theorem setTo_len (m i : Nat) : (setTo m i).length ≤ i := by
  unfold setTo
  rw [List.length_map]
  have := List.length_filter_le (bitB m) (List.range i)
  rw [List.length_range] at this
  exact this
theorem setN_to {m n : Nat} (h : m < 2 ^ n) (hn : n ≤ 62) : setN m = setTo m n := (setTo_done (Nat.div_eq_of_lt h) hn).symm
theorem setTo_in {m n : Nat} : ∀ x ∈ setTo m n, 0 ≤ x ∧ x < (n : Int) ∧ bitB m x.toNat = true := by
  intro x hx
  obtain ⟨i, hi, rfl⟩ := List.mem_map.1 hx
  rw [List.mem_filter, List.mem_range] at hi
  exact ⟨by omega, by omega, by rw [Int.toNat_natCast]; exact hi.2⟩
theorem setTo_all (m n : Nat) (q : Nat → Bool) : ((setTo m n).all fun x => q x.toNat) = (List.range n).all fun i => !(bitB m i) || q i := by
  unfold setTo
  rw [List.all_map, List.all_filter]
  rfl
def leastB (W : List Bool) (n m : Nat) : Bool := W.getD m false && (List.range n).all fun i => !(bitB m i) || !(W.getD (m - 2 ^ i) false)
def takeL (P : Nat → Bool) (i : Nat) : List (List Int) := ((List.range i).filter P).map setN
theorem takeL_succ (P : Nat → Bool) (i : Nat) : takeL P (i + 1) = if P i = true then takeL P i ++ [setN i] else takeL P i := by
  unfold takeL
  rw [List.range_succ, List.filter_append, List.map_append]
  by_cases h : P i = true
  · rw [if_pos h]
    simp [h]
  · rw [if_neg h]
    simp [h]
theorem takeL_len (P : Nat → Bool) (i : Nat) : (takeL P i).length ≤ i := by
  unfold takeL
  rw [List.length_map]
  have := List.length_filter_le P (List.range i)
  rw [List.length_range] at this
  exact this
theorem takeL_mem {P : Nat → Bool} {i : Nat} : ∀ x ∈ takeL P i, ∃ m, m < i ∧ P m = true ∧ x = setN m := by
  intro x hx
  obtain ⟨m, hm, rfl⟩ := List.mem_map.1 hx
  rw [List.mem_filter, List.mem_range] at hm
  exact ⟨m, hm.1, hm.2, rfl⟩
theorem andNot_pow (m i : Nat) (hm : m < 2 ^ 62) (hi : i ≤ 61) (h : bitB m i = true) : Go.bits .andNot .i64 (m : Int) ((2 ^ i : Nat) : Int) = ((m - 2 ^ i : Nat) : Int) := by
  have hp : 2 ^ i ≤ 2 ^ 61 := Nat.pow_le_pow_right (by omega) hi
  have hb : m / 2 ^ i % 2 = 1 := by simpa [bitB] using h
  have hmi : m - 2 ^ i < 2 ^ 62 := Nat.lt_of_le_of_lt (Nat.sub_le _ _) hm
  have key : m &&& (2 ^ 64 - 1 - 2 ^ i) = m - 2 ^ i := by
    have hge : 2 ^ i ≤ m := by
      rcases Nat.lt_or_ge m (2 ^ i) with h1 | h1
      · rw [Nat.div_eq_of_lt h1] at hb; omega
      · exact h1
    have h0 : (m - 2 ^ i) / 2 ^ i % 2 = 0 := by
      have e : m = (m - 2 ^ i) + 2 ^ i := by omega
      have e2 : m / 2 ^ i = (m - 2 ^ i) / 2 ^ i + 1 := by
        conv => lhs; rw [e]
        exact Nat.add_div_right _ (Nat.two_pow_pos i)
      omega
    have hor := or_pow i (m - 2 ^ i) h0
    rw [Nat.sub_add_cancel hge] at hor
    apply Nat.eq_of_testBit_eq
    intro j
    rw [Nat.testBit_and, show 2 ^ 64 - 1 - 2 ^ i = 2 ^ 64 - (2 ^ i + 1) by omega, Nat.testBit_two_pow_sub_succ (by omega : 2 ^ i < 2 ^ 64)]
    have hmj : m.testBit j = ((m - 2 ^ i).testBit j || (2 ^ i).testBit j) := by rw [← Nat.testBit_or, hor]
    by_cases e : j = i
    · subst e
      have : (m - 2 ^ j).testBit j = false := by
        rw [Nat.testBit_eq_decide_div_mod_eq, h0]
        rfl
      rw [this, Nat.testBit_two_pow_self]
      simp
    · have h2 : (2 ^ i).testBit j = false := Nat.testBit_two_pow_of_ne (fun h => e h.symm)
      rw [hmj, h2]
      by_cases hj : j < 64
      · simp [hj]
      · have : (m - 2 ^ i).testBit j = false := Nat.testBit_lt_two_pow (Nat.lt_of_lt_of_le hmi (Nat.pow_le_pow_right (by omega) (by omega)))
        rw [this]
        simp
  have hbv : ((BitVec.ofInt 64 (m : Int)) &&& ~~~(BitVec.ofInt 64 ((2 ^ i : Nat) : Int))).toNat = m - 2 ^ i := by
    rw [BitVec.toNat_and, BitVec.toNat_not, BitVec.ofInt_natCast, BitVec.ofInt_natCast, BitVec.toNat_ofNat, BitVec.toNat_ofNat, Nat.mod_eq_of_lt (by omega : m < 2 ^ 64), Nat.mod_eq_of_lt (by omega : 2 ^ i < 2 ^ 64)]
    exact key
  show IntKind.i64.wrap (((BitVec.ofInt 64 (m : Int)) &&& ~~~(BitVec.ofInt 64 ((2 ^ i : Nat) : Int))).toNat : Int) = _
  rw [hbv]
  exact (fun (x : Nat) (hx : x < 2 ^ 62) => i64_wrap (x := (x : Int)) (by omega) (by omega)) (m - 2 ^ i) hmi
theorem impl_votesOf.at_l (n N : Nat) (hN : N ≤ 1000000) (P : Int → Option Bool) (p : Nat → Bool) (hP : ∀ m, m < N → P (m : Int) = some (p m)) : ∀ (d m k : Nat) (acc : List Bool), m + d = N → d < k → acc.length = N → acc.take m = ((List.range N).map p).take m → impl_votesOf.l0 k P (N : Int) (m : Int) (n : Int) acc = some ((n : Int), (List.range N).map p) := by
  intro d
  induction d with
  | zero =>
    intro m k acc h hk hlen ht
    obtain ⟨k, rfl⟩ : ∃ j, k = j + 1 := ⟨k - 1, by omega⟩
    simp only [impl_votesOf.l0]
    rw [List.take_of_length_le (by omega), List.take_of_length_le (by simp; omega)] at ht
    rw [if_neg (by omega), ht]
  | succ d ih =>
    intro m k acc h hk hlen ht
    obtain ⟨k, rfl⟩ : ∃ j, k = j + 1 := ⟨k - 1, by omega⟩
    have hm : m < N := by omega
    simp only [impl_votesOf.l0]
    rw [if_pos (by omega), hP m hm, Option.bind_some, if_pos (by omega), if_pos (by omega), w64i (n := N) (by omega) (by omega) (by omega), Int.toNat_natCast]
    refine ih (m + 1) k (acc.set m (p m)) (by omega) (by omega) (by simpa using hlen) ?_
    rw [List.take_succ_eq_append_getElem (by simp; omega), List.take_succ_eq_append_getElem (by simp; omega), List.take_set_of_le (by omega), ht]
    simp
theorem impl_votesOf.ev (n : Nat) (hn : n ≤ 19) (g : Nat → Int → Option Bool) (p : Nat → Bool) (hg : ∀ m : Nat, m < 2 ^ n → Ev (fun k => g k (m : Int)) (p m)) : Ev (fun k => impl_votesOf.f k (n : Int) (g k)) ((n : Int), (List.range (2 ^ n)).map p) := by
  have hp : 2 ^ n ≤ 2 ^ 19 := Nat.pow_le_pow_right (by omega) hn
  have h0 : 0 < 2 ^ n := Nat.two_pow_pos n
  generalize hN : 2 ^ n = N at *
  obtain ⟨K, hK⟩ := ev_all N (fun k m => g k (m : Int)) p hg
  refine ⟨max K (N + 1), fun k hk => ?_⟩
  simp only [impl_votesOf.f]
  rw [if_pos (by omega), shl_one n (by omega), hN, if_pos (by omega), Int.toNat_natCast, if_pos (by omega), Option.bind_some, List.length_replicate]
  exact impl_votesOf.at_l n N (by omega) (g k) p (fun m hm => hK k (by omega) m hm) N 0 k _ (by omega) (by omega) (by simp) (by simp)
theorem impl_has.v (m i : Nat) (hm : m < 2 ^ 62) (hi : i ≤ 62) : impl_has.f (m : Int) (i : Int) = some (decide (m / 2 ^ i % 2 = 1)) := by
  unfold impl_has.f
  have hlt : m / 2 ^ i < 2 ^ 62 := Nat.lt_of_le_of_lt (Nat.div_le_self _ _) hm
  rw [if_pos (by omega), shr_nat m i (by omega), and_one _ hlt]
  congr 1
  by_cases h : m / 2 ^ i % 2 = 1
  · simp [h]
  · have : m / 2 ^ i % 2 = 0 := by omega
    simp [this]
theorem impl_Committee_weight.ev_l (q : Int) (ws : List Int) (m : Nat) (hm : m < 2 ^ 62) (hl : ws.length ≤ 60) (hw : ∀ x ∈ ws, 0 ≤ x ∧ x ≤ 1000000000) : ∀ (d i : Nat) (s : Int), i + d = ws.length → 0 ≤ s → s + wsum (ws.drop i) (m / 2 ^ i) ≤ 1000000000000 → Ev (fun k => impl_Committee_weight.l0 k (m : Int) s ws (ws.length : Int) (i : Int)) (s + wsum (ws.drop i) (m / 2 ^ i)) := by
  intro d
  induction d with
  | zero =>
    intro i s h _ _
    refine ev_step ?_
    simp only [impl_Committee_weight.l0]
    rw [ev_neg (by omega), ev_now, List.drop_of_length_le (by omega)]
    simp [wsum]
  | succ d ih =>
    intro i s h h0 h1
    refine ev_step ?_
    simp only [impl_Committee_weight.l0]
    have hi : i < ws.length := by omega
    have hx := hw ws[i] (List.getElem_mem hi)
    have hd : wsum (ws.drop i) (m / 2 ^ i) = (if m / 2 ^ i % 2 = 1 then ws[i] else 0) + wsum (ws.drop (i + 1)) (m / 2 ^ (i + 1)) := by
      rw [wsum_drop ws i _ hi, Nat.div_div_eq_div_mul, ← Nat.pow_succ]
    have hb := wsum_bounds (ws.drop (i + 1)) (fun x hx => (hw x (List.mem_of_mem_drop hx)).1) (m / 2 ^ (i + 1))
    rw [ev_pos (by omega), ev_pos (by omega), ev_pos (by omega), ev_bind (ev_of (impl_has.v m i hm (by omega))), w64i (n := ws.length) (by omega) (by omega) (by omega), rd_lt ws i hi, hd]
    rw [hd] at h1
    by_cases hbit : m / 2 ^ i % 2 = 1
    · rw [if_pos hbit] at h1 ⊢
      rw [ev_pos (by simpa using hbit), w64 (by omega) (by omega), ← Int.add_assoc]
      exact ih (i + 1) (s + ws[i]) (by omega) (by omega) (by omega)
    · rw [if_neg hbit] at h1 ⊢
      rw [ev_neg (by simpa using hbit), Int.zero_add]
      exact ih (i + 1) s (by omega) h0 (by omega)
theorem impl_Committee_weight.ev (q : Int) (ws : List Int) (m : Nat) (hm : m < 2 ^ 62) (hl : ws.length ≤ 60) (hw : ∀ x ∈ ws, 0 ≤ x ∧ x ≤ 1000000000) : Ev (fun k => impl_Committee_weight.f k q ws (m : Int)) (wsum ws m) := by
  have hb := wsum_bounds ws (fun x hx => (hw x hx).1) m
  have hs := sum_bounds ws 1000000000 hw
  have := impl_Committee_weight.ev_l q ws m hm hl hw ws.length 0 0 (by omega) (by omega) (by simp; omega)
  simpa [impl_Committee_weight.f] using this
theorem impl_Committee_votes.ev (q : Int) (ws : List Int) (hl : ws.length ≤ 9) (hw : ∀ x ∈ ws, 0 ≤ x ∧ x ≤ 1000000000) : Ev (fun k => impl_Committee_votes.f k q ws) ((ws.length : Int), winsL q ws) := by
  have hp : 2 ^ ws.length ≤ 2 ^ 9 := Nat.pow_le_pow_right (by omega) hl
  refine impl_votesOf.ev ws.length (by omega) (fun k => impl_Committee_votes_1.f k q ws) (fun m => decide (q ≤ wsum ws m)) (fun m hm => ?_)
  simp only [impl_Committee_votes_1.f]
  rw [ev_bind (impl_Committee_weight.ev q ws m (by omega) (by omega) hw), ev_now]
theorem impl_sumOf.ev_l (l : List Int) (hl : l.length ≤ 9223372036854775807) : ∀ (d i : Nat) (s : Int), i + d = l.length → Ev (fun k => impl_sumOf.l0 k s l (l.length : Int) (i : Int)) (wfold (l.drop i) s) := by
  intro d
  induction d with
  | zero =>
    intro i s h
    refine ev_step ?_
    simp only [impl_sumOf.l0]
    rw [ev_neg (by omega), ev_now, List.drop_of_length_le (by omega)]
    rfl
  | succ d ih =>
    intro i s h
    refine ev_step ?_
    simp only [impl_sumOf.l0]
    have hi : i < l.length := by omega
    rw [ev_pos (by omega), ev_pos (by omega), ev_pos (by omega), w64i (n := l.length) (by omega) (by omega) hl, rd_lt l i hi, wfold_take l i hi]
    exact ih (i + 1) _ (by omega)
theorem impl_sumOf.ev (l : List Int) (hl : l.length ≤ 9223372036854775807) : Ev (fun k => impl_sumOf.f k l) (wfold l 0) := impl_sumOf.ev_l l hl l.length 0 0 (by omega)
theorem impl_within.v (a b c : Int) : impl_within.f a b c = some (decide (b ≤ a) && decide (a ≤ c)) := by
  unfold impl_within.f
  by_cases h : b ≤ a
  · rw [if_pos h]; simp [h]
  · rw [if_neg h]; simp [h]
theorem impl_IsCommittee.ev (q : Int) (l : List Int) (hl : l.length ≤ 9223372036854775807) : Ev (fun k => impl_IsCommittee.f k q l) (goodB q l) := by
  simp only [impl_IsCommittee.f]
  unfold goodB
  by_cases h1 : 1 ≤ l.length
  · rw [ev_pos (by omega)]
    by_cases h2 : l.length ≤ 9
    · rw [ev_pos (by omega), ev_bind (ev_of (show impl_areIn.f l 0 1000 = some _ from rfl))]
      cases hb : (l.all fun x => decide (0 ≤ x) && decide (x ≤ 1000)) with
      | true =>
        rw [ev_pos rfl, ev_bind (impl_sumOf.ev l hl), ev_bind (ev_of (impl_within.v _ _ _)), ev_now, wfold_w l h2 hb]
        simp [h1, h2]
      | false =>
        rw [ev_neg (by simp), ev_now]
        simp
    · rw [ev_neg (by omega), ev_now]
      simp [h2]
  · rw [ev_neg (by omega), ev_now]
    simp [h1]
def incB : List Int → Bool
  | a :: b :: l => decide (a < b) && incB (b :: l)
  | _ => true
theorem incB_short {l : List Int} (h : l.length ≤ 1) : incB l = true := by
  cases l with
  | nil => rfl
  | cons a l =>
    cases l with
    | nil => rfl
    | cons b l => simp at h
theorem incB_at (l : List Int) (i : Nat) (h0 : 0 < i) (h : i < l.length) : incB (l.drop (i - 1)) = (decide (l[i - 1] < l[i]) && incB (l.drop i)) := by
  rw [List.drop_eq_getElem_cons (show i - 1 < l.length by omega), show i - 1 + 1 = i by omega, List.drop_eq_getElem_cons h]
  rfl
theorem incB_tail {a : Int} {l : List Int} (h : incB (a :: l) = true) : incB l = true := by
  cases l with
  | nil => rfl
  | cons b l =>
    simp only [incB, Bool.and_eq_true] at h
    exact h.2
def setB (n : Int) (l : List Int) : Bool := (l.all fun x => decide (0 ≤ x) && decide (x ≤ n - 1)) && incB l
theorem setB_in {n : Int} {l : List Int} (h : setB n l = true) : ∀ x ∈ l, 0 ≤ x ∧ x < n := by
  intro x hx
  simp only [setB, Bool.and_eq_true, List.all_eq_true] at h
  have := h.1 x hx
  simp at this
  omega
def orBits (m : Nat) (l : List Int) : Nat := l.foldl (fun m x => m ||| 2 ^ x.toNat) m
def maskN (l : List Int) : Nat := orBits 0 l
theorem orBits_lt (n : Nat) : ∀ (l : List Int) (m : Nat), m < 2 ^ n → (∀ x ∈ l, 0 ≤ x ∧ x < (n : Int)) → orBits m l < 2 ^ n
  | [], m, h, _ => h
  | a :: l, m, h, hb => by
    have h1 := hb a List.mem_cons_self
    refine orBits_lt n l (m ||| 2 ^ a.toNat) (Nat.or_lt_two_pow h (Nat.pow_lt_pow_right (by omega) (by omega))) (fun x hx => hb x (List.mem_cons_of_mem _ hx))
theorem maskN_lt (n : Nat) (l : List Int) (hb : ∀ x ∈ l, 0 ≤ x ∧ x < (n : Int)) : maskN l < 2 ^ n := orBits_lt n l 0 (Nat.two_pow_pos n) hb
theorem setB_mask {n : Nat} {l : List Int} (h : setB (n : Int) l = true) : maskN l < 2 ^ n := maskN_lt n l (setB_in h)
def mAt (l : List (List Int)) (i : Nat) : Nat := maskN (l.getD i [])
def gOrd (l : List (List Int)) (i : Nat) : Bool := decide (i = 0) || decide (cmpL (l.getD (i - 1) []) (l.getD i []) < 0)
def gInS (l : List (List Int)) (i j : Nat) : Bool := !(decide (mAt l i &&& mAt l j = mAt l i)) && !(decide (mAt l i &&& mAt l j = mAt l j))
def gS (l : List (List Int)) (i : Nat) : Bool := gOrd l i && (List.range' 0 i).all (gInS l i)
structure GoodG (n : Int) (l : List (List Int)) : Prop where
  n1 : 1 ≤ n
  n9 : n ≤ 9
  ne : l.length ≠ 0
  sets : ∀ x ∈ l, x.length ≠ 0 ∧ setB n x = true
  gs : ∀ i, i < l.length → gS l i = true
theorem bitB_test (m i : Nat) : bitB m i = m.testBit i := by rw [bitB, Nat.testBit_eq_decide_div_mod_eq]
theorem orBits_test : ∀ (x : List Int) (m i : Nat), (∀ y ∈ x, 0 ≤ y) → (orBits m x).testBit i = (m.testBit i || x.contains (i : Int))
  | [], m, i, _ => by simp [orBits]
  | y :: x, m, i, h => by
    have hy := h y List.mem_cons_self
    have ih := orBits_test x (m ||| 2 ^ y.toNat) i (fun z hz => h z (List.mem_cons_of_mem _ hz))
    show (orBits (m ||| 2 ^ y.toNat) x).testBit i = _
    rw [ih, Nat.testBit_or, Nat.testBit_two_pow, List.contains_cons, Bool.or_assoc]
    congr 2
    by_cases e : y.toNat = i
    · rw [decide_eq_true e, beq_iff_eq.2 (show (i : Int) = y by omega)]
    · rw [decide_eq_false e, beq_eq_false_iff_ne.2 (show (i : Int) ≠ y by omega)]
theorem maskN_test (x : List Int) (i : Nat) (h : ∀ y ∈ x, 0 ≤ y) : (maskN x).testBit i = x.contains (i : Int) := by
  rw [maskN, orBits_test x 0 i h]
  simp
theorem sub_pow_test (m i j : Nat) (h : m.testBit i = true) : (m - 2 ^ i).testBit j = (m.testBit j && !(decide (j = i))) := by
  have hb : m / 2 ^ i % 2 = 1 := by rw [Nat.testBit_eq_decide_div_mod_eq] at h; simpa using h
  have hge : 2 ^ i ≤ m := by
    rcases Nat.lt_or_ge m (2 ^ i) with h1 | h1
    · rw [Nat.div_eq_of_lt h1] at hb; omega
    · exact h1
  have h0 : (m - 2 ^ i) / 2 ^ i % 2 = 0 := by
    have e : m = (m - 2 ^ i) + 2 ^ i := by omega
    have e2 : m / 2 ^ i = (m - 2 ^ i) / 2 ^ i + 1 := by
      conv => lhs; rw [e]
      exact Nat.add_div_right _ (Nat.two_pow_pos i)
    omega
  have hor := or_pow i (m - 2 ^ i) h0
  rw [Nat.sub_add_cancel hge] at hor
  have hmj : m.testBit j = ((m - 2 ^ i).testBit j || (2 ^ i).testBit j) := by rw [← Nat.testBit_or, hor]
  by_cases e : j = i
  · subst e
    rw [decide_eq_true rfl, Bool.not_true, Bool.and_false, Nat.testBit_eq_decide_div_mod_eq, h0]
    rfl
  · rw [hmj, Nat.testBit_two_pow_of_ne (fun h => e h.symm), decide_eq_false e]
    simp
theorem setN_contains (m i : Nat) (hi : i < 62) : (setN m).contains (i : Int) = m.testBit i := by
  rw [← bitB_test, Bool.eq_iff_iff, List.contains_iff_mem, setN, List.mem_map]
  constructor
  · rintro ⟨j, hj, e⟩
    rw [List.mem_filter] at hj
    rw [← show j = i by omega]
    exact hj.2
  · intro h
    exact ⟨i, List.mem_filter.2 ⟨List.mem_range.2 hi, h⟩, rfl⟩
theorem wsum_one (ws : List Int) (i : Nat) (h : i < ws.length) : wsum ws (2 ^ i) = ws[i] := by
  have := wsum_add ws i 0 h (by simp)
  rw [Nat.zero_add, wsum_zero] at this
  omega
theorem full_bit (n i : Nat) (h : i < n) : bitB (2 ^ n - 1) i = true := by
  rw [bitB_test, Nat.testBit_two_pow_sub_one, decide_eq_true h]
theorem wsum_out (ws : List Int) (m i : Nat) (h : i < ws.length) (hb : bitB m i = true) : wsum ws (m - 2 ^ i) = wsum ws m - ws[i] := by
  rw [bitB_test] at hb
  have h0 := sub_pow_test m i i hb
  have h1 : (m - 2 ^ i) / 2 ^ i % 2 = 0 := by
    rw [Nat.testBit_eq_decide_div_mod_eq] at h0
    simp at h0
    omega
  have hge : 2 ^ i ≤ m := by
    rcases Nat.lt_or_ge m (2 ^ i) with h2 | h2
    · rw [Nat.testBit_lt_two_pow h2] at hb; cases hb
    · exact h2
  have := wsum_add ws i (m - 2 ^ i) h h1
  rw [Nat.sub_add_cancel hge] at this
  omega
theorem getD_lt (ws : List Int) (i : Nat) (h : i < ws.length) : ws.getD i 0 = ws[i] := by rw [List.getD_eq_getElem?_getD, List.getElem?_eq_getElem h, Option.getD_some]
def aloneB (q : Int) (ws : List Int) (i : Nat) : Bool := decide (q ≤ ws.getD i 0)
def vetoB (q : Int) (ws : List Int) (i : Nat) : Bool := decide (ws.sum - ws.getD i 0 < q)
theorem wins_one {q : Int} {ws : List Int} (i : Nat) (h : i < ws.length) (hp : 2 ^ i < 2 ^ ws.length) : (winsL q ws).getD (2 ^ i) false = aloneB q ws i := by
  rw [winsL_getD q ws _ hp, wsum_one ws i h, aloneB, getD_lt ws i h]
theorem wins_out {q : Int} {ws : List Int} (i : Nat) (h : i < ws.length) : (winsL q ws).getD (2 ^ ws.length - 1 - 2 ^ i) false = !(vetoB q ws i) := by
  have hp := Nat.two_pow_pos ws.length
  rw [winsL_getD q ws (2 ^ ws.length - 1 - 2 ^ i) (Nat.lt_of_le_of_lt (Nat.sub_le _ _) (by omega)), wsum_out ws _ i h (full_bit _ _ h), wsum_full, vetoB, getD_lt ws i h, Bool.eq_iff_iff]
  simp
theorem spec_l1In.v (a b c : Int) : spec_l1In.f a b c = some (decide (b ≤ a) && decide (a ≤ c)) := by
  unfold spec_l1In.f
  by_cases h : b ≤ a
  · rw [if_pos h]; simp [h]
  · rw [if_neg h]; simp [h]
theorem spec_voSum.ev_l (l : List Int) (hl : l.length ≤ 9223372036854775807) : ∀ (d i : Nat) (s : Int), i + d = l.length → Ev (fun k => spec_voSum.l0 k s l (l.length : Int) (i : Int)) (wfold (l.drop i) s) := by
  intro d
  induction d with
  | zero =>
    intro i s h
    refine ev_step ?_
    simp only [spec_voSum.l0]
    rw [ev_neg (by omega), ev_now, List.drop_of_length_le (by omega)]
    rfl
  | succ d ih =>
    intro i s h
    refine ev_step ?_
    simp only [spec_voSum.l0]
    have hi : i < l.length := by omega
    rw [ev_pos (by omega), ev_pos (by omega), ev_pos (by omega), w64i (n := l.length) (by omega) (by omega) hl, rd_lt l i hi, wfold_take l i hi]
    exact ih (i + 1) _ (by omega)
theorem spec_voSum.ev (l : List Int) (hl : l.length ≤ 9223372036854775807) : Ev (fun k => spec_voSum.f k l) (wfold l 0) := spec_voSum.ev_l l hl l.length 0 0 (by omega)
theorem spec_l1All.ev_l (l : List Int) (lo hi : Int) (hl : l.length ≤ 9223372036854775807) : ∀ (d i : Nat), i + d = l.length → Ev (fun k => spec_l1All.l0 k lo hi l (l.length : Int) (i : Int)) ((l.drop i).all fun x => decide (lo ≤ x) && decide (x ≤ hi)) := by
  intro d
  induction d with
  | zero =>
    intro i h
    refine ev_step ?_
    simp only [spec_l1All.l0]
    rw [ev_neg (by omega), ev_now, List.drop_of_length_le (by omega)]
    rfl
  | succ d ih =>
    intro i h
    refine ev_step ?_
    simp only [spec_l1All.l0]
    have hi' : i < l.length := by omega
    rw [ev_pos (by omega), ev_pos (by omega), ev_pos (by omega), w64i (n := l.length) (by omega) (by omega) hl, rd_lt l i hi', List.drop_eq_getElem_cons hi', List.all_cons, ev_bind (ev_of (spec_l1In.v _ _ _))]
    cases hb : (decide (lo ≤ l[i]) && decide (l[i] ≤ hi)) with
    | true =>
      rw [ev_pos rfl, Bool.true_and]
      exact ih (i + 1) (by omega)
    | false =>
      rw [ev_neg (by decide), ev_now]
      rfl
theorem spec_l1All.ev (l : List Int) (lo hi : Int) (hl : l.length ≤ 9223372036854775807) : Ev (fun k => spec_l1All.f k l lo hi) (l.all fun x => decide (lo ≤ x) && decide (x ≤ hi)) := spec_l1All.ev_l l lo hi hl l.length 0 (by omega)
theorem spec_voGood.ev (q : Int) (l : List Int) (hl : l.length ≤ 9223372036854775807) : Ev (fun k => spec_voGood.f k q l) (goodB q l) := by
  simp only [spec_voGood.f]
  rw [ev_bind (ev_of (spec_l1In.v _ _ _))]
  unfold goodB
  by_cases h1 : 1 ≤ (l.length : Int) ∧ (l.length : Int) ≤ 9
  · rw [ev_pos (by simp [h1]), ev_bind (spec_l1All.ev l 0 1000 hl)]
    refine ev_step ?_
    simp only [spec_voGood.j0]
    cases hb : (l.all fun x => decide (0 ≤ x) && decide (x ≤ 1000)) with
    | true =>
      rw [ev_neg (by simp), ev_bind (spec_voSum.ev l hl), ev_bind (ev_of (spec_l1In.v _ _ _)), ev_now, wfold_w l (by omega) hb]
      have e1 : 1 ≤ l.length := by omega
      have e2 : l.length ≤ 9 := by omega
      simp [e1, e2]
    | false =>
      rw [ev_pos (by simp), ev_now]
      simp
  · rw [ev_neg (by simpa using h1)]
    refine ev_step ?_
    simp only [spec_voGood.j0]
    rw [ev_pos (by simp), ev_now]
    have : ¬ (1 ≤ l.length ∧ l.length ≤ 9) := by omega
    by_cases e1 : 1 ≤ l.length
    · have e2 : ¬ l.length ≤ 9 := by omega
      simp [e2]
    · simp [e1]
def dicB (q : Int) (ws : List Int) (i : Nat) : Bool := aloneB q ws i && vetoB q ws i
def firstI (p : Nat → Bool) : Nat → Nat → Int × Bool
  | 0, _ => (0, false)
  | d + 1, i => if p i = true then ((i : Int), true) else firstI p d (i + 1)
def dicV (q : Int) (ws : List Int) : Int × Bool := if goodB q ws = true then firstI (dicB q ws) ws.length 0 else (0, false)
theorem impl_DictatorOf.ev_l {q : Int} {ws : List Int} (hc : GoodC q ws) : ∀ (d i : Nat), i + d = ws.length → Ev (fun k => impl_DictatorOf.l0 k (ws.length : Int) (i : Int) (ws.length : Int) (winsL q ws)) (firstI (dicB q ws) d i) := by
  have h9 := hc.l9
  have hp := hc.pow
  have hwl := winsL_length q ws
  have hall : impl_votes_all.f (ws.length : Int) (winsL q ws) = some ((2 ^ ws.length - 1 : Nat) : Int) := by
    simp only [impl_votes_all.f]
    rw [if_pos (by omega), shl_one ws.length (by omega), w64 (by omega) (by omega)]
    congr 1
    omega
  intro d
  induction d with
  | zero =>
    intro i h
    refine ev_step ?_
    simp only [impl_DictatorOf.l0]
    rw [ev_neg (by omega), ev_now]
    rfl
  | succ d ih =>
    intro i h
    refine ev_step ?_
    simp only [impl_DictatorOf.l0]
    have hi : i < ws.length := by omega
    have hpi : 2 ^ i < 2 ^ ws.length := Nat.pow_lt_pow_right (by omega) hi
    have hih := ih (i + 1) (by omega)
    have h1 := wins_one (q := q) i hi hpi
    have h2 := wins_out (q := q) i hi
    have hpi0 := Nat.two_pow_pos i
    rw [show ((i + 1 : Nat) : Int) = (i : Int) + 1 by omega] at hih
    show Ev _ (if dicB q ws i = true then ((i : Int), true) else firstI (dicB q ws) d (i + 1))
    rw [ev_pos (by omega), ev_pos (by omega), shl_one i (by omega), ev_pos (by omega), ev_pos (by omega), rdOf_nat, h1, w64i (n := ws.length) (by omega) (by omega) (by omega), dicB]
    cases ha : aloneB q ws i with
    | false =>
      rw [ev_neg (by decide), Bool.false_and, if_neg (by decide)]
      exact hih
    | true =>
      rw [ev_pos rfl, ev_bind (ev_of hall), andNot_pow _ i (by omega) (by omega) (full_bit _ _ hi), ev_pos (Int.natCast_nonneg _), ev_pos (Int.ofNat_lt.2 (by rw [hwl]; exact Nat.lt_of_le_of_lt (Nat.sub_le _ _) (by omega))), rdOf_nat, h2, Bool.true_and]
      cases hv : vetoB q ws i with
      | true => rw [ev_neg (by decide), ev_now, if_pos rfl]
      | false =>
        rw [ev_pos (by decide), if_neg (by decide)]
        exact hih
theorem impl_DictatorOf.ev (q : Int) (ws : List Int) (hl : ws.length ≤ 9223372036854775807) : Ev (fun k => impl_DictatorOf.f k q ws) (dicV q ws) := by
  simp only [impl_DictatorOf.f]
  rw [ev_bind (impl_IsCommittee.ev q ws hl)]
  unfold dicV
  cases hg : goodB q ws with
  | false => rw [ev_neg (by decide), ev_now, if_neg (by decide)]
  | true =>
    have hc := (good_iff q ws).1 hg
    rw [ev_pos rfl, if_pos rfl, ev_bind (impl_Committee_votes.ev q ws hc.l9 hc.wb)]
    exact impl_DictatorOf.ev_l hc ws.length 0 (by omega)
theorem spec_DictatorOf.ev_l {q : Int} {ws : List Int} (hc : GoodC q ws) : ∀ (d i : Nat), i + d = ws.length → Ev (fun k => spec_DictatorOf.l0 k ws (ws.length : Int) (i : Int) q ws) (firstI (dicB q ws) d i) := by
  have h9 := hc.l9
  have hsum := hc.sum
  have hS := spec_voSum.ev ws (by omega)
  rw [wfold_sum ws 0 (fun x hx => by have := hc.w x hx; omega) (by omega) (by omega), Int.zero_add] at hS
  intro d
  induction d with
  | zero =>
    intro i h
    refine ev_step ?_
    simp only [spec_DictatorOf.l0]
    rw [ev_neg (by omega), ev_now]
    rfl
  | succ d ih =>
    intro i h
    refine ev_step ?_
    simp only [spec_DictatorOf.l0]
    have hi : i < ws.length := by omega
    have hw := hc.w ws[i] (List.getElem_mem hi)
    have hih := ih (i + 1) (by omega)
    rw [show ((i + 1 : Nat) : Int) = (i : Int) + 1 by omega] at hih
    show Ev _ (if dicB q ws i = true then ((i : Int), true) else firstI (dicB q ws) d (i + 1))
    rw [ev_pos (by omega), ev_pos (by omega), ev_pos (by omega), rd_lt ws i hi, w64i (n := ws.length) (by omega) (by omega) (by omega), dicB, aloneB, vetoB, getD_lt ws i hi]
    by_cases c : ws[i] ≥ q
    · rw [ev_pos c, ev_bind hS, w64 (x := ws.sum - ws[i]) (by omega) (by omega), decide_eq_true (show q ≤ ws[i] from c), Bool.true_and]
      by_cases c2 : ws.sum - ws[i] < q
      · rw [ev_pos c2, ev_now, if_pos (decide_eq_true c2)]
      · rw [ev_neg c2, if_neg (by simpa using c2)]
        exact hih
    · rw [ev_neg c, decide_eq_false (show ¬ q ≤ ws[i] from c), Bool.false_and, if_neg (by decide)]
      exact hih
theorem spec_DictatorOf.ev (q : Int) (ws : List Int) (hl : ws.length ≤ 9223372036854775807) : Ev (fun k => spec_DictatorOf.f k q ws) (dicV q ws) := by
  simp only [spec_DictatorOf.f]
  rw [ev_bind (spec_voGood.ev q ws hl)]
  unfold dicV
  cases hg : goodB q ws with
  | false => rw [ev_neg (by decide), ev_now, if_neg (by decide)]
  | true =>
    have hc := (good_iff q ws).1 hg
    rw [ev_pos rfl, if_pos rfl]
    exact spec_DictatorOf.ev_l hc ws.length 0 (by omega)
def ByteL (l : List Int) : Prop := l.length ≤ 1048576 ∧ ∀ x ∈ l, 0 ≤ x ∧ x ≤ 255
theorem ByteL.of {l : List Int} (h : OkBL l) (hl : l.length ≤ 1048576) : ByteL l := by
  refine ⟨hl, fun x hx => ?_⟩
  have h := h.2 x hx
  simp [OkB, Lit.wf, IntKind.min, IntKind.max, IntKind.bits, IntKind.signed] at h
  omega
theorem OkI.of {n : Int} (h0 : -9223372036854775808 ≤ n) (h1 : n ≤ 9223372036854775807) : OkI n := by
  simp [OkI, Lit.wf, IntKind.min, IntKind.max, IntKind.bits, IntKind.signed]
  omega
theorem wrap64_ok (x : Int) : OkI (wrap64 x) := by refine OkI.of ?_ ?_ <;> unfold wrap64 <;> omega
theorem and255 (x : Int) : 0 ≤ Go.bits .and .u64 (IntKind.u64.wrap x / 1099511627776) 255 ∧ Go.bits .and .u64 (IntKind.u64.wrap x / 1099511627776) 255 ≤ 255 := by
  have hx : 0 ≤ IntKind.u64.wrap x ∧ IntKind.u64.wrap x < 18446744073709551616 := by rw [IntKind.wrap_u64]; omega
  obtain ⟨n, hn⟩ : ∃ n : Nat, IntKind.u64.wrap x / 1099511627776 = (n : Int) := ⟨(IntKind.u64.wrap x / 1099511627776).toNat, by omega⟩
  have hb : n < 2 ^ 62 := by omega
  rw [hn, show (255 : Int) = ((255 : Nat) : Int) by rfl, (Go.bits_nat .u64 62 (by decide) (fun m h0 h1 => by rw [IntKind.wrap_u64]; omega) n 255 hb (by decide)).1]
  have := Nat.and_le_right (n := n) (m := 255)
  omega
theorem spec_l1Cur_next.ex {l : List Int} (hl : ByteL l) (p s : Int) (h0 : 0 ≤ p) (h1 : p ≤ 1000000) : ∃ b s', spec_l1Cur_next.f l p s = some (b, p + 1, s') ∧ 0 ≤ b ∧ b ≤ 255 := by
  have hll := hl.1
  unfold spec_l1Cur_next.f
  rw [w64 (x := p + 1) (by omega) (by omega)]
  by_cases c : p < (l.length : Int)
  · obtain ⟨i, rfl⟩ : ∃ i : Nat, p = (i : Int) := ⟨p.toNat, by omega⟩
    have hi : i < l.length := by omega
    have hb := hl.2 l[i] (List.getElem_mem hi)
    rw [if_pos c, if_pos h0, if_pos (by omega), rd_lt l i hi, w64 (by omega) (by omega)]
    exact ⟨_, _, rfl, hb⟩
  · rw [if_neg c, if_neg (by omega)]
    have := and255 ((IntKind.u64.wrap (IntKind.u64.wrap (s * 6364136223846793005))) + 1442695040888963407)
    rw [w64 (x := Go.bits .and .u64 _ 255) (by omega) (by omega)]
    exact ⟨_, _, rfl, this⟩
theorem spec_l1Cur_pick.ex {l : List Int} (hl : ByteL l) (p s a : Int) (h0 : 0 ≤ p) (h1 : p ≤ 900000) : ∃ x p' s', spec_l1Cur_pick.f l p s a = some (x, p', s') ∧ 0 ≤ x ∧ x < max a 1 ∧ True ∧ p ≤ p' ∧ p' ≤ p + 2 := by
  unfold spec_l1Cur_pick.f
  by_cases c : a ≤ 1
  · rw [if_pos c]
    exact ⟨_, _, _, rfl, by omega, by omega, trivial, by omega, by omega⟩
  · obtain ⟨b, s1, e, hb0, hb1⟩ := spec_l1Cur_next.ex hl p s h0 (by omega)
    rw [if_neg c, e, Option.bind_some]
    dsimp only
    by_cases c2 : a > 200
    · obtain ⟨b2, s2, e2, hc0, hc1⟩ := spec_l1Cur_next.ex hl (p + 1) s1 (by omega) (by omega)
      rw [if_pos c2, e2, Option.bind_some, if_neg (by omega)]
      dsimp only
      rw [w64 (x := b * 256) (by omega) (by omega), w64 (by omega) (by omega)]
      have h2 := Int.tmod_lt_of_pos (b * 256 + b2) (show 0 < a by omega)
      have h3 := Int.tmod_nonneg a (show 0 ≤ b * 256 + b2 by omega)
      exact ⟨_, _, _, rfl, h3, by omega, trivial, by omega, by omega⟩
    · rw [if_neg c2, if_neg (by omega)]
      have h2 := Int.tmod_lt_of_pos b (show 0 < a by omega)
      have h3 := Int.tmod_nonneg a hb0
      exact ⟨_, _, _, rfl, h3, by omega, trivial, by omega, by omega⟩
theorem spec_l1Cur_one.ex {l : List Int} (hl : ByteL l) (p s a : Int) (h0 : 0 ≤ p) (h1 : p ≤ 900000) : ∃ (b : Bool) (p' s' : Int), spec_l1Cur_one.f l p s a = some (b, p', s') ∧ p ≤ p' ∧ p' ≤ p + 2 := by
  obtain ⟨x, p1, s1, e, _, _, _, h4, h5⟩ := spec_l1Cur_pick.ex hl p s a h0 h1
  unfold spec_l1Cur_one.f
  rw [e, Option.bind_some]
  exact ⟨_, _, _, rfl, h4, h5⟩
theorem spec_l1Cur_among.ex {l : List Int} (hl : ByteL l) (p s : Int) (L : List Int) (hL : 1 ≤ L.length) (h0 : 0 ≤ p) (h1 : p ≤ 900000) : ∃ (x p' s' : Int), spec_l1Cur_among.f l p s L = some (x, p', s') ∧ x ∈ L ∧ p ≤ p' ∧ p' ≤ p + 2 := by
  obtain ⟨x, p1, s1, e, h2, h3, _, h4, h5⟩ := spec_l1Cur_pick.ex hl p s (L.length : Int) h0 h1
  obtain ⟨i, rfl⟩ : ∃ i : Nat, x = (i : Int) := ⟨x.toNat, by omega⟩
  have hi : i < L.length := by omega
  unfold spec_l1Cur_among.f
  rw [e, Option.bind_some]
  dsimp only
  rw [if_pos h2, if_pos (by omega), rd_lt L i hi]
  exact ⟨_, _, _, rfl, List.getElem_mem hi, h4, h5⟩
theorem wfold_ok (l : List Int) : ∀ s, OkI s → OkI (wfold l s) := by
  induction l with
  | nil => exact fun s h => h
  | cons x l ih => exact fun s _ => ih _ (wrap64_ok _)
/-- A committee's numbers, as draws make them: a whole number and a few of them. -/
structure DrawnC (q : Int) (ws : List Int) : Prop where
  l10 : ws.length ≤ 10
  q : OkI q
  w : ∀ x ∈ ws, OkI x
theorem ok_set {ws : List Int} (h : ∀ x ∈ ws, OkI x) (i : Nat) {v : Int} (hv : OkI v) : ∀ x ∈ ws.set i v, OkI x := fun x hx => by
  rcases List.mem_or_eq_of_mem_set hx with h1 | rfl
  · exact h x h1
  · exact hv
theorem ok_snoc {ws : List Int} (h : ∀ x ∈ ws, OkI x) {v : Int} (hv : OkI v) : ∀ x ∈ ws ++ [v], OkI x := fun x hx => by
  rcases List.mem_append.1 hx with h1 | h1
  · exact h x h1
  · rw [List.mem_singleton.1 h1]; exact hv
theorem spec_l1Cur_sureCommittee.ex_j1 {l : List Int} (hl : ByteL l) (p s q : Int) (ws : List Int) (hw : ∀ x ∈ ws, OkI x) (hn : 1 ≤ ws.length ∧ ws.length ≤ 9) (h0 : 0 ≤ p) (h1 : p ≤ 890000) : ∃ (q' : Int) (ws' : List Int) (p' s' : Int), Ev (fun k => spec_l1Cur_sureCommittee.j1 k l p s q ws) (q', ws', p', s') ∧ OkI q' ∧ (∀ x ∈ ws', OkI x) ∧ (1 ≤ ws'.length ∧ ws'.length ≤ 9) ∧ p ≤ p' ∧ p' ≤ p + 4 := by
  obtain ⟨b, p1, s1, e1, h2, h3⟩ := spec_l1Cur_one.ex hl p s 2 h0 (by omega)
  obtain ⟨x, p2, s2, e2, h4, _, h5, h6, h7⟩ := spec_l1Cur_pick.ex hl p1 s1 (wfold ws 0) (by omega) (by omega)
  have hs := spec_voSum.ev ws (by omega)
  cases b with
  | true =>
    refine ⟨wrap64 (1 + x), ws, p2, s2, ev_step ?_, wrap64_ok _, hw, hn, by omega, by omega⟩
    simp only [spec_l1Cur_sureCommittee.j1]
    rw [ev_bind hs, ev_bind (ev_of e1), ev_pos rfl, ev_bind (ev_of e2), ev_now]
  | false =>
    refine ⟨wrap64 (wrap64 (Int.tdiv (wfold ws 0) 2) + 1), ws, p1, s1, ev_step ?_, wrap64_ok _, hw, hn, by omega, by omega⟩
    simp only [spec_l1Cur_sureCommittee.j1]
    rw [ev_bind hs, ev_bind (ev_of e1), ev_neg (by simp), ev_now]
theorem spec_l1Cur_sureCommittee.ex_l0 {l : List Int} (hl : ByteL l) (q : Int) : ∀ (d : Nat) (p s : Int) (ws : List Int), (∀ x ∈ ws, OkI x) → ws.length + d ≤ 9 → 1 ≤ ws.length + d → 0 ≤ p → p + 2 * d ≤ 880000 → ∃ (q' : Int) (ws' : List Int) (p' s' : Int), Ev (fun k => spec_l1Cur_sureCommittee.l0 k (d : Int) l p s q ws) (q', ws', p', s') ∧ OkI q' ∧ (∀ x ∈ ws', OkI x) ∧ (1 ≤ ws'.length ∧ ws'.length ≤ 9) ∧ p ≤ p' ∧ p' ≤ p + 2 * d + 4 := by
  intro d
  induction d with
  | zero =>
    intro p s ws hw h9 hn h0 h1
    have hs := spec_voSum.ev ws (by omega)
    by_cases c : wfold ws 0 = 0
    · obtain ⟨q', ws', p', s', hj, r⟩ := spec_l1Cur_sureCommittee.ex_j1 hl p s q (ws.set 0 1) (ok_set hw 0 (OkI.of (by decide) (by decide))) (by rw [List.length_set]; omega) h0 (by omega)
      refine ⟨q', ws', p', s', ev_step ?_, r.1, r.2.1, r.2.2.1, r.2.2.2.1, by omega⟩
      simp only [spec_l1Cur_sureCommittee.l0]
      rw [ev_neg (by omega), ev_bind hs, ev_pos c, ev_pos (by omega)]
      exact hj
    · obtain ⟨q', ws', p', s', hj, r⟩ := spec_l1Cur_sureCommittee.ex_j1 hl p s q ws hw (by omega) h0 (by omega)
      refine ⟨q', ws', p', s', ev_step ?_, r.1, r.2.1, r.2.2.1, r.2.2.2.1, by omega⟩
      simp only [spec_l1Cur_sureCommittee.l0]
      rw [ev_neg (by omega), ev_bind hs, ev_neg c]
      exact hj
  | succ d ih =>
    intro p s ws hw h9 hn h0 h1
    obtain ⟨x, p1, s1, e, h2, h3, h5, h6, h7⟩ := spec_l1Cur_pick.ex hl p s 7 h0 (by omega)
    obtain ⟨q', ws', p', s', hj, r⟩ := ih p1 s1 (ws ++ [x]) (ok_snoc hw (OkI.of (by omega) (by omega))) (by rw [List.length_append, List.length_singleton]; omega) (by rw [List.length_append, List.length_singleton]; omega) (by omega) (by omega)
    refine ⟨q', ws', p', s', ev_step ?_, r.1, r.2.1, r.2.2.1, by omega, by omega⟩
    simp only [spec_l1Cur_sureCommittee.l0]
    rw [ev_pos (by omega), ev_bind (ev_of e), ev_pos (by omega), show wrap64 (((d + 1 : Nat) : Int) - 1) = (d : Int) by rw [w64 (by omega) (by omega)]; omega]
    exact hj
theorem spec_l1Cur_sureCommittee.ex {l : List Int} (hl : ByteL l) (p s a : Int) (ha : 1 ≤ a ∧ a ≤ 9) (h0 : 0 ≤ p) (h1 : p ≤ 800000) : ∃ (q' : Int) (ws' : List Int) (p' s' : Int), Ev (fun k => spec_l1Cur_sureCommittee.f k l p s a) (q', ws', p', s') ∧ OkI q' ∧ (∀ x ∈ ws', OkI x) ∧ (1 ≤ ws'.length ∧ ws'.length ≤ 9) ∧ p ≤ p' ∧ p' ≤ p + 30 := by
  obtain ⟨x, p1, s1, e, h2, h3, h5, h6, h7⟩ := spec_l1Cur_pick.ex hl p s a h0 (by omega)
  obtain ⟨q', ws', p', s', hj, r⟩ := spec_l1Cur_sureCommittee.ex_l0 hl 0 (x + 1).toNat p1 s1 [] (by simp) (by simp; omega) (by simp; omega) (by omega) (by omega)
  refine ⟨q', ws', p', s', ?_, r.1, r.2.1, r.2.2.1, by omega, by omega⟩
  simp only [spec_l1Cur_sureCommittee.f]
  rw [ev_bind (ev_of e), show wrap64 (1 + x) = ((x + 1).toNat : Int) by rw [w64 (by omega) (by omega)]; omega]
  exact hj
theorem spec_l1Cur_committee.ex_l0 {l : List Int} (hl : ByteL l) (q : Int) (hq : OkI q) : ∀ (d : Nat) (p s : Int) (ws : List Int), (∀ x ∈ ws, OkI x) → ws.length + d = 10 → 0 ≤ p → p + 2 * d ≤ 800000 → ∃ (ws' : List Int) (p' s' : Int), Ev (fun k => spec_l1Cur_committee.l0 k l p s q ws) (q, ws', p', s') ∧ (∀ x ∈ ws', OkI x) ∧ ws'.length ≤ 10 ∧ p ≤ p' ∧ p' ≤ p + 2 * d + 2 := by
  intro d
  induction d with
  | zero =>
    intro p s ws hw h9 h0 h1
    obtain ⟨x, p1, s1, e, h2, h3, h5, h6, h7⟩ := spec_l1Cur_pick.ex hl p s 2 h0 (by omega)
    refine ⟨ws, p1, s1, ev_step ?_, hw, by omega, by omega, by omega⟩
    simp only [spec_l1Cur_committee.l0]
    rw [ev_bind (ev_of e), w64 (by omega) (by omega), ev_neg (by dsimp only; omega), ev_now]
  | succ d ih =>
    intro p s ws hw h9 h0 h1
    obtain ⟨x, p1, s1, e, h2, h3, h5, h6, h7⟩ := spec_l1Cur_pick.ex hl p s 2 h0 (by omega)
    by_cases c : (ws.length : Int) < 9 + x
    · obtain ⟨ws', p', s', hj, r⟩ := ih p1 s1 (ws ++ [1]) (ok_snoc hw (OkI.of (by decide) (by decide))) (by rw [List.length_append, List.length_singleton]; omega) (by omega) (by omega)
      refine ⟨ws', p', s', ev_step ?_, r.1, r.2.1, by omega, by omega⟩
      simp only [spec_l1Cur_committee.l0]
      rw [ev_bind (ev_of e), w64 (by omega) (by omega), ev_pos (by exact c), ev_pos (by omega)]
      exact hj
    · refine ⟨ws, p1, s1, ev_step ?_, hw, by omega, by omega, by omega⟩
      simp only [spec_l1Cur_committee.l0]
      rw [ev_bind (ev_of e), w64 (by omega) (by omega), ev_neg (by exact c), ev_now]
theorem spec_l1Cur_committee.ex {l : List Int} (hl : ByteL l) (p s a : Int) (ha : 1 ≤ a ∧ a ≤ 9) (h0 : 0 ≤ p) (h1 : p ≤ 700000) : ∃ (q' : Int) (ws' : List Int) (p' s' : Int), Ev (fun k => spec_l1Cur_committee.f k l p s a) (q', ws', p', s') ∧ DrawnC q' ws' ∧ p ≤ p' ∧ p' ≤ p + 100 := by
  obtain ⟨q, ws, p1, s1, e, hq, hw, hn, h2, h3⟩ := spec_l1Cur_sureCommittee.ex hl p s a ha h0 (by omega)
  obtain ⟨x, p2, s2, e2, h4, h5, _, h6, h7⟩ := spec_l1Cur_pick.ex hl p1 s1 16 (by omega) (by omega)
  have hs := spec_voSum.ev ws (by omega)
  have hso := wfold_ok ws 0 (OkI.of (by decide) (by decide))
  by_cases c0 : x = 0
  · obtain ⟨y, p3, s3, e3, hy, h8, h9⟩ := spec_l1Cur_among.ex hl p2 s2 ([(-1), 0, 1, wfold ws 0, wrap64 (wfold ws 0 + 1), 4611686018427387904] : List Int) (by simp) (by omega) (by omega)
    have hyo : OkI y := by
      simp only [List.mem_cons, List.not_mem_nil, or_false] at hy
      rcases hy with rfl | rfl | rfl | rfl | rfl | rfl
      · exact OkI.of (by decide) (by decide)
      · exact OkI.of (by decide) (by decide)
      · exact OkI.of (by decide) (by decide)
      · exact hso
      · exact wrap64_ok _
      · exact OkI.of (by decide) (by decide)
    refine ⟨y, ws, p3, s3, ?_, ⟨by omega, hyo, hw⟩, by omega, by omega⟩
    simp only [spec_l1Cur_committee.f]
    rw [ev_bind e, ev_bind (ev_of e2), ev_pos c0, ev_bind hs, ev_bind hs, ev_bind (ev_of e3), ev_now]
  by_cases c1 : x = 1
  · obtain ⟨y, p3, s3, e3, hy, h8, h9⟩ := spec_l1Cur_among.ex hl p2 s2 ([(-1), 0, 1000, 1001, 4611686018427387904] : List Int) (by simp) (by omega) (by omega)
    have hyo : OkI y := by
      simp only [List.mem_cons, List.not_mem_nil, or_false] at hy
      rcases hy with rfl | rfl | rfl | rfl | rfl <;> exact OkI.of (by decide) (by decide)
    refine ⟨q, ws.set 0 y, p3, s3, ?_, ⟨by rw [List.length_set]; omega, hq, ok_set hw 0 hyo⟩, by omega, by omega⟩
    simp only [spec_l1Cur_committee.f]
    rw [ev_bind e, ev_bind (ev_of e2), ev_neg c0, ev_pos c1, ev_bind (ev_of e3), ev_pos (by dsimp only; omega), ev_now]
    rfl
  by_cases c2 : x = 2
  · obtain ⟨ws', p', s', hj, r⟩ := spec_l1Cur_committee.ex_l0 hl q hq (10 - ws.length) p2 s2 ws hw (by omega) (by omega) (by omega)
    refine ⟨q, ws', p', s', ?_, ⟨r.2.1, hq, r.1⟩, by omega, by omega⟩
    simp only [spec_l1Cur_committee.f]
    rw [ev_bind e, ev_bind (ev_of e2), ev_neg c0, ev_neg c1, ev_pos c2]
    exact hj
  by_cases c3 : x = 3
  · refine ⟨1, [], p2, s2, ?_, ⟨by simp, OkI.of (by decide) (by decide), by simp⟩, by omega, by omega⟩
    simp only [spec_l1Cur_committee.f]
    rw [ev_bind e, ev_bind (ev_of e2), ev_neg c0, ev_neg c1, ev_neg c2, ev_pos c3, ev_now]
  · refine ⟨q, ws, p2, s2, ?_, ⟨by omega, hq, hw⟩, by omega, by omega⟩
    simp only [spec_l1Cur_committee.f]
    rw [ev_bind e, ev_bind (ev_of e2), ev_neg c0, ev_neg c1, ev_neg c2, ev_neg c3, ev_now]
theorem spec_DrawDictatorOf.ex {l : List Int} (hl : ByteL l) : ∃ (q : Int) (ws : List Int), Ev (fun k => spec_DrawDictatorOf.f k l) (q, ws) ∧ DrawnC q ws := by
  obtain ⟨q, ws, p, t, e, h, h2, h3⟩ := spec_l1Cur_committee.ex hl 0 0 4 (by decide) (by decide) (by decide)
  obtain ⟨b, p1, s1, e1, _⟩ := spec_l1Cur_one.ex hl p t 2 (by omega) (by omega)
  cases b with
  | false =>
    refine ⟨q, ws, ?_, h⟩
    simp only [spec_DrawDictatorOf.f]
    rw [ev_bind e, ev_bind (ev_of e1), ev_neg (by simp), ev_now]
  | true =>
    by_cases c : (ws.length : Int) > 0
    · refine ⟨20, ws.set 0 20, ?_, ⟨by rw [List.length_set]; exact h.l10, OkI.of (by decide) (by decide), ok_set h.w 0 (OkI.of (by decide) (by decide))⟩⟩
      simp only [spec_DrawDictatorOf.f]
      rw [ev_bind e, ev_bind (ev_of e1), ev_pos rfl, ev_pos c, ev_pos (by exact c), ev_now]
      rfl
    · refine ⟨q, ws, ?_, h⟩
      simp only [spec_DrawDictatorOf.f]
      rw [ev_bind e, ev_bind (ev_of e1), ev_pos rfl, ev_neg c, ev_now]
theorem spec_l1Cur_someSet.ex_l0 {l : List Int} (hl : ByteL l) (n : Nat) (hn : n ≤ 10) : ∀ (d i : Nat) (p s : Int) (out : List Int), i + d = n → out.length ≤ i → (∀ x ∈ out, OkI x) → 0 ≤ p → p + 2 * d ≤ 800000 → ∃ (out' : List Int) (p' s' : Int), Ev (fun k => spec_l1Cur_someSet.l0 k (n : Int) out (i : Int) l p s) (out', p', s') ∧ (∀ x ∈ out', OkI x) ∧ out'.length ≤ 11 ∧ p ≤ p' ∧ p' ≤ p + 2 * d + 4 := by
  intro d
  induction d with
  | zero =>
    intro i p s out h ho hw h0 h1
    obtain ⟨b, p1, s1, e1, h2, h3⟩ := spec_l1Cur_one.ex hl p s 16 h0 (by omega)
    cases b with
    | true =>
      obtain ⟨y, p2, s2, e2, hy, h8, h9⟩ := spec_l1Cur_among.ex hl p1 s1 ([(-1), 0, (n : Int), 4611686018427387904] : List Int) (by simp) (by omega) (by omega)
      have hyo : OkI y := by
        simp only [List.mem_cons, List.not_mem_nil, or_false] at hy
        rcases hy with rfl | rfl | rfl | rfl <;> exact OkI.of (by omega) (by omega)
      refine ⟨out ++ [y], p2, s2, ev_step ?_, ok_snoc hw hyo, by rw [List.length_append, List.length_singleton]; omega, by omega, by omega⟩
      simp only [spec_l1Cur_someSet.l0]
      rw [ev_neg (by omega), ev_bind (ev_of e1), ev_pos rfl, ev_bind (ev_of e2), ev_pos (by omega), ev_now]
    | false =>
      refine ⟨out, p1, s1, ev_step ?_, hw, by omega, by omega, by omega⟩
      simp only [spec_l1Cur_someSet.l0]
      rw [ev_neg (by omega), ev_bind (ev_of e1), ev_neg (by simp), ev_now]
  | succ d ih =>
    intro i p s out h ho hw h0 h1
    obtain ⟨b, p1, s1, e1, h2, h3⟩ := spec_l1Cur_one.ex hl p s 2 h0 (by omega)
    have ei : wrap64 ((i : Int) + 1) = ((i + 1 : Nat) : Int) := by rw [w64 (by omega) (by omega)]; omega
    cases b with
    | true =>
      obtain ⟨out', p', s', hj, r⟩ := ih (i + 1) p1 s1 (out ++ [(i : Int)]) (by omega) (by rw [List.length_append, List.length_singleton]; omega) (ok_snoc hw (OkI.of (by omega) (by omega))) (by omega) (by omega)
      refine ⟨out', p', s', ev_step ?_, r.1, r.2.1, by omega, by omega⟩
      simp only [spec_l1Cur_someSet.l0]
      rw [ev_pos (by omega), ev_bind (ev_of e1), ev_pos rfl, ev_pos (by omega), ei]
      exact hj
    | false =>
      obtain ⟨out', p', s', hj, r⟩ := ih (i + 1) p1 s1 out (by omega) (by omega) hw (by omega) (by omega)
      refine ⟨out', p', s', ev_step ?_, r.1, r.2.1, by omega, by omega⟩
      simp only [spec_l1Cur_someSet.l0]
      rw [ev_pos (by omega), ev_bind (ev_of e1), ev_neg (by simp), ei]
      exact hj
theorem spec_l1Cur_someSet.ex {l : List Int} (hl : ByteL l) (n : Nat) (hn : n ≤ 10) (p s : Int) (h0 : 0 ≤ p) (h1 : p ≤ 700000) : ∃ (out' : List Int) (p' s' : Int), Ev (fun k => spec_l1Cur_someSet.f k l p s (n : Int)) (out', p', s') ∧ OkL out' ∧ out'.length ≤ 11 ∧ p ≤ p' ∧ p' ≤ p + 30 := by
  obtain ⟨o, p', s', hj, r⟩ := spec_l1Cur_someSet.ex_l0 hl n hn n 0 p s [] (by omega) (by simp) (by simp) h0 (by omega)
  refine ⟨o, p', s', ?_, ⟨Nat.le_trans r.2.1 (by decide), r.1⟩, r.2.1, by omega, by omega⟩
  simp only [spec_l1Cur_someSet.f]
  exact hj
theorem spec_DrawWeightOfSet.ex {l : List Int} (hl : ByteL l) : ∃ (q : Int) (ws s : List Int), Ev (fun k => spec_DrawWeightOfSet.f k l) (q, ws, s) ∧ DrawnC q ws ∧ OkL s ∧ s.length ≤ 11 := by
  obtain ⟨q, ws, p, t, e, h, h2, h3⟩ := spec_l1Cur_committee.ex hl 0 0 6 (by decide) (by decide) (by decide)
  obtain ⟨s, p2, t2, e2, h4, h5, _⟩ := spec_l1Cur_someSet.ex hl ws.length h.l10 p t (by omega) (by omega)
  refine ⟨q, ws, s, ?_, h, h4, h5⟩
  simp only [spec_DrawWeightOfSet.f]
  rw [ev_bind e, ev_bind e2, ev_now]
theorem spec_DrawIsWinning.ex {l : List Int} (hl : ByteL l) : ∃ (q : Int) (ws s : List Int), Ev (fun k => spec_DrawIsWinning.f k l) (q, ws, s) ∧ DrawnC q ws ∧ OkL s ∧ s.length ≤ 11 := by
  obtain ⟨q, ws, s, e, h⟩ := spec_DrawWeightOfSet.ex hl
  refine ⟨q, ws, s, ?_, h⟩
  simp only [spec_DrawIsWinning.f]
  rw [ev_bind e, ev_now]
def dualC (q : Int) (ws : List Int) : Int × List Int × Bool := if goodB q ws = true then (ws.sum - q + 1, ws, true) else (0, [], false)
theorem impl_DualCommittee.ev (q : Int) (ws : List Int) (hl : ws.length ≤ 9223372036854775807) : Ev (fun k => impl_DualCommittee.f k q ws) (dualC q ws) := by
  simp only [impl_DualCommittee.f]
  rw [ev_bind (impl_IsCommittee.ev q ws hl)]
  unfold dualC
  cases hg : goodB q ws with
  | false => rw [ev_neg (by decide), ev_now, if_neg (by decide)]
  | true =>
    have hc := (good_iff q ws).1 hg
    have h9 := hc.l9
    have hsum := hc.sum
    have h1 := hc.q1
    have h2 := hc.qs
    have hS := impl_sumOf.ev ws hl
    rw [wfold_sum ws 0 (fun x hx => by have := hc.w x hx; omega) (by omega) (by omega), Int.zero_add] at hS
    have hcl : slices_Clone_int_int.f ws = some ws := by
      have : ws.length < 17592186044416 := by omega
      simp [slices_Clone_int_int.f, this]
    rw [ev_pos rfl, if_pos rfl, ev_bind hS, ev_bind (ev_of hcl), ev_now, w64 (x := ws.sum - q) (by omega) (by omega), w64 (by omega) (by omega)]
theorem dual_good {q : Int} {ws : List Int} (hc : GoodC q ws) : goodB (ws.sum - q + 1) ws = true := by
  refine (good_iff _ ws).2 ⟨hc.l1, hc.l9, hc.w, ?_, ?_⟩
  · have := hc.qs; omega
  · have := hc.q1; omega
theorem impl_setOf.ev_l (m : Nat) (hm : m < 2 ^ 62) : ∀ (d i : Nat), i + d = 62 → Ev (fun k => impl_setOf.l0 k (m : Int) (setTo m i) (i : Int)) (setN m) := by
  intro d
  induction d with
  | zero =>
    intro i h
    refine ev_step ?_
    simp only [impl_setOf.l0]
    have e : m / 2 ^ i = 0 := by rw [show i = 62 by omega]; exact Nat.div_eq_of_lt hm
    rw [ev_pos (by omega), shr_nat m i (by omega), e, ev_neg (by omega), ev_now, setTo_done e (by omega)]
  | succ d ih =>
    intro i h
    refine ev_step ?_
    simp only [impl_setOf.l0]
    have hlt : m / 2 ^ i < 2 ^ 62 := Nat.lt_of_le_of_lt (Nat.div_le_self _ _) hm
    have hl := setTo_len m i
    rw [ev_pos (by omega), shr_nat m i (by omega), w64 (by omega) (by omega)]
    by_cases e : m / 2 ^ i = 0
    · rw [ev_neg (by omega), ev_now, setTo_done e (by omega)]
    · rw [ev_pos (Int.natCast_pos.2 (Nat.pos_of_ne_zero e)), and_one _ hlt]
      have := ih (i + 1) (by omega)
      rw [setTo_succ] at this
      by_cases hb : m / 2 ^ i % 2 = 1
      · rw [if_pos (by simp [bitB, hb])] at this
        rw [ev_pos (by rw [hb]; rfl), ev_pos (by omega)]
        exact this
      · rw [if_neg (by simp [bitB]; omega)] at this
        rw [ev_neg (c := ((m / 2 ^ i % 2 : Nat) : Int) = 1) (fun h_ => hb (Int.ofNat_inj.1 h_))]
        exact this
theorem impl_setOf.ev (m : Nat) (hm : m < 2 ^ 62) : Ev (fun k => impl_setOf.f k (m : Int)) (setN m) := impl_setOf.ev_l m hm 62 0 (by omega)
theorem impl_votes_isLeast.ev_l (W : List Bool) (n m : Nat) (hW : W.length = 2 ^ n) (hn : n ≤ 18) (hm : m < 2 ^ n) : ∀ (d i : Nat), i + d = n → Ev (fun k => impl_votes_isLeast.l0 k (m : Int) (n : Int) (i : Int) (n : Int) W) ((List.range' i d).all fun i => !(bitB m i) || !(W.getD (m - 2 ^ i) false)) := by
  have hp : 2 ^ n ≤ 2 ^ 18 := Nat.pow_le_pow_right (by omega) hn
  intro d
  induction d with
  | zero =>
    intro i h
    refine ev_step ?_
    simp only [impl_votes_isLeast.l0]
    rw [ev_neg (by omega), ev_now]
    rfl
  | succ d ih =>
    intro i h
    refine ev_step ?_
    simp only [impl_votes_isLeast.l0]
    have hih := ih (i + 1) (by omega)
    rw [ev_pos (by omega), ev_bind (ev_of (show impl_has.f (m : Int) (i : Int) = some (bitB m i) from impl_has.v m i (by omega) (by omega))), w64 (by omega) (by omega), List.range'_succ, List.all_cons]
    by_cases hb : bitB m i = true
    · have hpi : 2 ^ i ≤ 2 ^ n := Nat.pow_le_pow_right (by omega) (by omega)
      have hsub : m - 2 ^ i < W.length := by rw [hW]; exact Nat.lt_of_le_of_lt (Nat.sub_le _ _) hm
      rw [ev_pos hb, ev_pos (by omega), shl_one i (by omega), andNot_pow m i (by omega) (by omega) hb, ev_pos (Int.natCast_nonneg _), ev_pos (Int.ofNat_lt.2 hsub), rdOf_nat, hb]
      cases hw : W.getD (m - 2 ^ i) false with
      | true =>
        rw [ev_pos rfl, ev_now]
        rfl
      | false =>
        rw [ev_neg (by decide)]
        exact hih
    · rw [ev_neg hb, Bool.eq_false_iff.2 hb]
      exact hih
theorem impl_votes_isLeast.ev (W : List Bool) (n m : Nat) (hW : W.length = 2 ^ n) (hn : n ≤ 18) (hm : m < 2 ^ n) : Ev (fun k => impl_votes_isLeast.f k (n : Int) W (m : Int)) (leastB W n m) := by
  simp only [impl_votes_isLeast.f]
  rw [ev_pos (by omega), ev_pos (by omega), rdOf_nat, leastB]
  cases hw : W.getD m false with
  | true =>
    rw [ev_pos rfl, Bool.true_and, List.range_eq_range']
    exact impl_votes_isLeast.ev_l W n m hW hn hm n 0 (by omega)
  | false =>
    rw [ev_neg (by decide), ev_now]
    rfl
theorem impl_votes_sets.at_l (W : List Bool) (hW : W.length ≤ 1000000) (P : Int → Option Bool) (p : Nat → Bool) (K : Nat) (hP : ∀ m, m < W.length → P (m : Int) = some (p m)) (hS : ∀ k, K ≤ k → ∀ m, m < W.length → impl_setOf.f k (m : Int) = some (setN m)) : ∀ (d i k : Nat), i + d = W.length → K + d < k → impl_votes_sets.l0 k P W (takeL p i) (i : Int) = some (takeL p W.length) := by
  intro d
  induction d with
  | zero =>
    intro i k h hk
    obtain ⟨k, rfl⟩ : ∃ j, k = j + 1 := ⟨k - 1, by omega⟩
    simp only [impl_votes_sets.l0]
    rw [if_neg (by omega), show i = W.length by omega]
  | succ d ih =>
    intro i k h hk
    obtain ⟨k, rfl⟩ : ∃ j, k = j + 1 := ⟨k - 1, by omega⟩
    have hi : i < W.length := by omega
    have hl := takeL_len p i
    have hih := ih (i + 1) k (by omega) (by omega)
    rw [takeL_succ] at hih
    simp only [impl_votes_sets.l0]
    rw [if_pos (by omega), hP i hi, Option.bind_some, w64 (by omega) (by omega), hS k (by omega) i hi, Option.bind_some]
    cases hp : p i with
    | true =>
      rw [hp, if_pos rfl] at hih
      rw [if_pos rfl, if_pos (by omega)]
      exact hih
    | false =>
      rw [hp, if_neg (by decide)] at hih
      rw [if_neg (by decide)]
      exact hih
theorem impl_votes_sets.ev (W : List Bool) (hW : W.length ≤ 1000000) (P : Nat → Int → Option Bool) (p : Nat → Bool) (hP : ∀ m, m < W.length → Ev (fun k => P k (m : Int)) (p m)) : Ev (fun k => impl_votes_sets.g k W (P k)) (Go.Proofs.YtamfpkefnhcngaaGreatS.sortL (takeL p W.length)) := by
  obtain ⟨K1, h1⟩ := ev_all W.length (fun k m => P k (m : Int)) p hP
  obtain ⟨K2, h2⟩ := ev_all W.length (fun k m => impl_setOf.f k (m : Int)) setN (fun m hm => impl_setOf.ev m (by omega))
  refine ⟨max K1 (K2 + W.length + 1), fun k hk => ?_⟩
  have hl := takeL_len p W.length
  simp only [impl_votes_sets.g]
  rw [show impl_votes_sets.l0 k (P k) W [] 0 = some (takeL p W.length) from impl_votes_sets.at_l W hW (P k) p K2 (fun m hm => h1 k (by omega) m hm) h2 W.length 0 k (by omega) (by omega), Option.bind_some, if_pos (by omega)]
theorem impl_votes_least.ev (W : List Bool) (n : Nat) (hW : W.length = 2 ^ n) (hn : n ≤ 18) : Ev (fun k => impl_votes_least.f k (n : Int) W) (Go.Proofs.YtamfpkefnhcngaaGreatS.sortL (takeL (leastB W n) W.length)) := by
  have hp : 2 ^ n ≤ 2 ^ 18 := Nat.pow_le_pow_right (by omega) hn
  exact impl_votes_sets.ev W (by omega) (fun k x => impl_votes_isLeast.f k (n : Int) W x) (leastB W n) (fun m hm => impl_votes_isLeast.ev W n m hW hn (by omega))
theorem sortL_in {P : Nat → Bool} {n N : Nat} (hN : N ≤ 2 ^ n) (hn : n ≤ 62) : ∀ x ∈ Go.Proofs.YtamfpkefnhcngaaGreatS.sortL (takeL P N), x.length ≤ n ∧ ∀ y ∈ x, 0 ≤ y ∧ y < (n : Int) := by
  intro x hx
  obtain ⟨a, ha, _, rfl⟩ := takeL_mem x ((Go.Proofs.YtamfpkefnhcngaaGreatS.sortL_perm _).mem_iff.1 hx)
  rw [setN_to (m := a) (n := n) (by omega) hn]
  exact ⟨setTo_len a n, fun y hy => by have := setTo_in y hy; omega⟩
theorem sortL_len (xs : List (List Int)) : (Go.Proofs.YtamfpkefnhcngaaGreatS.sortL xs).length = xs.length := (Go.Proofs.YtamfpkefnhcngaaGreatS.sortL_perm xs).length_eq
def takeI (P : Nat → Bool) (i : Nat) : List Int := ((List.range i).filter P).map fun (i : Nat) => (i : Int)
theorem takeI_succ (P : Nat → Bool) (i : Nat) : takeI P (i + 1) = if P i = true then takeI P i ++ [(i : Int)] else takeI P i := by
  unfold takeI
  rw [List.range_succ, List.filter_append, List.map_append]
  by_cases h : P i = true
  · rw [if_pos h]
    simp [h]
  · rw [if_neg h]
    simp [h]
theorem takeI_len (P : Nat → Bool) (i : Nat) : (takeI P i).length ≤ i := by
  unfold takeI
  rw [List.length_map]
  have := List.length_filter_le P (List.range i)
  rw [List.length_range] at this
  exact this
theorem takeI_congr {P Q : Nat → Bool} {n : Nat} (h : ∀ i, i < n → P i = Q i) : takeI P n = takeI Q n := by
  unfold takeI
  congr 1
  exact List.filter_congr (fun i hi => h i (List.mem_range.1 hi))
theorem impl_members.ev_l (n : Nat) (hn : n ≤ 1000000) (p : Int → Bool) : ∀ (d i : Nat), i + d = n → Ev (fun k => impl_members.l0 k (fun x => some (p x)) (n : Int) (takeI (fun i => p (i : Int)) i) (i : Int)) (takeI (fun i => p (i : Int)) n) := by
  intro d
  induction d with
  | zero =>
    intro i h
    refine ev_step ?_
    simp only [impl_members.l0]
    rw [ev_neg (by omega), ev_now, show i = n by omega]
  | succ d ih =>
    intro i h
    refine ev_step ?_
    simp only [impl_members.l0, Option.bind_some]
    have hl := takeI_len (fun i => p (i : Int)) i
    have hih := ih (i + 1) (by omega)
    rw [takeI_succ] at hih
    rw [ev_pos (by omega), w64 (by omega) (by omega)]
    by_cases hp : p (i : Int) = true
    · rw [if_pos hp] at hih
      rw [ev_pos hp, ev_pos (by omega)]
      exact hih
    · rw [if_neg hp] at hih
      rw [ev_neg hp]
      exact hih
theorem impl_members.ev (n : Nat) (hn : n ≤ 1000000) (p : Int → Bool) : Ev (fun k => impl_members.g k (n : Int) (fun x => some (p x))) (takeI (fun i => p (i : Int)) n) := impl_members.ev_l n hn p n 0 (by omega)
def idleP (L : List (List Int)) (i : Nat) : Bool := !(L.any fun s => s.contains (i : Int))
theorem impl_votes_idle.ev (W : List Bool) (n : Nat) (hW : W.length = 2 ^ n) (hn : n ≤ 18) : Ev (fun k => impl_votes_idle.f k (n : Int) W) (takeI (idleP (Go.Proofs.YtamfpkefnhcngaaGreatS.sortL (takeL (leastB W n) W.length))) n) := by
  simp only [impl_votes_idle.f]
  rw [ev_pos (by omega), ev_bind (impl_votes_least.ev W n hW hn)]
  exact impl_members.ev n (by omega) _
theorem wsum_mono (ws : List Int) (h : ∀ x ∈ ws, 0 ≤ x) : ∀ m m' : Nat, (∀ i, m.testBit i = true → m'.testBit i = true) → wsum ws m ≤ wsum ws m' := by
  induction ws with
  | nil => intro m m' _; simp [wsum]
  | cons w ws ih =>
    intro m m' hs
    have h1 := ih (fun x hx => h x (List.mem_cons_of_mem _ hx)) (m / 2) (m' / 2) (fun i hi => by
      have := hs (i + 1) (by rw [Nat.testBit_succ]; exact hi)
      rw [Nat.testBit_succ] at this
      exact this)
    have h2 := hs 0
    have h3 := h w List.mem_cons_self
    simp only [Nat.testBit_zero, decide_eq_true_eq] at h2
    simp only [wsum]
    split <;> split <;> omega
theorem wins_mono {q : Int} {ws : List Int} (h : ∀ x ∈ ws, 0 ≤ x) {m m' : Nat} (hm : m < 2 ^ ws.length) (hm' : m' < 2 ^ ws.length) (hs : ∀ i, m.testBit i = true → m'.testBit i = true) (hw : (winsL q ws).getD m false = true) : (winsL q ws).getD m' false = true := by
  rw [winsL_getD _ _ _ hm, decide_eq_true_eq] at hw
  rw [winsL_getD _ _ _ hm', decide_eq_true_eq]
  have := wsum_mono ws h m m' hs
  omega
theorem leastB_bits {W : List Bool} {n m : Nat} (h : leastB W n m = true) : W.getD m false = true ∧ ∀ i, i < n → m.testBit i = true → W.getD (m - 2 ^ i) false = false := by
  simp only [leastB, Bool.and_eq_true, List.all_eq_true, List.mem_range] at h
  refine ⟨h.1, fun i hi hb => ?_⟩
  have := h.2 i hi
  rw [bitB_test, hb] at this
  simpa using this
theorem leastB_of {W : List Bool} {n m : Nat} (h1 : W.getD m false = true) (h2 : ∀ i, i < n → m.testBit i = true → W.getD (m - 2 ^ i) false = false) : leastB W n m = true := by
  simp only [leastB, Bool.and_eq_true, List.all_eq_true, List.mem_range]
  refine ⟨h1, fun i hi => ?_⟩
  rw [bitB_test]
  cases hb : m.testBit i with
  | false => rfl
  | true => rw [h2 i hi hb]; rfl
theorem pow_le_of_bit {m i : Nat} (h : m.testBit i = true) : 2 ^ i ≤ m := by
  rcases Nat.lt_or_ge m (2 ^ i) with h2 | h2
  · rw [Nat.testBit_lt_two_pow h2] at h; cases h
  · exact h2
theorem least_sub (W : List Bool) (n : Nat) : ∀ m, m < 2 ^ n → W.getD m false = true → ∃ m', m' < 2 ^ n ∧ leastB W n m' = true ∧ ∀ i, m'.testBit i = true → m.testBit i = true := by
  intro m
  induction m using Nat.strongRecOn with
  | ind m ih =>
    intro hm hw
    by_cases h : ∀ i, i < n → m.testBit i = true → W.getD (m - 2 ^ i) false = false
    · exact ⟨m, hm, leastB_of hw h, fun _ h => h⟩
    · have h := Classical.not_forall.1 h
      obtain ⟨i, h⟩ := h
      simp only [Classical.not_imp, Bool.not_eq_false] at h
      obtain ⟨hi, hb, hv⟩ := h
      have hp := pow_le_of_bit hb
      have h0 := Nat.two_pow_pos i
      obtain ⟨m', a, b, c⟩ := ih (m - 2 ^ i) (by omega) (by omega) hv
      refine ⟨m', a, b, fun j hj => ?_⟩
      have := c j hj
      rw [sub_pow_test m i j hb] at this
      simp only [Bool.and_eq_true] at this
      exact this.1
theorem takeI_mem {P : Nat → Bool} {n : Nat} {x : Int} : x ∈ takeI P n ↔ ∃ i : Nat, i < n ∧ P i = true ∧ x = (i : Int) := by
  simp only [takeI, List.mem_map, List.mem_filter, List.mem_range]
  constructor
  · rintro ⟨i, ⟨h1, h2⟩, rfl⟩; exact ⟨i, h1, h2, rfl⟩
  · rintro ⟨i, h1, h2, rfl⟩; exact ⟨i, ⟨h1, h2⟩, rfl⟩
theorem takeI_has (P : Nat → Bool) (n i : Nat) (hi : i < n) : (takeI P n).contains (i : Int) = P i := by
  rw [Bool.eq_iff_iff, List.contains_iff_mem, takeI_mem]
  constructor
  · rintro ⟨j, _, h2, h3⟩
    have : i = j := by omega
    rw [this]; exact h2
  · intro h; exact ⟨i, hi, h, rfl⟩
theorem incB_snoc (l : List Int) (a : Int) (h : incB l = true) (hb : ∀ x ∈ l, x < a) : incB (l ++ [a]) = true := by
  induction l with
  | nil => rfl
  | cons b l ih =>
    have h1 := ih (incB_tail h) (fun x hx => hb x (List.mem_cons_of_mem _ hx))
    cases l with
    | nil => simp [incB]; exact hb b List.mem_cons_self
    | cons c l =>
      simp only [incB, Bool.and_eq_true] at h
      simp only [List.cons_append, incB, Bool.and_eq_true]
      exact ⟨h.1, h1⟩
theorem takeI_inc (P : Nat → Bool) : ∀ n, incB (takeI P n) = true := by
  intro n
  induction n with
  | zero => rfl
  | succ n ih =>
    rw [takeI_succ]
    split
    · refine incB_snoc _ _ ih (fun x hx => ?_)
      obtain ⟨i, h1, _, rfl⟩ := takeI_mem.1 hx
      omega
    · exact ih
theorem takeI_set (P : Nat → Bool) (n : Nat) : setB (n : Int) (takeI P n) = true := by
  simp only [setB, Bool.and_eq_true, List.all_eq_true, decide_eq_true_eq]
  refine ⟨fun x hx => ?_, takeI_inc P n⟩
  obtain ⟨i, h1, _, rfl⟩ := takeI_mem.1 hx
  omega
theorem takeI_one (i : Nat) : ∀ n, i < n → takeI (fun j => decide (j = i)) n = [(i : Int)] := by
  have h0 : ∀ n, n ≤ i → takeI (fun j => decide (j = i)) n = [] := by
    intro n hn
    induction n with
    | zero => rfl
    | succ n ih => rw [takeI_succ, if_neg (by simp; omega), ih (by omega)]
  intro n hn
  induction n with
  | zero => omega
  | succ n ih =>
    rw [takeI_succ]
    by_cases e : n = i
    · rw [if_pos (by simpa using e), e, h0 i (Nat.le_refl _)]
      rfl
    · rw [if_neg (by simpa using e), ih (by omega)]
theorem takeI_but (i : Nat) : ∀ n, (takeI (fun j => !(decide (j = i))) n).length = if i < n then n - 1 else n := by
  intro n
  induction n with
  | zero => rfl
  | succ n ih =>
    rw [takeI_succ]
    by_cases e : n = i
    · rw [if_neg (by simp [e]), ih]
      split <;> split <;> omega
    · rw [if_pos (by simp [e]), List.length_append, ih]
      simp only [List.length_cons, List.length_nil]
      split <;> split <;> omega
theorem takeI_few {P : Nat → Bool} {i : Nat} (h : P i = false) : ∀ n, i < n → (takeI P n).length < n := by
  intro n hn
  induction n with
  | zero => omega
  | succ n ih =>
    rw [takeI_succ]
    by_cases e : n = i
    · rw [e, h, if_neg (by decide)]
      have := takeI_len P i
      omega
    · have := ih (by omega)
      split
      · rw [List.length_append]; simp only [List.length_cons, List.length_nil]; omega
      · omega
theorem maskN_takeI (P : Nat → Bool) (n i : Nat) : (maskN (takeI P n)).testBit i = (decide (i < n) && P i) := by
  rw [maskN_test _ _ (fun y hy => by obtain ⟨j, _, _, rfl⟩ := takeI_mem.1 hy; omega)]
  by_cases h : i < n
  · rw [takeI_has P n i h, decide_eq_true h, Bool.true_and]
  · rw [decide_eq_false h, Bool.false_and]
    cases hc : (takeI P n).contains (i : Int) with
    | false => rfl
    | true =>
      obtain ⟨j, h1, _, h3⟩ := takeI_mem.1 (List.contains_iff_mem.1 hc)
      omega
theorem compl_test (n m i : Nat) (hm : m < 2 ^ n) : (2 ^ n - 1 - m).testBit i = (decide (i < n) && !(m.testBit i)) := by
  rw [show 2 ^ n - 1 - m = 2 ^ n - (m + 1) by omega, Nat.testBit_two_pow_sub_succ hm]
theorem maskN_oth (s : List Int) (n : Nat) (hs : setB (n : Int) s = true) : maskN (takeI (fun i => !(s.contains (i : Int))) n) = 2 ^ n - 1 - maskN s := by
  apply Nat.eq_of_testBit_eq
  intro i
  rw [maskN_takeI, compl_test n _ i (setB_mask hs), maskN_test s i (fun y hy => (setB_in hs y hy).1)]
theorem maskN_one (i : Nat) : maskN [(i : Int)] = 2 ^ i := by
  simp [maskN, orBits]
theorem one_set {n i : Nat} (h : i < n) : setB (n : Int) [(i : Int)] = true := by
  simp [setB, incB]
  omega
def dumB (q : Int) (ws : List Int) (i : Nat) : Bool := idleP (Go.Proofs.YtamfpkefnhcngaaGreatS.sortL (takeL (leastB (winsL q ws) ws.length) (winsL q ws).length)) i
theorem dumB_iff {q : Int} {ws : List Int} (hc : GoodC q ws) (i : Nat) (hi : i < ws.length) : dumB q ws i = true ↔ ∀ m, m < 2 ^ ws.length → leastB (winsL q ws) ws.length m = true → m.testBit i = false := by
  have h9 := hc.l9
  unfold dumB idleP
  rw [Bool.not_eq_true', List.any_eq_false]
  constructor
  · intro h m hm hl
    have := h (setN m) ((Go.Proofs.YtamfpkefnhcngaaGreatS.sortL_perm _).mem_iff.2 (List.mem_map.2 ⟨m, List.mem_filter.2 ⟨List.mem_range.2 (by rw [winsL_length]; exact hm), hl⟩, rfl⟩))
    rw [setN_contains m i (by omega)] at this
    simpa using this
  · intro h x hx
    obtain ⟨m, h1, h2, rfl⟩ := takeL_mem x ((Go.Proofs.YtamfpkefnhcngaaGreatS.sortL_perm _).mem_iff.1 hx)
    rw [winsL_length] at h1
    rw [setN_contains m i (by omega), h m h1 h2]
    decide
theorem wins_none {q : Int} {ws : List Int} (hc : GoodC q ws) : (winsL q ws).getD 0 false = false := by
  rw [winsL_getD q ws 0 (Nat.two_pow_pos _), wsum_zero, decide_eq_false_iff_not]
  have := hc.q1
  omega
theorem wins_full {q : Int} {ws : List Int} (hc : GoodC q ws) : (winsL q ws).getD (2 ^ ws.length - 1) false = true := by
  have := hc.pow
  rw [winsL_getD q ws _ (by omega), wsum_full, decide_eq_true_eq]
  exact hc.qs
theorem veto_in {q : Int} {ws : List Int} (hc : GoodC q ws) {i m : Nat} (hi : i < ws.length) (hv : vetoB q ws i = true) (hm : m < 2 ^ ws.length) (hw : (winsL q ws).getD m false = true) : m.testBit i = true := by
  cases hb : m.testBit i with
  | true => rfl
  | false =>
    have h1 := wins_out (q := q) i hi
    rw [hv] at h1
    have h2 := wins_mono hc.w0 hm (show 2 ^ ws.length - 1 - 2 ^ i < 2 ^ ws.length from Nat.lt_of_le_of_lt (Nat.sub_le _ _) (Nat.sub_lt (Nat.two_pow_pos _) (by decide))) (fun j hj => by
      rw [sub_pow_test _ i j (by rw [← bitB_test]; exact full_bit _ _ hi), Nat.testBit_two_pow_sub_one]
      have hjn : j < ws.length := by
        rcases Nat.lt_or_ge j ws.length with h | h
        · exact h
        · rw [Nat.testBit_lt_two_pow (Nat.lt_of_lt_of_le hm (Nat.pow_le_pow_right (by omega) h))] at hj; cases hj
      have hji : j ≠ i := fun e => by rw [e, hb] at hj; cases hj
      simp [hjn, hji]) hw
    rw [h1] at h2
    cases h2
theorem alone_least {q : Int} {ws : List Int} (hc : GoodC q ws) {i : Nat} (hi : i < ws.length) (ha : aloneB q ws i = true) : leastB (winsL q ws) ws.length (2 ^ i) = true := by
  have hp : 2 ^ i < 2 ^ ws.length := Nat.pow_lt_pow_right (by omega) hi
  refine leastB_of (by rw [wins_one i hi hp, ha]) (fun j hj hb => ?_)
  rw [Nat.testBit_two_pow] at hb
  have : i = j := by simpa using hb
  rw [this, Nat.sub_self]
  exact wins_none hc
theorem dum_alone {q : Int} {ws : List Int} (hc : GoodC q ws) {i : Nat} (hi : i < ws.length) (hd : dumB q ws i = true) : aloneB q ws i = false := by
  cases ha : aloneB q ws i with
  | false => rfl
  | true =>
    have := (dumB_iff hc i hi).1 hd (2 ^ i) (Nat.pow_lt_pow_right (by omega) hi) (alone_least hc hi ha)
    rw [Nat.testBit_two_pow_self] at this
    cases this
theorem dum_veto {q : Int} {ws : List Int} (hc : GoodC q ws) {i : Nat} (hi : i < ws.length) (hd : dumB q ws i = true) : vetoB q ws i = false := by
  cases hv : vetoB q ws i with
  | false => rfl
  | true =>
    have := hc.pow
    obtain ⟨m, h1, h2, _⟩ := least_sub (winsL q ws) ws.length (2 ^ ws.length - 1) (by omega) (wins_full hc)
    have h3 := veto_in hc hi hv h1 (leastB_bits h2).1
    rw [(dumB_iff hc i hi).1 hd m h1 h2] at h3
    cases h3
theorem some_real {q : Int} {ws : List Int} (hc : GoodC q ws) : ∃ i, i < ws.length ∧ dumB q ws i = false := by
  have := hc.pow
  obtain ⟨m, h1, h2, _⟩ := least_sub (winsL q ws) ws.length (2 ^ ws.length - 1) (by omega) (wins_full hc)
  have h0 : m ≠ 0 := fun e => by
    have := (leastB_bits h2).1
    rw [e, wins_none hc] at this
    cases this
  obtain ⟨i, hi⟩ := Nat.exists_testBit_of_ne_zero h0
  have hn : i < ws.length := by
    rcases Nat.lt_or_ge i ws.length with h | h
    · exact h
    · rw [Nat.testBit_lt_two_pow (Nat.lt_of_lt_of_le h1 (Nat.pow_le_pow_right (by omega) h))] at hi; cases hi
  refine ⟨i, hn, ?_⟩
  cases hd : dumB q ws i with
  | false => rfl
  | true =>
    rw [(dumB_iff hc i hn).1 hd m h1 h2] at hi
    cases hi
theorem getD_sum {ws : List Int} (h : ∀ x ∈ ws, 0 ≤ x) {i j : Nat} (hi : i < ws.length) (hj : j < ws.length) (hij : i ≠ j) : ws.getD i 0 + ws.getD j 0 ≤ ws.sum := by
  have h1 := wsum_add ws j (2 ^ i) hj (by
    have := Nat.testBit_two_pow (n := i) (m := j)
    rw [Nat.testBit_eq_decide_div_mod_eq] at this
    have h2 : decide (i = j) = false := decide_eq_false hij
    rw [h2] at this
    simp at this
    omega)
  rw [wsum_one ws i hi] at h1
  have h2 := (wsum_bounds ws h (2 ^ i + 2 ^ j)).2
  rw [getD_lt ws i hi, getD_lt ws j hj]
  omega
theorem dic_veto {q : Int} {ws : List Int} (hc : GoodC q ws) {i j : Nat} (hi : i < ws.length) (hj : j < ws.length) (hd : dicB q ws i = true) : vetoB q ws j = decide (j = i) := by
  unfold dicB at hd
  rw [Bool.and_eq_true] at hd
  by_cases e : j = i
  · rw [e, hd.2, decide_eq_true rfl]
  · rw [decide_eq_false e]
    have h1 := hd.1
    simp only [aloneB, decide_eq_true_eq] at h1
    have := getD_sum hc.w0 hi hj (Ne.symm e)
    simp only [vetoB, decide_eq_false_iff_not]
    omega
theorem dic_dum {q : Int} {ws : List Int} (hc : GoodC q ws) {i j : Nat} (hi : i < ws.length) (hj : j < ws.length) (hd : dicB q ws i = true) : dumB q ws j = !(decide (j = i)) := by
  unfold dicB at hd
  rw [Bool.and_eq_true] at hd
  by_cases e : j = i
  · rw [e, decide_eq_true rfl]
    cases h : dumB q ws i with
    | false => rfl
    | true => have := dum_alone hc hi h; rw [hd.1] at this; cases this
  · rw [decide_eq_false e]
    refine (dumB_iff hc j hj).2 (fun m hm hl => ?_)
    cases hb : m.testBit j with
    | false => rfl
    | true =>
      obtain ⟨h1, h2⟩ := leastB_bits hl
      have h3 := veto_in hc hi hd.2 hm h1
      have h4 := h2 j hj hb
      have hp : 2 ^ i < 2 ^ ws.length := Nat.pow_lt_pow_right (by omega) hi
      have h5 := wins_mono (m := 2 ^ i) (m' := m - 2 ^ j) hc.w0 hp (Nat.lt_of_le_of_lt (Nat.sub_le _ _) hm) (fun k hk => by
        rw [Nat.testBit_two_pow] at hk
        have hk : i = k := by simpa using hk
        rw [sub_pow_test m j k hb, ← hk, h3, decide_eq_false (Ne.symm e)]
        rfl) (by rw [wins_one i hi hp]; exact hd.1)
      rw [h4] at h5
      cases h5
theorem firstI_some {p : Nat → Bool} : ∀ (d i : Nat), (firstI p d i).2 = true → ∃ j, i ≤ j ∧ j < i + d ∧ p j = true ∧ firstI p d i = ((j : Int), true)
  | 0, i, h => by cases h
  | d + 1, i, h => by
    unfold firstI at h ⊢
    by_cases c : p i = true
    · rw [if_pos c]; exact ⟨i, Nat.le_refl _, by omega, c, rfl⟩
    · rw [if_neg c] at h ⊢
      obtain ⟨j, h1, h2, h3, h4⟩ := firstI_some d (i + 1) h
      exact ⟨j, by omega, by omega, h3, h4⟩
theorem firstI_none {p : Nat → Bool} : ∀ (d i : Nat), (firstI p d i).2 = false → ∀ j, i ≤ j → j < i + d → p j = false
  | 0, i, _, j, h1, h2 => by omega
  | d + 1, i, h, j, h1, h2 => by
    unfold firstI at h
    by_cases c : p i = true
    · rw [if_pos c] at h; cases h
    · rw [if_neg c] at h
      rcases Nat.eq_or_lt_of_le h1 with e | e
      · rw [← e]; simpa using c
      · exact firstI_none d (i + 1) h j e (by omega)
theorem dicV_some {q : Int} {ws : List Int} (h : (dicV q ws).2 = true) : GoodC q ws ∧ ∃ i, i < ws.length ∧ dicB q ws i = true ∧ dicV q ws = ((i : Int), true) := by
  unfold dicV at h ⊢
  by_cases hg : goodB q ws = true
  · rw [if_pos hg] at h ⊢
    obtain ⟨j, _, h2, h3, h4⟩ := firstI_some _ _ h
    exact ⟨(good_iff q ws).1 hg, j, by omega, h3, h4⟩
  · rw [if_neg hg] at h; cases h
theorem dicV_none {q : Int} {ws : List Int} (hg : goodB q ws = true) (h : (dicV q ws).2 = false) : ∀ i, i < ws.length → dicB q ws i = false := by
  intro i hi
  unfold dicV at h
  rw [if_pos hg] at h
  exact firstI_none _ _ h i (Nat.zero_le _) (by omega)
theorem dic_at {q : Int} {ws : List Int} (hg : goodB q ws = true) {i : Nat} (hi : i < ws.length) : ((dicV q ws).2 && decide ((dicV q ws).1 = (i : Int))) = (vetoB q ws i && aloneB q ws i) := by
  have hc := (good_iff q ws).1 hg
  have e : (vetoB q ws i && aloneB q ws i) = dicB q ws i := by unfold dicB; rw [Bool.and_comm]
  rw [e]
  cases h : (dicV q ws).2 with
  | false => rw [dicV_none hg h i hi]; rfl
  | true =>
    obtain ⟨_, j, hj, h1, h2⟩ := dicV_some h
    rw [h2, Bool.true_and]
    by_cases e2 : j = i
    · rw [← e2, h1, decide_eq_true rfl]
    · rw [decide_eq_false (fun h => e2 (by omega))]
      have h3 := dic_veto hc hj hi h1
      rw [decide_eq_false (Ne.symm e2)] at h3
      rw [dicB, h3, Bool.and_false]
theorem rd_L2_lt (l : List (List Int)) (i : Nat) (h : i < l.length) : rd_L2 l (i : Int) = l[i] := by simp [rd_L2, h]
theorem spec_voList.ev_l (m : Nat) (hm : m < 2 ^ 62) : ∀ (d i : Nat), i + d = 62 → Ev (fun k => spec_voList.l0 k (m : Int) (setTo m i) (i : Int)) (setN m) := by
  intro d
  induction d with
  | zero =>
    intro i h
    refine ev_step ?_
    simp only [spec_voList.l0]
    have e : m / 2 ^ i = 0 := by rw [show i = 62 by omega]; exact Nat.div_eq_of_lt hm
    rw [ev_pos (by omega), shr_nat m i (by omega), e, ev_neg (by omega), ev_now, setTo_done e (by omega)]
  | succ d ih =>
    intro i h
    refine ev_step ?_
    simp only [spec_voList.l0]
    have hl := setTo_len m i
    have et : Int.tmod ((m / 2 ^ i : Nat) : Int) 2 = ((m / 2 ^ i % 2 : Nat) : Int) := (Int.ofNat_tmod (m / 2 ^ i) 2).symm
    rw [ev_pos (by omega), shr_nat m i (by omega), w64 (by omega) (by omega)]
    by_cases e : m / 2 ^ i = 0
    · rw [ev_neg (by omega), ev_now, setTo_done e (by omega)]
    · rw [ev_pos (Int.natCast_pos.2 (Nat.pos_of_ne_zero e)), et]
      have := ih (i + 1) (by omega)
      rw [setTo_succ] at this
      by_cases hb : m / 2 ^ i % 2 = 1
      · rw [if_pos (by simp [bitB, hb])] at this
        rw [ev_pos (by rw [hb]; rfl), ev_pos (by omega)]
        exact this
      · rw [if_neg (by simp [bitB]; omega)] at this
        rw [ev_neg (c := ((m / 2 ^ i % 2 : Nat) : Int) = 1) (fun h_ => hb (Int.ofNat_inj.1 h_))]
        exact this
theorem spec_voList.ev (m : Nat) (hm : m < 2 ^ 62) : Ev (fun k => spec_voList.f k (m : Int)) (setN m) := spec_voList.ev_l m hm 62 0 (by omega)
theorem spec_voBefore.ev_l (a b : List Int) (ha : a.length ≤ 9223372036854775807) : ∀ (d i : Nat), i + d = a.length → i ≤ b.length → Ev (fun k => spec_voBefore.l0 k a b (i : Int)) (decide (cmpL (a.drop i) (b.drop i) < 0)) := by
  intro d
  induction d with
  | zero =>
    intro i h hb
    refine ev_step ?_
    simp only [spec_voBefore.l0]
    rw [ev_neg (by omega)]
    refine ev_step ?_
    simp only [spec_voBefore.j1]
    rw [ev_neg (by simp), ev_now, List.drop_of_length_le (by omega)]
    by_cases hc : (a.length : Int) < (b.length : Int)
    · rw [decide_eq_true hc, List.drop_eq_getElem_cons (by omega)]
      rfl
    · rw [decide_eq_false hc, List.drop_of_length_le (by omega)]
      rfl
  | succ d ih =>
    intro i h hb
    refine ev_step ?_
    simp only [spec_voBefore.l0]
    have hi : i < a.length := by omega
    rw [ev_pos (by omega)]
    refine ev_step ?_
    simp only [spec_voBefore.j1]
    by_cases hc : (i : Int) < (b.length : Int)
    · have hib : i < b.length := by omega
      rw [ev_pos (decide_eq_true hc), ev_pos (by omega), ev_pos (by omega), ev_pos (by omega), rd_lt a i hi, rd_lt b i hib, w64i (n := a.length) (by omega) (by omega) ha, List.drop_eq_getElem_cons hi, List.drop_eq_getElem_cons hib]
      by_cases h1 : a[i] = b[i]
      · have e : cmpL (a[i] :: a.drop (i + 1)) (b[i] :: b.drop (i + 1)) = cmpL (a.drop (i + 1)) (b.drop (i + 1)) := by simp only [cmpL]; rw [if_neg (by omega), if_neg (by omega)]
        rw [ev_pos h1, e]
        exact ih (i + 1) (by omega) (by omega)
      · rw [ev_neg h1, ev_now]
        by_cases h2 : a[i] < b[i]
        · have e : cmpL (a[i] :: a.drop (i + 1)) (b[i] :: b.drop (i + 1)) = -1 := by simp only [cmpL]; rw [if_pos h2]
          rw [e, decide_eq_true h2]; rfl
        · have e : cmpL (a[i] :: a.drop (i + 1)) (b[i] :: b.drop (i + 1)) = 1 := by simp only [cmpL]; rw [if_neg h2, if_pos (by omega)]
          rw [e, decide_eq_false h2]; rfl
    · rw [ev_neg (by simp; omega), ev_now, List.drop_eq_getElem_cons hi, List.drop_of_length_le (by omega : b.length ≤ i), decide_eq_false (by omega)]
      rfl
theorem spec_voBefore.ev (a b : List Int) (ha : a.length ≤ 9223372036854775807) : Ev (fun k => spec_voBefore.f k a b) (decide (cmpL a b < 0)) := spec_voBefore.ev_l a b ha a.length 0 (by omega) (by omega)
def upL (xs : List (List Int)) : Prop := xs.Pairwise fun a b => cmpL a b ≤ 0
theorem upL_sorted {xs ys : List (List Int)} (hp : ys.Perm xs) (h : upL ys) : ys = Go.Proofs.YtamfpkefnhcngaaGreatS.sortL xs := by
  refine Go.Proofs.YtamfpkefnhcngaaGreatS.sortL_of hp (List.Pairwise.imp (fun {a b} hab => ?_) h)
  have := cmpL_swap a b
  show decide (cmpL b a < 0) = false
  exact decide_eq_false (by omega)
theorem upL_insert {xs : List (List Int)} {s : List Int} {y : Nat} (h : upL xs) (h1 : ∀ j (hj : j < xs.length), j < y → cmpL xs[j] s < 0) (h2 : ∀ hy : y < xs.length, ¬ (cmpL xs[y] s < 0)) : upL (xs.take y ++ s :: xs.drop y) := by
  have hp := h
  rw [← List.take_append_drop y xs, upL, List.pairwise_append] at hp
  rw [upL, List.pairwise_append, List.pairwise_cons]
  have hd : ∀ b ∈ xs.drop y, cmpL s b ≤ 0 := by
    intro b hb
    obtain ⟨j, hj, rfl⟩ := List.getElem_of_mem hb
    rw [List.length_drop] at hj
    have hy : y < xs.length := by omega
    rw [List.getElem_drop]
    have h3 := h2 hy
    have h4 := cmpL_swap s xs[y]
    have h5 : cmpL xs[y] xs[y + j] ≤ 0 := by
      rcases Nat.eq_zero_or_pos j with e | e
      · subst e
        simp only [Nat.add_zero]
        rw [cmpL_self]
        omega
      · rw [upL, List.pairwise_iff_getElem] at h
        exact h y (y + j) hy (by omega) (by omega)
    exact cmpL_le_trans s xs[y] xs[y + j] (by omega) h5
  refine ⟨hp.1, ⟨hd, hp.2.1⟩, fun a ha b hb => ?_⟩
  obtain ⟨j, hj, rfl⟩ := List.getElem_of_mem ha
  rw [List.length_take] at hj
  rw [List.getElem_take]
  have h3 := h1 j (by omega) (by omega)
  rcases List.mem_cons.1 hb with rfl | hb
  · omega
  · exact cmpL_le_trans _ s b (by omega) (hd b hb)
theorem spec_voSorted.ev_l1 (l : List (List Int)) (hl : l.length < 1000000) (hx : ∀ x ∈ l, x.length ≤ 9223372036854775807) (i : Nat) (hi : i < l.length) (out : List (List Int)) (ho : out.length = i) (hup : upL out) (hpm : out.Perm (l.take i)) (hnext : ∀ out' : List (List Int), out'.length = i + 1 → upL out' → out'.Perm (l.take (i + 1)) → Ev (fun k => spec_voSorted.l0 k out' l ((i : Int) + 1)) (Go.Proofs.YtamfpkefnhcngaaGreatS.sortL l)) : ∀ (d y : Nat), y + d = out.length → (∀ j (hj : j < out.length), j < y → cmpL out[j] l[i] < 0) → Ev (fun k => spec_voSorted.l1 k out l (i : Int) l[i] (y : Int)) (Go.Proofs.YtamfpkefnhcngaaGreatS.sortL l) := by
  have hgo : ∀ y : Nat, y ≤ out.length → (∀ j (hj : j < out.length), j < y → cmpL out[j] l[i] < 0) → (∀ hy : y < out.length, ¬ (cmpL out[y] l[i] < 0)) → Ev (fun k => if out.length < 5000000000000 then spec_voSorted.l0 k (out.take ((y : Int)).toNat ++ l[i] :: out.drop ((y : Int)).toNat) l (wrap64 ((i : Int) + 1)) else none) (Go.Proofs.YtamfpkefnhcngaaGreatS.sortL l) := by
    intro y hy h1 h2
    rw [ev_pos (by omega), Int.toNat_natCast, w64 (by omega) (by omega)]
    refine hnext _ ?_ (upL_insert hup h1 h2) ?_
    · rw [List.length_append, List.length_cons, List.length_take, List.length_drop]
      omega
    · refine List.perm_middle.trans ?_
      rw [List.take_append_drop, List.take_succ_eq_append_getElem hi]
      exact (List.Perm.cons _ hpm).trans (List.perm_append_singleton _ _).symm
  intro d
  induction d with
  | zero =>
    intro y hy h1
    refine ev_step ?_
    simp only [spec_voSorted.l1]
    rw [ev_neg (by omega)]
    exact hgo y (by omega) h1 (fun h => by omega)
  | succ d ih =>
    intro y hy h1
    refine ev_step ?_
    simp only [spec_voSorted.l1]
    have hyl : y < out.length := by omega
    have hmem : out[y] ∈ l := List.mem_of_mem_take (hpm.mem_iff.1 (List.getElem_mem hyl))
    rw [ev_pos (by omega), rdOf_lt [] out y hyl, ev_bind (spec_voBefore.ev out[y] l[i] (hx _ hmem))]
    by_cases c : cmpL out[y] l[i] < 0
    · rw [ev_pos (decide_eq_true c), w64 (by omega) (by omega)]
      refine ih (y + 1) (by omega) (fun j hj hjy => ?_)
      rcases Nat.lt_or_ge j y with e | e
      · exact h1 j hj e
      · have : j = y := by omega
        subst this
        exact c
    · rw [ev_neg (by simp [c])]
      exact hgo y (by omega) h1 (fun _ => c)
theorem spec_voSorted.ev_l0 (l : List (List Int)) (hl : l.length < 1000000) (hx : ∀ x ∈ l, x.length ≤ 9223372036854775807) : ∀ (d i : Nat) (out : List (List Int)), i + d = l.length → out.length = i → upL out → out.Perm (l.take i) → Ev (fun k => spec_voSorted.l0 k out l (i : Int)) (Go.Proofs.YtamfpkefnhcngaaGreatS.sortL l) := by
  intro d
  induction d with
  | zero =>
    intro i out h ho hup hpm
    refine ev_step ?_
    simp only [spec_voSorted.l0]
    rw [List.take_of_length_le (by omega)] at hpm
    rw [ev_neg (by omega), ev_now]
    exact upL_sorted hpm hup
  | succ d ih =>
    intro i out h ho hup hpm
    refine ev_step ?_
    simp only [spec_voSorted.l0]
    have hi : i < l.length := by omega
    rw [ev_pos (by omega), ev_pos (by omega), rdOf_lt [] l i hi]
    exact spec_voSorted.ev_l1 l hl hx i hi out ho hup hpm (fun out' h1 h2 h3 => ih (i + 1) out' (by omega) h1 h2 h3) out.length 0 (by omega) (fun j _ hj => by omega)
theorem spec_voSorted.ev (l : List (List Int)) (hl : l.length < 1000000) (hx : ∀ x ∈ l, x.length ≤ 9223372036854775807) : Ev (fun k => spec_voSorted.f k l) (Go.Proofs.YtamfpkefnhcngaaGreatS.sortL l) := spec_voSorted.ev_l0 l hl hx l.length 0 [] (by omega) rfl List.Pairwise.nil (by simp)
theorem spec_voLeast.ev_l1 (W : List Bool) (n : Nat) (hW : W.length = 2 ^ n) (hn : n ≤ 18) (m : Nat) (hm : m < W.length) (out : List (List Int)) (ho : out.length ≤ 1000000) (R : List (List Int)) : ∀ (d j : Nat) (b : Bool), j + d = (setN m).length → Ev (fun k => spec_voLeast.l0 k W (if (b && ((setN m).drop j).all fun x => !(W.getD (m - 2 ^ x.toNat) false)) = true then out ++ [setN m] else out) W (W.length : Int) ((m : Int) + 1)) R → Ev (fun k => spec_voLeast.l1 k W out (m : Int) b W (W.length : Int) (m : Int) (setN m) ((setN m).length : Int) (j : Int)) R := by
  have hp : 2 ^ n ≤ 2 ^ 18 := Nat.pow_le_pow_right (by omega) hn
  have hto := setN_to (m := m) (n := n) (by omega) (by omega)
  have hln : (setN m).length ≤ n := by rw [hto]; exact setTo_len m n
  intro d
  induction d with
  | zero =>
    intro j b h hR
    refine ev_step ?_
    simp only [spec_voLeast.l1]
    rw [List.drop_of_length_le (by omega), List.all_nil, Bool.and_true] at hR
    rw [ev_neg (by omega), w64 (x := (m : Int) + 1) (by omega) (by omega)]
    cases b with
    | true =>
      rw [if_pos rfl] at hR
      rw [ev_pos rfl, ev_bind (spec_voList.ev m (by omega)), ev_pos (by omega)]
      exact hR
    | false =>
      rw [if_neg (by decide)] at hR
      rw [ev_neg (by decide)]
      exact hR
  | succ d ih =>
    intro j b h hR
    refine ev_step ?_
    simp only [spec_voLeast.l1]
    have hj : j < (setN m).length := by omega
    have hx := setTo_in (m := m) (n := n) (setN m)[j] (by rw [← hto]; exact List.getElem_mem hj)
    rw [List.drop_eq_getElem_cons hj, List.all_cons] at hR
    rw [ev_pos (by omega), ev_pos (by omega), ev_pos (by omega), w64 (x := (j : Int) + 1) (by omega) (by omega), rd_lt (setN m) j hj]
    cases b with
    | true =>
      obtain ⟨c, hc⟩ := Int.eq_ofNat_of_zero_le hx.1
      have hcb : bitB m c = true := by have := hx.2.2; rw [hc, Int.toNat_natCast] at this; exact this
      have hcn : c < n := by have := hx.2.1; omega
      have hge : 2 ^ c ≤ m := by
        have hbb : m / 2 ^ c % 2 = 1 := by simpa [bitB] using hcb
        rcases Nat.lt_or_ge m (2 ^ c) with h1 | h1
        · rw [Nat.div_eq_of_lt h1] at hbb; omega
        · exact h1
      have h0 : 0 < 2 ^ c := Nat.two_pow_pos c
      have e1 : wrap64 ((m : Int) - ((2 ^ c : Nat) : Int)) = ((m - 2 ^ c : Nat) : Int) := by
        rw [w64 (by omega) (by omega)]
        omega
      rw [hc, Int.toNat_natCast, Bool.true_and] at hR
      rw [ev_pos rfl, hc, ev_pos (by omega), shl_one c (by omega), e1, ev_pos (by omega), ev_pos (by omega), rdOf_nat]
      exact ih (j + 1) _ (by omega) hR
    | false =>
      rw [Bool.false_and] at hR
      rw [ev_neg (by decide)]
      exact ih (j + 1) false (by omega) (by rw [Bool.false_and]; exact hR)
theorem leastB_set (W : List Bool) (n m : Nat) (hm : m < 2 ^ n) (hn : n ≤ 62) : leastB W n m = (W.getD m false && (setN m).all fun x => !(W.getD (m - 2 ^ x.toNat) false)) := by
  rw [leastB, setN_to hm hn]
  congr 1
  exact (setTo_all m n (fun i => !(W.getD (m - 2 ^ i) false))).symm
theorem spec_voLeast.ev_l0 (W : List Bool) (n : Nat) (hW : W.length = 2 ^ n) (hn : n ≤ 18) : ∀ (d m : Nat), m + d = W.length → Ev (fun k => spec_voLeast.l0 k W (takeL (leastB W n) m) W (W.length : Int) (m : Int)) (Go.Proofs.YtamfpkefnhcngaaGreatS.sortL (takeL (leastB W n) W.length)) := by
  have hp : 2 ^ n ≤ 2 ^ 18 := Nat.pow_le_pow_right (by omega) hn
  intro d
  induction d with
  | zero =>
    intro m h
    refine ev_step ?_
    simp only [spec_voLeast.l0]
    have hl := takeL_len (leastB W n) m
    rw [ev_neg (by omega), ev_bind (spec_voSorted.ev _ (by omega) (fun x hx => by
      obtain ⟨a, ha, _, rfl⟩ := takeL_mem x hx
      have := setTo_len a n
      rw [← setN_to (m := a) (n := n) (by omega) (by omega)] at this
      omega)), ev_now, show m = W.length by omega]
  | succ d ih =>
    intro m h
    refine ev_step ?_
    simp only [spec_voLeast.l0]
    have hm : m < W.length := by omega
    have hl := takeL_len (leastB W n) m
    have hih := ih (m + 1) (by omega)
    rw [takeL_succ, leastB_set W n m (by omega) (by omega)] at hih
    have ew : W.getD m false = W[m] := by simp [hm]
    rw [ev_pos (by omega), ev_pos (by omega), ev_pos (by omega), rdOf_lt false W m hm]
    cases hw : W[m] with
    | true =>
      rw [ew, hw] at hih
      rw [ev_pos rfl, ev_bind (spec_voList.ev m (by omega))]
      refine spec_voLeast.ev_l1 W n hW hn m hm _ (by omega) _ (setN m).length 0 true (by omega) ?_
      rw [List.drop_zero]
      exact hih
    | false =>
      rw [ew, hw, Bool.false_and, if_neg (by decide)] at hih
      rw [ev_neg (by decide), w64 (by omega) (by omega)]
      exact hih
theorem spec_voLeast.ev (W : List Bool) (n : Nat) (hW : W.length = 2 ^ n) (hn : n ≤ 18) : Ev (fun k => spec_voLeast.f k W) (Go.Proofs.YtamfpkefnhcngaaGreatS.sortL (takeL (leastB W n) W.length)) := spec_voLeast.ev_l0 W n hW hn W.length 0 (by omega)
theorem spec_voAll.v (n : Nat) (hn : n ≤ 60) : spec_voAll.f (n : Int) = some ((2 ^ n - 1 : Nat) : Int) := by
  unfold spec_voAll.f
  have h0 : 0 < 2 ^ n := Nat.two_pow_pos n
  have h : 2 ^ n ≤ 2 ^ 60 := Nat.pow_le_pow_right (by omega) hn
  rw [if_pos (by omega), shl_one n (by omega), w64 (by omega) (by omega)]
  congr 1
  omega
theorem spec_bit (m i : Nat) (hm : m < 2 ^ 62) (hi : i ≤ 62) : Int.tmod (shr .i64 (m : Int) (i : Int)) 2 = ((m / 2 ^ i % 2 : Nat) : Int) := by
  rw [shr_nat m i (by omega)]
  generalize m / 2 ^ i = x
  rw [Int.tmod_eq_emod_of_nonneg (by omega)]
  omega
theorem spec_voWeight.ev_l (q : Int) (ws : List Int) (m : Nat) (hm : m < 2 ^ 62) (hl : ws.length ≤ 60) (hw : ∀ x ∈ ws, 0 ≤ x ∧ x ≤ 1000000000) : ∀ (d i : Nat) (s : Int), i + d = ws.length → 0 ≤ s → s + wsum (ws.drop i) (m / 2 ^ i) ≤ 1000000000000 → Ev (fun k => spec_voWeight.l0 k (m : Int) s ws (ws.length : Int) (i : Int)) (s + wsum (ws.drop i) (m / 2 ^ i)) := by
  intro d
  induction d with
  | zero =>
    intro i s h _ _
    refine ev_step ?_
    simp only [spec_voWeight.l0]
    rw [ev_neg (by omega), ev_now, List.drop_of_length_le (by omega)]
    simp [wsum]
  | succ d ih =>
    intro i s h h0 h1
    refine ev_step ?_
    simp only [spec_voWeight.l0]
    have hi : i < ws.length := by omega
    have hx := hw ws[i] (List.getElem_mem hi)
    have hd : wsum (ws.drop i) (m / 2 ^ i) = (if m / 2 ^ i % 2 = 1 then ws[i] else 0) + wsum (ws.drop (i + 1)) (m / 2 ^ (i + 1)) := by
      rw [wsum_drop ws i _ hi, Nat.div_div_eq_div_mul, ← Nat.pow_succ]
    have hb := wsum_bounds (ws.drop (i + 1)) (fun x hx => (hw x (List.mem_of_mem_drop hx)).1) (m / 2 ^ (i + 1))
    rw [ev_pos (by omega), ev_pos (by omega), ev_pos (by omega), spec_bit m i hm (by omega), w64i (n := ws.length) (by omega) (by omega) (by omega), rd_lt ws i hi, hd]
    rw [hd] at h1
    by_cases hbit : m / 2 ^ i % 2 = 1
    · rw [if_pos hbit] at h1 ⊢
      rw [ev_pos (by rw [hbit]; rfl), w64 (by omega) (by omega), ← Int.add_assoc]
      exact ih (i + 1) (s + ws[i]) (by omega) (by omega) (by omega)
    · rw [if_neg hbit] at h1 ⊢
      rw [ev_neg (by omega), Int.zero_add]
      exact ih (i + 1) s (by omega) h0 (by omega)
theorem spec_voWeight.ev (q : Int) (ws : List Int) (m : Nat) (hm : m < 2 ^ 62) (hl : ws.length ≤ 60) (hw : ∀ x ∈ ws, 0 ≤ x ∧ x ≤ 1000000000) : Ev (fun k => spec_voWeight.f k q ws (m : Int)) (wsum ws m) := by
  have hb := wsum_bounds ws (fun x hx => (hw x hx).1) m
  have hs := sum_bounds ws 1000000000 hw
  have := spec_voWeight.ev_l q ws m hm hl hw ws.length 0 0 (by omega) (by omega) (by simp; omega)
  simpa [spec_voWeight.f] using this
theorem winsL_take (q : Int) (ws : List Int) (m : Nat) (h : m < 2 ^ ws.length) : (winsL q ws).take (m + 1) = (winsL q ws).take m ++ [decide (q ≤ wsum ws m)] := by
  rw [List.take_succ_eq_append_getElem (by rw [winsL_length]; exact h), winsL_get]
theorem spec_voWins.ev_l (q : Int) (ws : List Int) (hl : ws.length ≤ 9) (hw : ∀ x ∈ ws, 0 ≤ x ∧ x ≤ 1000000000) : ∀ (d m : Nat), m + d = 2 ^ ws.length → Ev (fun k => spec_voWins.l0 k ((winsL q ws).take m) (m : Int) q ws) (winsL q ws) := by
  have hp : 2 ^ ws.length ≤ 2 ^ 9 := Nat.pow_le_pow_right (by omega) hl
  have h0 : 0 < 2 ^ ws.length := Nat.two_pow_pos _
  intro d
  induction d with
  | zero =>
    intro m h
    refine ev_step ?_
    simp only [spec_voWins.l0]
    rw [ev_bind (ev_of (spec_voAll.v ws.length (by omega))), ev_neg (by omega), ev_now, List.take_of_length_le (by rw [winsL_length]; omega)]
  | succ d ih =>
    intro m h
    refine ev_step ?_
    simp only [spec_voWins.l0]
    rw [ev_bind (ev_of (spec_voAll.v ws.length (by omega))), ev_pos (by omega), ev_bind (spec_voWeight.ev q ws m (by omega) (by omega) hw), ev_pos (by simp; omega), w64i (n := 512) (by omega) (by omega) (by omega)]
    have := ih (m + 1) (by omega)
    rw [winsL_take q ws m (by omega)] at this
    exact this
theorem spec_voWins.ev (q : Int) (ws : List Int) (hl : ws.length ≤ 9) (hw : ∀ x ∈ ws, 0 ≤ x ∧ x ≤ 1000000000) : Ev (fun k => spec_voWins.f k q ws) (winsL q ws) := by
  have := spec_voWins.ev_l q ws hl hw (2 ^ ws.length) 0 (by omega)
  simpa [spec_voWins.f] using this
def dumV (q : Int) (ws : List Int) : List Int × Bool := if goodB q ws = true then (takeI (idleP (Go.Proofs.YtamfpkefnhcngaaGreatS.sortL (takeL (leastB (winsL q ws) ws.length) (winsL q ws).length))) ws.length, true) else ([], false)
theorem impl_DummiesOf.ev (q : Int) (ws : List Int) (hl : ws.length ≤ 9223372036854775807) : Ev (fun k => impl_DummiesOf.f k q ws) (dumV q ws) := by
  simp only [impl_DummiesOf.f]
  rw [ev_bind (impl_IsCommittee.ev q ws hl)]
  unfold dumV
  cases hg : goodB q ws with
  | false => rw [ev_neg (by decide), ev_now, if_neg (by decide)]
  | true =>
    have hc := (good_iff q ws).1 hg
    have h9 := hc.l9
    have hwl := winsL_length q ws
    have hi := impl_votes_idle.ev (winsL q ws) ws.length hwl (by omega)
    rw [ev_pos rfl, if_pos rfl, ev_bind (impl_Committee_votes.ev q ws h9 hc.wb), ev_bind hi, ev_now]
def usedR (s : List Int) (acc : List Bool) : List Bool := s.foldl (fun acc x => acc.set x.toNat true) acc
def usedL (L : List (List Int)) (acc : List Bool) : List Bool := L.foldl (fun acc s => usedR s acc) acc
theorem usedR_len (s : List Int) : ∀ acc : List Bool, (usedR s acc).length = acc.length := by
  induction s with
  | nil => intro acc; rfl
  | cons x s ih =>
    intro acc
    show (usedR s _).length = _
    rw [ih, List.length_set]
theorem usedR_get (s : List Int) : ∀ (acc : List Bool) (j : Nat), j < acc.length → (∀ x ∈ s, 0 ≤ x) → (usedR s acc).getD j false = (acc.getD j false || s.contains (j : Int)) := by
  induction s with
  | nil => intro acc j _ _; simp [usedR]
  | cons x s ih =>
    intro acc j hj hx
    have h0 := hx x List.mem_cons_self
    show (usedR s (acc.set x.toNat true)).getD j false = _
    rw [ih _ j (by rw [List.length_set]; exact hj) (fun y hy => hx y (List.mem_cons_of_mem _ hy)), List.contains_cons]
    by_cases e : x.toNat = j
    · have e1 : ((j : Int) == x) = true := beq_iff_eq.2 (by omega)
      rw [e1, ← e, List.getD_eq_getElem?_getD, List.getElem?_set_self (by omega)]
      simp
    · have e1 : ((j : Int) == x) = false := beq_eq_false_iff_ne.2 (by omega)
      rw [e1, List.getD_eq_getElem?_getD, List.getElem?_set_ne e, List.getD_eq_getElem?_getD, Bool.false_or]
theorem usedL_get (L : List (List Int)) : ∀ (acc : List Bool) (j : Nat), j < acc.length → (∀ s ∈ L, ∀ x ∈ s, 0 ≤ x) → (usedL L acc).getD j false = (acc.getD j false || L.any fun s => s.contains (j : Int)) := by
  induction L with
  | nil => intro acc j _ _; simp [usedL]
  | cons s L ih =>
    intro acc j hj hx
    show (usedL L (usedR s acc)).getD j false = _
    rw [ih _ j (by rw [usedR_len]; exact hj) (fun t ht => hx t (List.mem_cons_of_mem _ ht)), usedR_get s acc j hj (hx s List.mem_cons_self), List.any_cons, Bool.or_assoc]
theorem spec_DummiesOf.ev_l2 (U : List Bool) (hU : U.length ≤ 1000000) : ∀ (d i : Nat), i + d = U.length → Ev (fun k => spec_DummiesOf.l2 k (takeI (fun i => !(U.getD i false)) i) U (U.length : Int) (i : Int)) (takeI (fun i => !(U.getD i false)) U.length, true) := by
  intro d
  induction d with
  | zero =>
    intro i h
    refine ev_step ?_
    simp only [spec_DummiesOf.l2]
    rw [ev_neg (by omega), ev_now, show i = U.length by omega]
  | succ d ih =>
    intro i h
    refine ev_step ?_
    simp only [spec_DummiesOf.l2]
    have hi : i < U.length := by omega
    have hl := takeI_len (fun i => !(U.getD i false)) i
    have hih := ih (i + 1) (by omega)
    rw [takeI_succ] at hih
    rw [ev_pos (by omega), ev_pos (by omega), ev_pos (by omega), rdOf_nat, w64 (by omega) (by omega)]
    cases hu : U.getD i false with
    | true =>
      rw [hu, if_neg (by decide)] at hih
      rw [ev_pos rfl]
      exact hih
    | false =>
      rw [hu, if_pos (by decide)] at hih
      rw [ev_neg (by decide), ev_pos (by omega)]
      exact hih
theorem spec_DummiesOf.ev_l1 (L : List (List Int)) (hL : L.length ≤ 1000000) (N i : Nat) (hi : i < L.length) (hs : L[i].length ≤ 1000000) (hx : ∀ x ∈ L[i], 0 ≤ x ∧ x < (N : Int)) (R : List Int × Bool) : ∀ (d j : Nat) (acc : List Bool), j + d = L[i].length → acc.length = N → Ev (fun k => spec_DummiesOf.l0 k (usedR (L[i].drop j) acc) L (L.length : Int) ((i : Int) + 1)) R → Ev (fun k => spec_DummiesOf.l1 k acc L (L.length : Int) (i : Int) L[i] (L[i].length : Int) (j : Int)) R := by
  intro d
  induction d with
  | zero =>
    intro j acc h ha hn
    refine ev_step ?_
    simp only [spec_DummiesOf.l1]
    rw [List.drop_of_length_le (by omega)] at hn
    rw [ev_neg (by omega), w64i (i := (i : Int)) (n := L.length) (by omega) (by omega) (by omega)]
    exact hn
  | succ d ih =>
    intro j acc h ha hn
    refine ev_step ?_
    simp only [spec_DummiesOf.l1]
    have hj : j < L[i].length := by omega
    have hxj := hx _ (List.getElem_mem hj)
    rw [List.drop_eq_getElem_cons hj] at hn
    rw [ev_pos (by omega), ev_pos (by omega), ev_pos (by omega), rd_lt L[i] j hj, ev_pos hxj.1, ev_pos (by omega), w64i (i := (j : Int)) (n := L[i].length) (by omega) (by omega) (by omega)]
    exact ih (j + 1) _ (by omega) (by rw [List.length_set]; exact ha) hn
theorem spec_DummiesOf.ev_l0 (L : List (List Int)) (hL : L.length ≤ 1000000) (N : Nat) (hN : N ≤ 1000000) (hs : ∀ s ∈ L, s.length ≤ 1000000 ∧ ∀ x ∈ s, 0 ≤ x ∧ x < (N : Int)) : ∀ (d i : Nat) (acc : List Bool), i + d = L.length → acc.length = N → Ev (fun k => spec_DummiesOf.l0 k acc L (L.length : Int) (i : Int)) (takeI (fun j => !((usedL (L.drop i) acc).getD j false)) N, true) := by
  intro d
  induction d with
  | zero =>
    intro i acc h ha
    refine ev_step ?_
    simp only [spec_DummiesOf.l0]
    rw [ev_neg (by omega), List.drop_of_length_le (by omega)]
    have := spec_DummiesOf.ev_l2 acc (by omega) acc.length 0 (by omega)
    rw [ha] at this ⊢
    exact this
  | succ d ih =>
    intro i acc h ha
    refine ev_step ?_
    simp only [spec_DummiesOf.l0]
    have hi : i < L.length := by omega
    have hsi := hs _ (List.getElem_mem hi)
    rw [ev_pos (by omega), ev_pos (by omega), ev_pos (by omega), rd_L2_lt L i hi, List.drop_eq_getElem_cons hi]
    refine spec_DummiesOf.ev_l1 L hL N i hi hsi.1 hsi.2 _ L[i].length 0 acc (by omega) ha ?_
    rw [List.drop_zero]
    exact ih (i + 1) _ (by omega) (by rw [usedR_len]; exact ha)
theorem spec_DummiesOf.ev (q : Int) (ws : List Int) (hl : ws.length ≤ 9223372036854775807) : Ev (fun k => spec_DummiesOf.f k q ws) (dumV q ws) := by
  simp only [spec_DummiesOf.f]
  rw [ev_bind (spec_voGood.ev q ws hl)]
  unfold dumV
  cases hg : goodB q ws with
  | false => rw [ev_neg (by decide), ev_now, if_neg (by decide)]
  | true =>
    have hc := (good_iff q ws).1 hg
    have h9 := hc.l9
    have hp := hc.pow
    have hwl := winsL_length q ws
    have hlen := takeL_len (leastB (winsL q ws) ws.length) (winsL q ws).length
    have hin := fun s hs => sortL_in (P := leastB (winsL q ws) ws.length) (N := (winsL q ws).length) (n := ws.length) (by omega) (by omega) s hs
    rw [ev_pos rfl, if_pos rfl, ev_pos (by omega), ev_pos (by omega), Int.toNat_natCast, ev_bind (spec_voWins.ev q ws h9 hc.wb), ev_bind (spec_voLeast.ev (winsL q ws) ws.length hwl (by omega))]
    have := spec_DummiesOf.ev_l0 (Go.Proofs.YtamfpkefnhcngaaGreatS.sortL (takeL (leastB (winsL q ws) ws.length) (winsL q ws).length)) (by rw [sortL_len]; omega) ws.length (by omega) (fun s hs => ⟨by have := (hin s hs).1; omega, (hin s hs).2⟩) _ 0 (List.replicate ws.length false) (Nat.zero_add _) (by simp)
    rw [List.drop_zero, takeI_congr (Q := idleP (Go.Proofs.YtamfpkefnhcngaaGreatS.sortL (takeL (leastB (winsL q ws) ws.length) (winsL q ws).length))) (fun j hj => ?_)] at this
    · exact this
    · rw [usedL_get _ _ j (by rw [List.length_replicate]; exact hj) (fun s hs x hx => ((hin s hs).2 x hx).1), idleP]
      have : (List.replicate ws.length false).getD j false = false := by
        rw [List.getD_eq_getElem?_getD, List.getElem?_eq_getElem (by rw [List.length_replicate]; exact hj)]
        simp
      rw [this, Bool.false_or]
theorem dumV_len (q : Int) (ws : List Int) : (dumV q ws).1.length ≤ 10 := by
  unfold dumV
  split
  · next h =>
    have := ((good_iff q ws).1 h).l9
    have h2 := takeI_len (idleP (Go.Proofs.YtamfpkefnhcngaaGreatS.sortL (takeL (leastB (winsL q ws) ws.length) (winsL q ws).length))) ws.length
    show (takeI _ _).length ≤ 10
    omega
  · simp
theorem laws_mHas.ev_l (l : List Int) (a : Int) (hl : l.length ≤ 9223372036854775807) : ∀ (d i : Nat), i + d = l.length → Ev (fun k => laws_mHas.l0 k a l (l.length : Int) (i : Int)) ((l.drop i).contains a) := by
  intro d
  induction d with
  | zero =>
    intro i h
    refine ev_step ?_
    simp only [laws_mHas.l0]
    rw [ev_neg (by omega), ev_now, List.drop_of_length_le (by omega)]
    rfl
  | succ d ih =>
    intro i h
    refine ev_step ?_
    simp only [laws_mHas.l0]
    have hi : i < l.length := by omega
    rw [ev_pos (by omega), ev_pos (by omega), ev_pos (by omega), rd_lt l i hi, w64i (n := l.length) (by omega) (by omega) hl, List.drop_eq_getElem_cons hi, List.contains_cons]
    by_cases c : l[i] = a
    · rw [ev_pos c, ev_now, c, beq_self_eq_true, Bool.true_or]
    · rw [ev_neg c, beq_eq_false_iff_ne.2 (fun h => c h.symm), Bool.false_or]
      exact ih (i + 1) (by omega)
theorem laws_mHas.ev (l : List Int) (a : Int) (hl : l.length ≤ 9223372036854775807) : Ev (fun k => laws_mHas.f k l a) (l.contains a) := laws_mHas.ev_l l a hl l.length 0 (by omega)
def othI (s : List Int) (n : Nat) : List Int := takeI (fun i => !(s.contains (i : Int))) n
theorem laws_mOthers.ev_l (s : List Int) (n : Nat) (hs : s.length ≤ 9223372036854775807) (hn : n ≤ 1000000) : ∀ (d i : Nat), i + d = n → Ev (fun k => laws_mOthers.l0 k s (n : Int) (othI s i) (i : Int)) (othI s n) := by
  intro d
  induction d with
  | zero =>
    intro i h
    refine ev_step ?_
    simp only [laws_mOthers.l0]
    rw [ev_neg (by omega), ev_now, show i = n by omega]
  | succ d ih =>
    intro i h
    refine ev_step ?_
    simp only [laws_mOthers.l0]
    have hl := takeI_len (fun i => !(s.contains (i : Int))) i
    have hih := ih (i + 1) (by omega)
    unfold othI at hih ⊢
    rw [takeI_succ] at hih
    rw [ev_pos (by omega), ev_bind (laws_mHas.ev s (i : Int) hs), w64 (by omega) (by omega)]
    cases hc : s.contains (i : Int) with
    | true =>
      rw [hc, if_neg (by decide)] at hih
      rw [ev_pos rfl]
      exact hih
    | false =>
      rw [hc, if_pos (by decide)] at hih
      rw [ev_neg (by decide), ev_pos (by omega)]
      exact hih
theorem laws_mOthers.ev (s : List Int) (n : Nat) (hs : s.length ≤ 9223372036854775807) (hn : n ≤ 1000000) : Ev (fun k => laws_mOthers.f k s (n : Int)) (othI s n) := laws_mOthers.ev_l s n hs hn n 0 (by omega)
theorem laws_mSum.ev_l (l : List Int) (hl : l.length ≤ 9223372036854775807) : ∀ (d i : Nat) (s : Int), i + d = l.length → Ev (fun k => laws_mSum.l0 k s l (l.length : Int) (i : Int)) (wfold (l.drop i) s) := by
  intro d
  induction d with
  | zero =>
    intro i s h
    refine ev_step ?_
    simp only [laws_mSum.l0]
    rw [ev_neg (by omega), ev_now, List.drop_of_length_le (by omega)]
    rfl
  | succ d ih =>
    intro i s h
    refine ev_step ?_
    simp only [laws_mSum.l0]
    have hi : i < l.length := by omega
    rw [ev_pos (by omega), ev_pos (by omega), ev_pos (by omega), rd_lt l i hi, w64i (n := l.length) (by omega) (by omega) hl, wfold_take l i hi]
    exact ih (i + 1) _ (by omega)
theorem laws_mSum.ev (l : List Int) (hl : l.length ≤ 9223372036854775807) : Ev (fun k => laws_mSum.f k l) (wfold l 0) := laws_mSum.ev_l l hl l.length 0 0 (by omega)
theorem laws_mSame.ev_l (a b : List Int) (hl : a.length ≤ 9223372036854775807) (hab : a.length = b.length) : ∀ (d i : Nat), i + d = a.length → Ev (fun k => laws_mSame.l0 k a b (a.length : Int) (i : Int)) (decide (a.drop i = b.drop i)) := by
  intro d
  induction d with
  | zero =>
    intro i h
    refine ev_step ?_
    simp only [laws_mSame.l0]
    rw [ev_neg (by omega), ev_now, List.drop_of_length_le (by omega), List.drop_of_length_le (by omega)]
    rfl
  | succ d ih =>
    intro i h
    refine ev_step ?_
    simp only [laws_mSame.l0]
    have hi : i < a.length := by omega
    have hib : i < b.length := by omega
    have e : decide (a.drop i = b.drop i) = (decide (a[i] = b[i]) && decide (a.drop (i + 1) = b.drop (i + 1))) := by
      rw [List.drop_eq_getElem_cons hi, List.drop_eq_getElem_cons hib, Bool.eq_iff_iff]
      simp only [Bool.and_eq_true, decide_eq_true_eq, List.cons.injEq]
    rw [ev_pos (by omega), ev_pos (by omega), ev_pos (by omega), ev_pos (by omega), rd_lt a i hi, rd_lt b i hib, w64i (n := a.length) (by omega) (by omega) hl, e]
    by_cases c : a[i] = b[i]
    · rw [ev_pos c, decide_eq_true c, Bool.true_and]
      exact ih (i + 1) (by omega)
    · rw [ev_neg c, ev_now, decide_eq_false c]
      rfl
theorem laws_mSame.ev (a b : List Int) (hl : a.length ≤ 9223372036854775807) : Ev (fun k => laws_mSame.f k a b) (decide (a = b)) := by
  simp only [laws_mSame.f]
  by_cases c : (a.length : Int) = (b.length : Int)
  · rw [ev_pos c]
    exact laws_mSame.ev_l a b hl (by omega) a.length 0 (by omega)
  · rw [ev_neg c, ev_now, decide_eq_false (fun h => c (by rw [h]))]
theorem laws_mRises.ev_l (l : List Int) (hl : l.length ≤ 9223372036854775806) : ∀ (d i : Nat), i + d = l.length → 1 ≤ i → Ev (fun k => laws_mRises.l0 k l (i : Int)) (incB (l.drop (i - 1))) := by
  intro d
  induction d with
  | zero =>
    intro i h h1
    refine ev_step ?_
    simp only [laws_mRises.l0]
    rw [ev_neg (by omega), ev_now, incB_short (by rw [List.length_drop]; omega)]
  | succ d ih =>
    intro i h h1
    refine ev_step ?_
    simp only [laws_mRises.l0]
    have hi : i < l.length := by omega
    have e1 : (i : Int) - 1 = ((i - 1 : Nat) : Int) := by omega
    rw [ev_pos (by omega), w64 (x := (i : Int) - 1) (by omega) (by omega), e1, ev_pos (by omega), ev_pos (by omega), ev_pos (by omega), rd_lt l i hi, rd_lt l (i - 1) (by omega), incB_at l i (by omega) hi, w64 (by omega) (by omega)]
    by_cases hc : l[i - 1] ≥ l[i]
    · rw [ev_pos hc, ev_now, decide_eq_false (by omega), Bool.false_and]
    · rw [ev_neg hc, decide_eq_true (by omega), Bool.true_and]
      have := ih (i + 1) (by omega) (by omega)
      rw [Nat.add_sub_cancel] at this
      exact this
theorem laws_mRises.ev (l : List Int) (hl : l.length ≤ 9223372036854775806) : Ev (fun k => laws_mRises.f k l) (incB l) := by
  rcases Nat.eq_zero_or_pos l.length with h | h
  · refine ev_step ?_
    simp only [laws_mRises.f, laws_mRises.l0]
    rw [ev_neg (by omega), ev_now, incB_short (by omega)]
  · exact laws_mRises.ev_l l hl (l.length - 1) 1 (by omega) (Nat.le_refl _)
theorem impl_isIncreasing.ev_l (l : List Int) (hl : l.length ≤ 9223372036854775807) : ∀ (d i : Nat), i + d = l.length → Ev (fun k => impl_isIncreasing.l0 k l (l.length : Int) (i : Int)) (incB (l.drop (i - 1))) := by
  intro d
  induction d with
  | zero =>
    intro i h
    refine ev_step ?_
    simp only [impl_isIncreasing.l0]
    rw [ev_neg (by omega), ev_now, incB_short (by rw [List.length_drop]; omega)]
  | succ d ih =>
    intro i h
    refine ev_step ?_
    simp only [impl_isIncreasing.l0]
    have hi : i < l.length := by omega
    rw [ev_pos (by omega), w64i (n := l.length) (by omega) (by omega) hl]
    by_cases h0 : i = 0
    · subst h0
      rw [ev_neg (by omega)]
      exact ih 1 (by omega)
    · have e1 : (i : Int) - 1 = ((i - 1 : Nat) : Int) := by omega
      rw [ev_pos (by omega), ev_pos (by omega), ev_pos (by omega), w64 (by omega) (by omega), e1, ev_pos (by omega), ev_pos (by omega), rd_lt l i hi, rd_lt l (i - 1) (by omega), incB_at l i (by omega) hi]
      by_cases hc : l[i] ≤ l[i - 1]
      · rw [ev_pos hc, ev_now, decide_eq_false (by omega), Bool.false_and]
      · rw [ev_neg hc, decide_eq_true (by omega), Bool.true_and]
        have := ih (i + 1) (by omega)
        rw [Nat.add_sub_cancel] at this
        exact this
theorem impl_isIncreasing.ev (l : List Int) (hl : l.length ≤ 9223372036854775807) : Ev (fun k => impl_isIncreasing.f k l) (incB l) := impl_isIncreasing.ev_l l hl l.length 0 (by omega)
theorem impl_isSet.ev (l : List Int) (n : Int) (h0 : 0 ≤ n) (h9 : n ≤ 1000) (hl : l.length ≤ 9223372036854775807) : Ev (fun k => impl_isSet.f k l n) (setB n l) := by
  simp only [impl_isSet.f]
  rw [w64 (by omega) (by omega), ev_bind (ev_of (show impl_areIn.f l 0 (n - 1) = some _ from rfl))]
  unfold setB
  cases (l.all fun x => decide (0 ≤ x) && decide (x ≤ n - 1)) with
  | true => rw [ev_pos rfl, ev_bind (impl_isIncreasing.ev l hl), ev_now, Bool.true_and]
  | false => rw [ev_neg (by simp), ev_now, Bool.false_and]
theorem impl_maskOf.ev_l (l : List Int) (hl : l.length ≤ 9223372036854775807) (hx : ∀ x ∈ l, 0 ≤ x ∧ x ≤ 60) : ∀ (d i m : Nat), i + d = l.length → m < 2 ^ 61 → Ev (fun k => impl_maskOf.l0 k (m : Int) l (l.length : Int) (i : Int)) ((orBits m (l.drop i) : Nat) : Int) := by
  intro d
  induction d with
  | zero =>
    intro i m h hm
    refine ev_step ?_
    simp only [impl_maskOf.l0]
    rw [ev_neg (by omega), ev_now, List.drop_of_length_le (by omega)]
    rfl
  | succ d ih =>
    intro i m h hm
    refine ev_step ?_
    simp only [impl_maskOf.l0]
    have hi : i < l.length := by omega
    have hxi := hx l[i] (List.getElem_mem hi)
    obtain ⟨c, hc⟩ := Int.eq_ofNat_of_zero_le hxi.1
    have hp : 2 ^ c ≤ 2 ^ 60 := Nat.pow_le_pow_right (by omega) (by omega)
    have ho : m ||| 2 ^ c < 2 ^ 61 := Nat.or_lt_two_pow hm (by omega)
    rw [ev_pos (by omega), ev_pos (by omega), ev_pos (by omega), rd_lt l i hi, hc, ev_pos (by omega), w64i (n := l.length) (by omega) (by omega) hl, shl_one c (by omega), or_nat m (2 ^ c) (by omega) (by omega)]
    have := ih (i + 1) (m ||| 2 ^ c) (by omega) ho
    rw [List.drop_eq_getElem_cons hi]
    show Ev _ ((orBits (m ||| 2 ^ l[i].toNat) (l.drop (i + 1)) : Nat) : Int)
    rw [hc]
    exact this
theorem impl_maskOf.ev (l : List Int) (hl : l.length ≤ 9223372036854775807) (hx : ∀ x ∈ l, 0 ≤ x ∧ x ≤ 60) : Ev (fun k => impl_maskOf.f k l) ((maskN l : Nat) : Int) := impl_maskOf.ev_l l hl hx l.length 0 0 (by omega) (by omega)
theorem spec_voBits.ev_l (l : List Int) (hl : l.length ≤ 9223372036854775807) (hx : ∀ x ∈ l, 0 ≤ x ∧ x ≤ 60) : ∀ (d i m : Nat), i + d = l.length → m < 2 ^ 61 → Ev (fun k => spec_voBits.l0 k (m : Int) l (l.length : Int) (i : Int)) ((orBits m (l.drop i) : Nat) : Int) := by
  intro d
  induction d with
  | zero =>
    intro i m h hm
    refine ev_step ?_
    simp only [spec_voBits.l0]
    rw [ev_neg (by omega), ev_now, List.drop_of_length_le (by omega)]
    rfl
  | succ d ih =>
    intro i m h hm
    refine ev_step ?_
    simp only [spec_voBits.l0]
    have hi : i < l.length := by omega
    have hxi := hx l[i] (List.getElem_mem hi)
    obtain ⟨c, hc⟩ := Int.eq_ofNat_of_zero_le hxi.1
    have hp : 2 ^ c ≤ 2 ^ 60 := Nat.pow_le_pow_right (by omega) (by omega)
    have ho : m ||| 2 ^ c < 2 ^ 61 := Nat.or_lt_two_pow hm (by omega)
    rw [ev_pos (by omega), ev_pos (by omega), ev_pos (by omega), rd_lt l i hi, hc, ev_pos (by omega), w64i (n := l.length) (by omega) (by omega) hl, shl_one c (by omega), or_nat m (2 ^ c) (by omega) (by omega)]
    have := ih (i + 1) (m ||| 2 ^ c) (by omega) ho
    rw [List.drop_eq_getElem_cons hi]
    show Ev _ ((orBits (m ||| 2 ^ l[i].toNat) (l.drop (i + 1)) : Nat) : Int)
    rw [hc]
    exact this
theorem spec_voBits.ev (l : List Int) (hl : l.length ≤ 9223372036854775807) (hx : ∀ x ∈ l, 0 ≤ x ∧ x ≤ 60) : Ev (fun k => spec_voBits.f k l) ((maskN l : Nat) : Int) := spec_voBits.ev_l l hl hx l.length 0 0 (by omega) (by omega)
theorem spec_l1Rising.ev_l (l : List Int) (lo hi : Int) (hl : l.length ≤ 9223372036854775807) : ∀ (d i : Nat), i + d = l.length → Ev (fun k => spec_l1Rising.l0 k l lo hi l (l.length : Int) (i : Int)) (((l.drop i).all fun x => decide (lo ≤ x) && decide (x ≤ hi)) && incB (l.drop (i - 1))) := by
  intro d
  induction d with
  | zero =>
    intro i h
    refine ev_step ?_
    simp only [spec_l1Rising.l0]
    rw [ev_neg (by omega), ev_now, incB_short (by rw [List.length_drop]; omega), List.drop_of_length_le (by omega)]
    rfl
  | succ d ih =>
    intro i h
    refine ev_step ?_
    simp only [spec_l1Rising.l0]
    have hi' : i < l.length := by omega
    rw [ev_pos (by omega), ev_pos (by omega), ev_pos (by omega), w64i (n := l.length) (by omega) (by omega) hl, rd_lt l i hi', ev_bind (ev_of (spec_l1In.v _ _ _)), show (l.drop i).all (fun x => decide (lo ≤ x) && decide (x ≤ hi)) = ((decide (lo ≤ l[i]) && decide (l[i] ≤ hi)) && (l.drop (i + 1)).all fun x => decide (lo ≤ x) && decide (x ≤ hi)) by rw [List.drop_eq_getElem_cons hi', List.all_cons]]
    cases hb : (decide (lo ≤ l[i]) && decide (l[i] ≤ hi)) with
    | false =>
      rw [ev_neg (by decide), ev_now]
      simp
    | true =>
      rw [ev_pos rfl, Bool.true_and]
      by_cases h0 : i = 0
      · subst h0
        rw [ev_neg (by omega)]
        exact ih 1 (by omega)
      · have e1 : (i : Int) - 1 = ((i - 1 : Nat) : Int) := by omega
        rw [ev_pos (by omega), w64 (by omega) (by omega), e1, ev_pos (by omega), ev_pos (by omega), rd_lt l (i - 1) (by omega), incB_at l i (by omega) hi']
        by_cases hc : l[i - 1] ≥ l[i]
        · rw [ev_pos hc, ev_now, decide_eq_false (by omega)]
          simp
        · rw [ev_neg hc, decide_eq_true (by omega), Bool.true_and]
          have := ih (i + 1) (by omega)
          rw [Nat.add_sub_cancel] at this
          exact this
theorem spec_voSet.ev (n : Int) (l : List Int) (h0 : 0 ≤ n) (h9 : n ≤ 1000) (hl : l.length ≤ 9223372036854775807) : Ev (fun k => spec_voSet.f k n l) (setB n l) := by
  simp only [spec_voSet.f]
  have h := spec_l1Rising.ev_l l 0 (n - 1) hl l.length 0 (by omega)
  rw [List.drop_zero] at h
  rw [w64 (by omega) (by omega), ev_bind (show Ev (fun k => spec_l1Rising.f k l 0 (n - 1)) (setB n l) from h), ev_now]
def setOfB (q : Int) (ws s : List Int) : Bool := goodB q ws && setB (ws.length : Int) s
theorem impl_isSetOf.ev (q : Int) (ws s : List Int) (hl : ws.length ≤ 9223372036854775807) (hs : s.length ≤ 9223372036854775807) : Ev (fun k => impl_isSetOf.f k q ws s) (setOfB q ws s) := by
  simp only [impl_isSetOf.f]
  rw [ev_bind (impl_IsCommittee.ev q ws hl)]
  unfold setOfB
  cases hg : goodB q ws with
  | false => rw [ev_neg (by decide), ev_now]; rfl
  | true =>
    have h9 := ((good_iff q ws).1 hg).l9
    rw [ev_pos rfl, ev_bind (impl_isSet.ev s (ws.length : Int) (by omega) (by omega) hs), ev_now, Bool.true_and]
theorem spec_voAsked.ev (q : Int) (ws s : List Int) (hl : ws.length ≤ 9223372036854775807) (hs : s.length ≤ 9223372036854775807) : Ev (fun k => spec_voAsked.f k q ws s) (setOfB q ws s) := by
  simp only [spec_voAsked.f]
  rw [ev_bind (spec_voGood.ev q ws hl)]
  unfold setOfB
  cases hg : goodB q ws with
  | false => rw [ev_neg (by decide), ev_now]; rfl
  | true =>
    have h9 := ((good_iff q ws).1 hg).l9
    rw [ev_pos rfl, ev_bind (spec_voSet.ev (ws.length : Int) s (by omega) (by omega) hs), ev_now, Bool.true_and]
theorem setOfB_facts {q : Int} {ws s : List Int} (h : setOfB q ws s = true) : GoodC q ws ∧ setB (ws.length : Int) s = true ∧ (∀ x ∈ s, 0 ≤ x ∧ x ≤ 60) ∧ maskN s < 2 ^ ws.length ∧ maskN s < 2 ^ 62 := by
  unfold setOfB at h
  rw [Bool.and_eq_true] at h
  have hc := (good_iff q ws).1 h.1
  have h9 := hc.l9
  have hp := hc.pow
  have hm := setB_mask h.2
  exact ⟨hc, h.2, fun x hx => by have := setB_in h.2 x hx; omega, hm, by omega⟩
def winsV (q : Int) (ws s : List Int) : Bool × Bool := if setOfB q ws s = true then (decide (q ≤ wsum ws (maskN s)), true) else (false, false)
def blkV (q : Int) (ws s : List Int) : Bool × Bool := if setOfB q ws s = true then (decide (ws.sum - wsum ws (maskN s) < q), true) else (false, false)
def weiV (q : Int) (ws s : List Int) : Int × Bool := if setOfB q ws s = true then (wsum ws (maskN s), true) else (0, false)
def totV (q : Int) (ws : List Int) : Int × Bool := if goodB q ws = true then (ws.sum, true) else (0, false)
theorem impl_IsWinning.ev (q : Int) (ws s : List Int) (hl : ws.length ≤ 9223372036854775807) (hs : s.length ≤ 9223372036854775807) : Ev (fun k => impl_IsWinning.f k q ws s) (winsV q ws s) := by
  simp only [impl_IsWinning.f]
  rw [ev_bind (impl_isSetOf.ev q ws s hl hs)]
  unfold winsV
  cases hg : setOfB q ws s with
  | false => rw [ev_neg (by decide), ev_now]; rfl
  | true =>
    obtain ⟨hc, h1, h2, h3, h4⟩ := setOfB_facts hg
    have h9 := hc.l9
    rw [ev_pos rfl, ev_bind (impl_maskOf.ev s hs h2), ev_bind (impl_Committee_weight.ev q ws (maskN s) h4 (by omega) hc.wb), ev_now]
    rfl
theorem spec_IsWinning.ev (q : Int) (ws s : List Int) (hl : ws.length ≤ 9223372036854775807) (hs : s.length ≤ 9223372036854775807) : Ev (fun k => spec_IsWinning.f k q ws s) (winsV q ws s) := by
  simp only [spec_IsWinning.f]
  rw [ev_bind (spec_voAsked.ev q ws s hl hs)]
  unfold winsV
  cases hg : setOfB q ws s with
  | false => rw [ev_neg (by decide), ev_now]; rfl
  | true =>
    obtain ⟨hc, h1, h2, h3, h4⟩ := setOfB_facts hg
    have h9 := hc.l9
    rw [ev_pos rfl, ev_bind (spec_voBits.ev s hs h2), ev_bind (spec_voWeight.ev q ws (maskN s) h4 (by omega) hc.wb), ev_now]
    rfl
theorem impl_IsBlocking.ev (q : Int) (ws s : List Int) (hl : ws.length ≤ 9223372036854775807) (hs : s.length ≤ 9223372036854775807) : Ev (fun k => impl_IsBlocking.f k q ws s) (blkV q ws s) := by
  simp only [impl_IsBlocking.f]
  rw [ev_bind (impl_isSetOf.ev q ws s hl hs)]
  unfold blkV
  cases hg : setOfB q ws s with
  | false => rw [ev_neg (by decide), ev_now]; rfl
  | true =>
    obtain ⟨hc, h1, h2, h3, h4⟩ := setOfB_facts hg
    have h9 := hc.l9
    have hsum := hc.sum
    have hb := wsum_bounds ws hc.w0 (maskN s)
    have hS := impl_sumOf.ev ws hl
    rw [wfold_sum ws 0 (fun x hx => by have := hc.w x hx; omega) (by omega) (by omega), Int.zero_add] at hS
    rw [ev_pos rfl, ev_bind hS, ev_bind (impl_maskOf.ev s hs h2), ev_bind (impl_Committee_weight.ev q ws (maskN s) h4 (by omega) hc.wb), ev_now, w64 (by omega) (by omega)]
    rfl
theorem spec_IsBlocking.ev (q : Int) (ws s : List Int) (hl : ws.length ≤ 9223372036854775807) (hs : s.length ≤ 9223372036854775807) : Ev (fun k => spec_IsBlocking.f k q ws s) (blkV q ws s) := by
  simp only [spec_IsBlocking.f]
  rw [ev_bind (spec_voAsked.ev q ws s hl hs)]
  unfold blkV
  cases hg : setOfB q ws s with
  | false => rw [ev_neg (by decide), ev_now]; rfl
  | true =>
    obtain ⟨hc, h1, h2, h3, h4⟩ := setOfB_facts hg
    have h9 := hc.l9
    have hsum := hc.sum
    have hb := wsum_bounds ws hc.w0 (maskN s)
    have hS := spec_voSum.ev ws hl
    rw [wfold_sum ws 0 (fun x hx => by have := hc.w x hx; omega) (by omega) (by omega), Int.zero_add] at hS
    rw [ev_pos rfl, ev_bind hS, ev_bind (spec_voBits.ev s hs h2), ev_bind (spec_voWeight.ev q ws (maskN s) h4 (by omega) hc.wb), ev_now, w64 (by omega) (by omega)]
    rfl
theorem impl_WeightOfSet.ev (q : Int) (ws s : List Int) (hl : ws.length ≤ 9223372036854775807) (hs : s.length ≤ 9223372036854775807) : Ev (fun k => impl_WeightOfSet.f k q ws s) (weiV q ws s) := by
  simp only [impl_WeightOfSet.f]
  rw [ev_bind (impl_isSetOf.ev q ws s hl hs)]
  unfold weiV
  cases hg : setOfB q ws s with
  | false => rw [ev_neg (by decide), ev_now]; rfl
  | true =>
    obtain ⟨hc, h1, h2, h3, h4⟩ := setOfB_facts hg
    have h9 := hc.l9
    rw [ev_pos rfl, ev_bind (impl_maskOf.ev s hs h2), ev_bind (impl_Committee_weight.ev q ws (maskN s) h4 (by omega) hc.wb), ev_now]
    rfl
theorem spec_WeightOfSet.ev (q : Int) (ws s : List Int) (hl : ws.length ≤ 9223372036854775807) (hs : s.length ≤ 9223372036854775807) : Ev (fun k => spec_WeightOfSet.f k q ws s) (weiV q ws s) := by
  simp only [spec_WeightOfSet.f]
  rw [ev_bind (spec_voAsked.ev q ws s hl hs)]
  unfold weiV
  cases hg : setOfB q ws s with
  | false => rw [ev_neg (by decide), ev_now]; rfl
  | true =>
    obtain ⟨hc, h1, h2, h3, h4⟩ := setOfB_facts hg
    have h9 := hc.l9
    rw [ev_pos rfl, ev_bind (spec_voBits.ev s hs h2), ev_bind (spec_voWeight.ev q ws (maskN s) h4 (by omega) hc.wb), ev_now]
    rfl
theorem impl_TotalWeight.ev (q : Int) (ws : List Int) (hl : ws.length ≤ 9223372036854775807) : Ev (fun k => impl_TotalWeight.f k q ws) (totV q ws) := by
  simp only [impl_TotalWeight.f]
  rw [ev_bind (impl_IsCommittee.ev q ws hl)]
  unfold totV
  cases hg : goodB q ws with
  | false => rw [ev_neg (by decide), ev_now]; rfl
  | true =>
    have hc := (good_iff q ws).1 hg
    have h9 := hc.l9
    have hS := impl_sumOf.ev ws hl
    rw [wfold_sum ws 0 (fun x hx => by have := hc.w x hx; omega) (by omega) (by omega), Int.zero_add] at hS
    rw [ev_pos rfl, ev_bind hS, ev_now]
    rfl
theorem spec_TotalWeight.ev (q : Int) (ws : List Int) (hl : ws.length ≤ 9223372036854775807) : Ev (fun k => spec_TotalWeight.f k q ws) (totV q ws) := by
  simp only [spec_TotalWeight.f]
  rw [ev_bind (spec_voGood.ev q ws hl)]
  unfold totV
  cases hg : goodB q ws with
  | false => rw [ev_neg (by decide), ev_now]; rfl
  | true =>
    have hc := (good_iff q ws).1 hg
    have h9 := hc.l9
    have hS := spec_voSum.ev ws hl
    rw [wfold_sum ws 0 (fun x hx => by have := hc.w x hx; omega) (by omega) (by omega), Int.zero_add] at hS
    rw [ev_pos rfl, ev_bind hS, ev_now]
    rfl
theorem spec_IsCommittee.ev (q : Int) (ws : List Int) (hl : ws.length ≤ 9223372036854775807) : Ev (fun k => spec_IsCommittee.f k q ws) (goodB q ws) := by
  simp only [spec_IsCommittee.f]
  rw [ev_bind (spec_voGood.ev q ws hl), ev_now]
theorem impl_members.evP_l (n : Nat) (hn : n ≤ 1000000) (P : Int → Option Bool) (p : Nat → Bool) (hP : ∀ i : Nat, i < n → P (i : Int) = some (p i)) : ∀ (d i : Nat), i + d = n → Ev (fun k => impl_members.l0 k P (n : Int) (takeI p i) (i : Int)) (takeI p n) := by
  intro d
  induction d with
  | zero =>
    intro i h
    refine ev_step ?_
    simp only [impl_members.l0]
    rw [ev_neg (by omega), ev_now, show i = n by omega]
  | succ d ih =>
    intro i h
    refine ev_step ?_
    simp only [impl_members.l0]
    have hl := takeI_len p i
    have hih := ih (i + 1) (by omega)
    rw [takeI_succ] at hih
    rw [ev_pos (by omega), ev_bind (ev_of (hP i (by omega))), w64 (by omega) (by omega)]
    by_cases hp : p i = true
    · rw [if_pos hp] at hih
      rw [ev_pos hp, ev_pos (by omega)]
      exact hih
    · rw [if_neg hp] at hih
      rw [ev_neg hp]
      exact hih
def vetV (q : Int) (ws : List Int) : List Int × Bool := if goodB q ws = true then (takeI (vetoB q ws) ws.length, true) else ([], false)
theorem impl_VetoMembers.ev (q : Int) (ws : List Int) (hl : ws.length ≤ 9223372036854775807) : Ev (fun k => impl_VetoMembers.f k q ws) (vetV q ws) := by
  simp only [impl_VetoMembers.f]
  rw [ev_bind (impl_IsCommittee.ev q ws hl)]
  unfold vetV
  cases hg : goodB q ws with
  | false => rw [ev_neg (by decide), ev_now, if_neg (by decide)]
  | true =>
    have hc := (good_iff q ws).1 hg
    have h9 := hc.l9
    have hp := hc.pow
    have hwl := winsL_length q ws
    have hall : impl_votes_all.f (ws.length : Int) (winsL q ws) = some ((2 ^ ws.length - 1 : Nat) : Int) := by
      simp only [impl_votes_all.f]
      rw [if_pos (by omega), shl_one ws.length (by omega), w64 (by omega) (by omega)]
      congr 1
      omega
    have hm : Ev (fun k => impl_members.g k (ws.length : Int) (impl_VetoMembers_1.f (ws.length : Int) (winsL q ws))) (takeI (vetoB q ws) ws.length) := by
      refine impl_members.evP_l ws.length (by omega) _ (vetoB q ws) (fun i hi => ?_) ws.length 0 (by omega)
      have h2 := wins_out (q := q) i hi
      have hpi : 2 ^ i < 2 ^ ws.length := Nat.pow_lt_pow_right (by omega) hi
      simp only [impl_VetoMembers_1.f]
      rw [hall, Option.bind_some, shl_one i (by omega), andNot_pow _ i (by omega) (by omega) (full_bit _ _ hi), if_pos (Int.natCast_nonneg _), if_pos (Int.ofNat_lt.2 (by rw [hwl]; exact Nat.lt_of_le_of_lt (Nat.sub_le _ _) (by omega))), rdOf_nat, h2, Bool.not_not]
    rw [ev_pos rfl, if_pos rfl, ev_bind (impl_Committee_votes.ev q ws h9 hc.wb), ev_pos (by omega), ev_bind hm, ev_now]
theorem spec_VetoMembers.ev_l {q : Int} {ws : List Int} (hc : GoodC q ws) : ∀ (d i : Nat), i + d = ws.length → Ev (fun k => spec_VetoMembers.l0 k (takeI (vetoB q ws) i) ws (ws.length : Int) (i : Int) q ws) (takeI (vetoB q ws) ws.length, true) := by
  have h9 := hc.l9
  have hsum := hc.sum
  have hS := spec_voSum.ev ws (by omega)
  rw [wfold_sum ws 0 (fun x hx => by have := hc.w x hx; omega) (by omega) (by omega), Int.zero_add] at hS
  intro d
  induction d with
  | zero =>
    intro i h
    refine ev_step ?_
    simp only [spec_VetoMembers.l0]
    rw [ev_neg (by omega), ev_now, show i = ws.length by omega]
  | succ d ih =>
    intro i h
    refine ev_step ?_
    simp only [spec_VetoMembers.l0]
    have hi : i < ws.length := by omega
    have hw := hc.w ws[i] (List.getElem_mem hi)
    have hl := takeI_len (vetoB q ws) i
    have hih := ih (i + 1) (by omega)
    rw [takeI_succ, vetoB, getD_lt ws i hi, show ((i + 1 : Nat) : Int) = (i : Int) + 1 by omega] at hih
    rw [ev_pos (by omega), ev_pos (by omega), ev_pos (by omega), rd_lt ws i hi, w64i (n := ws.length) (by omega) (by omega) (by omega), ev_bind hS, w64 (x := ws.sum - ws[i]) (by omega) (by omega)]
    by_cases c2 : ws.sum - ws[i] < q
    · rw [if_pos (decide_eq_true c2)] at hih
      rw [ev_pos c2, ev_pos (by omega)]
      exact hih
    · rw [if_neg (by simpa using c2)] at hih
      rw [ev_neg c2]
      exact hih
theorem spec_VetoMembers.ev (q : Int) (ws : List Int) (hl : ws.length ≤ 9223372036854775807) : Ev (fun k => spec_VetoMembers.f k q ws) (vetV q ws) := by
  simp only [spec_VetoMembers.f]
  rw [ev_bind (spec_voGood.ev q ws hl)]
  unfold vetV
  cases hg : goodB q ws with
  | false => rw [ev_neg (by decide), ev_now, if_neg (by decide)]
  | true =>
    have hc := (good_iff q ws).1 hg
    rw [ev_pos rfl, if_pos rfl]
    exact spec_VetoMembers.ev_l hc ws.length 0 (by omega)
theorem wsum_compl (ws : List Int) : ∀ m, m < 2 ^ ws.length → wsum ws (2 ^ ws.length - 1 - m) = ws.sum - wsum ws m := by
  induction ws with
  | nil => intro m h; simp [wsum]
  | cons a l ih =>
    intro m h
    have hp : 2 ^ (l.length + 1) = 2 * 2 ^ l.length := by rw [Nat.pow_succ, Nat.mul_comm]
    have h0 : 0 < 2 ^ l.length := Nat.two_pow_pos _
    simp only [List.length_cons] at h
    have e1 : (2 ^ (l.length + 1) - 1 - m) / 2 = 2 ^ l.length - 1 - m / 2 := by rw [hp] at h ⊢; omega
    have e2 : (2 ^ (l.length + 1) - 1 - m) % 2 = 1 - m % 2 := by rw [hp] at h ⊢; omega
    have hi := ih (m / 2) (by rw [hp] at h; omega)
    show (if (2 ^ (l.length + 1) - 1 - m) % 2 = 1 then a else 0) + wsum l ((2 ^ (l.length + 1) - 1 - m) / 2) = (a :: l).sum - ((if m % 2 = 1 then a else 0) + wsum l (m / 2))
    rw [e1, e2, hi, List.sum_cons]
    by_cases hm : m % 2 = 1
    · rw [if_neg (by omega), if_pos hm]
      omega
    · rw [if_pos (by omega), if_neg hm]
      omega
end Go.Proofs.YtamfpkefnhcngaaGreat.Q
