/- Printed functions, their contracts and plain facts on them: QLawsFnCommitteesChange; PBig; PVotesOf; PHas; PWeight; PCommitteeVotes; PSumOf; PWithin; PIsCommittee; PCountWins; PIfCommittee; PAddDummy; PVoSum; PDrawCur; P. Conditions: as each theorem states. -/
import Derived.Test.YtaambkdiokbdgacGreatDoorGCommitteesChangex1
import Derived.Test.YtaambkdiokbdgacGreatDoorGCommitteesChangex2
import Derived.Test.YtaambkdiokbdgacGreatDoorGCommitteesChangex3
import Derived.Test.YtaambkdiokbdgacGreatDoorGCommitteesChangex4
set_option maxHeartbeats 40000000
set_option maxRecDepth 100000
namespace Go.Proofs.YtaambkdiokbdgacGreatDoor.Q
open Go.RowKit Go.Proofs.YtaambkdiokbdgacGreatDoorX Go.Proofs.YtaambkdiokbdgacGreatDoorY Go.Proofs.YtaambkdiokbdgacGreatDoorX Go.Proofs.YtaambkdiokbdgacGreatDoorW.PrintWords Go.Proofs.YtaambkdiokbdgacGreatDoorW.PrintLast Go.Proofs.YtaambkdiokbdgacGreatDoorW.PrintMore
attribute [local go_sem] max2_int min2_int max_two min_two max_three min_three max_four min_four   -- for this text's walks alone
set_option linter.unusedVariables false
set_option linter.unusedSimpArgs false
theorem laws_FnCommitteesChange.calls (k : Nat) (A0 : Option Addr) (c0 : Nat) (l0 : List Int) (A1 : Option Addr) (c1 : Nat) (l1 : List Int) (r : Bool) (w : World) (hr0 : Kd.C (Kd.int .u8) w A0 l0.length l0) (hc0 : l0.length ≤ c0) (hr1 : Kd.C (Kd.int .u8) w A1 l1.length l1) (hc1 : l1.length ≤ c1) (h : laws_FnCommitteesChange.f k l0 l1 = some r) (hZ : Go.Proofs.YtaambkdiokbdgacGreatDoorV.Wz w) :
  Calls Tryz.prog 4 #[.slice A0 l0.length c0, .slice A1 l1.length c1] w fun e w' => e = .returned (.bool r) ∧ Below w.heap.size w w' := by
 have hu24 := Tryz.underlying24
 have HR0 := Aside0.mk hr0
 have HC0 := Aside0.mk hc0
 clear hr0 hc0
 have HR1 := Aside0.mk hr1
 have HC1 := Aside0.mk hc1
 clear hr1 hc1
 have HB := Aside0.mk (Below.refl w.heap.size w)
 have HZ := Aside0.mk hZ
 clear hZ
 have H := h
 unfold laws_FnCommitteesChange.f at H
 clear h
 replace H := oA H
 obtain ⟨t101, A3, H⟩ := H
 (try dsimp only at H)
 by_cases c4 : t101 = true
 ·subst c4
  replace H := iT H
  as_aux_lemma =>
   obtain rfl := Option.some.inj H
   go_enter Tryz.func4, Tryz.ntmps4
   go_upto_region 9999 with (first | ((with_reducible refine gate_callee (f := 21) rfl ?_); refine gL 55 Tryz.func21 #[.slice A0 l0.length c0, .slice A1 l1.length c1] ?_; (with_reducible refine (laws_big.calls _ _ l0 _ _ l1 true _ HR0.out HC0.out HR1.out HC1.out A3.out).mono ?_); rintro e w' ⟨rfl, ⟨nd, rfl⟩⟩; refine ⟨_, rfl, ?_⟩) | go_values | go_skip | go_guarded | go_step | go_upon | go_back | ((with_reducible (show Go.Oper.upon _ _ _ _ _ _)); go_simp) | (go_ite <;> go_prune <;> try go_simp))
   go_ret
   exact ⟨fR, wB⟩
 replace c4 := Bool.eq_false_iff.mpr c4
 subst c4
 replace H := iF H
 replace H := oB H
 obtain ⟨⟨t102, t103, t106⟩, A50, H⟩ := H
 (try dsimp only at H)
 have A5 := Aside0.mk A50
 clear A50
 replace H := oB H
 obtain ⟨⟨t110, t111, t114⟩, A60, H⟩ := H
 (try dsimp only at H)
 have A6 := Aside0.mk A60
 clear A60
 replace H := oB H
 obtain ⟨⟨t116, t117, t120⟩, A70, H⟩ := H
 (try dsimp only at H)
 have A7 := Aside0.mk A70
 clear A70
 replace H := ite_no H
 obtain ⟨c8, H⟩ := H
 replace c8 := of_nbne c8
 subst t114
 replace H := oA H
 obtain ⟨t122, A9, H⟩ := H
 (try dsimp only at H)
 replace H := ite_yes H
 obtain ⟨c10, H⟩ := H
 subst c10
 have HC11 := Aside0.mk H
 clear H
 go_enter Tryz.func4, Tryz.ntmps4
 go_upto_region 3 with (first | ((with_reducible refine gate_callee (f := 21) rfl ?_); refine gL 55 Tryz.func21 #[.slice A0 l0.length c0, .slice A1 l1.length c1] ?_; (with_reducible refine (laws_big.calls _ _ l0 _ _ l1 false _ ?side1 ?side2 ?side3 ?side4 A3.out).mono ?_); (case side1 => have hx_ := HR0.out; exact cC); (case side2 => exact HC0.out); (case side3 => have hx_ := HR1.out; exact cC); (case side4 => exact HC1.out); rintro e w' ⟨rfl, ⟨nd, rfl⟩⟩; refine ⟨_, rfl, ?_⟩) | go_values | go_skip | go_guarded | go_step | go_upon | go_back | ((with_reducible (show Go.Oper.upon _ _ _ _ _ _)); go_simp) | (go_ite <;> go_prune <;> try go_simp))
 go_upto_region 4 with (first | ((with_reducible refine gate_callee (f := 22) rfl ?_); refine gL 58 Tryz.func22 #[.slice A0 l0.length c0] ?_; (with_reducible refine (spec_DrawRenameCommittee.calls k _ _ l0 t102 t103 t106 _ ?side1 ?side2 A5.out).mono ?_); (case side1 => have hx_ := HR0.out; exact cC); (case side2 => exact HC0.out); rintro e w12 ⟨v104, v107, rfl, ho0, ho1, hb⟩; refine ⟨_, rfl, ?_⟩; have HO105 := Aside0.mk (Kd.R_lower ho0 (below_size (by repeat (first | exact HB.out | apply ba | apply bd | apply be)))); have HO108 := Aside0.mk (Kd.R_lower ho1 (below_size (by repeat (first | exact HB.out | apply ba | apply bd | apply be)))); replace HB := sQ hb; (try clear hb); (try clear ho0); (try clear ho1)) | ((with_reducible refine gate_dst (N := 5) rfl ?_); (try (refine gate_guard (by rfl) ?_; dsimp only)); refine xE (N := 5) (cs := #[.int .i64 0, .slice none 0 0]) (t := 24) ?_; intro gb109 hg w13 BK109 hb; have GE109 : Aside0 (w.heap.size ≤ gb109) := gT hg; replace HO105 := rP HO105 hb; replace HO108 := rP HO108 hb; replace HB := sQ hb; clear hb hg; obtain ⟨hcz14_0, hcz14_1, hfz14_0, hfz14_1⟩ := zZ BK109; obtain ⟨Ao15, co15, eo15⟩ := Kd.R_slice HO105.out; subst eo15; obtain ⟨Ao16, co16, eo16⟩ := Kd.R_slice HO108.out; subst eo16) | go_values | go_skip | go_guarded | go_step | go_upon | go_back | ((with_reducible (show Go.Oper.upon _ _ _ _ _ _)); go_simp) | (go_ite <;> go_prune <;> try go_simp))
 go_upto_region 5 with (first | ((with_reducible refine gate_callee (f := 5) rfl ?_); refine gL 64 Tryz.func5 #[.agg #[.int .i64 t102, .slice Ao15 t103.length co15], .slice Ao16 t106.length co16] ?_; (with_reducible refine (impl_RenameCommittee.calls k t102 _ _ t103 _ _ t106 t110 t111 t120 _ ?side1 ?side2 ?side3 ?side4 A6.out).mono ?_); (case side1 => refine (Kd.R_reads' (e := 3) (base := w.heap.size) (ok := fun k_ => nb (.slice Ao16 t106.length co16) k_) (n := t103.length) (c := co15) ?_).2.2; exact (by (with_reducible repeat (first | apply qA | apply qN | apply qD)); exact (Kd.R_mono (Kd.R_far (p := ⟨gb109, 1, none⟩) (Kd.R_far (p := ⟨gb109, 0, none⟩) (Kd.R_types HO105.out BK109.out (by decide)) (fun _ hk => hk.2) (.int .i64 t102)) (fun _ hk => hk.2) (.slice Ao15 t103.length co15)) (fun _ h_ => h_.1)))); (case side2 => exact (Kd.R_reads' HO105.out).2.1); (case side3 => refine (Kd.R_reads' (e := 3) (base := w.heap.size) (ok := fun k_ => nb (.slice Ao15 t103.length co15) k_) (n := t106.length) (c := co16) ?_).2.2; exact (by (with_reducible repeat (first | apply qA | apply qN | apply qD)); exact (Kd.R_mono (Kd.R_far (p := ⟨gb109, 1, none⟩) (Kd.R_far (p := ⟨gb109, 0, none⟩) (Kd.R_types HO108.out BK109.out (by decide)) (fun _ hk => hk.2) (.int .i64 t102)) (fun _ hk => hk.2) (.slice Ao15 t103.length co15)) (fun _ h_ => h_.1)))); (case side4 => exact (Kd.R_reads' HO108.out).2.1); rintro e w17 ⟨v112, rfl, ho0, hb⟩; refine ⟨_, rfl, ?_⟩; have HO113 := Aside0.mk (Kd.R_lower (Kd.R_new' (Kd.R_new' ho0 (Kd.R_lt (by (with_reducible repeat (first | apply qA | apply qN | apply qD)); exact (Kd.R_mono (Kd.R_far (p := ⟨gb109, 1, none⟩) (Kd.R_far (p := ⟨gb109, 0, none⟩) (Kd.R_types HO105.out BK109.out (by decide)) (fun _ hk => hk.2) (.int .i64 t102)) (fun _ hk => hk.2) (.slice Ao15 t103.length co15)) (fun _ h_ => h_.1))))) (Kd.R_lt (by (with_reducible repeat (first | apply qA | apply qN | apply qD)); exact (Kd.R_mono (Kd.R_far (p := ⟨gb109, 1, none⟩) (Kd.R_far (p := ⟨gb109, 0, none⟩) (Kd.R_types HO108.out BK109.out (by decide)) (fun _ hk => hk.2) (.int .i64 t102)) (fun _ hk => hk.2) (.slice Ao15 t103.length co15)) (fun _ h_ => h_.1))))) (below_size (by repeat (first | exact HB.out | apply ba | apply bd | apply be | refine bs ?_ GE109.out)))); replace HO105 := Aside0.mk (Kd.R_elder' (by (with_reducible repeat (first | apply qA | apply qN | apply qD)); exact (Kd.R_mono (Kd.R_far (p := ⟨gb109, 1, none⟩) (Kd.R_far (p := ⟨gb109, 0, none⟩) (Kd.R_types HO105.out BK109.out (by decide)) (fun _ hk => hk.2) (.int .i64 t102)) (fun _ hk => hk.2) (.slice Ao15 t103.length co15)) (fun _ h_ => h_.1))) (Kd.R_base ho0) hb); replace HO108 := Aside0.mk (Kd.R_elder' (by (with_reducible repeat (first | apply qA | apply qN | apply qD)); exact (Kd.R_mono (Kd.R_far (p := ⟨gb109, 1, none⟩) (Kd.R_far (p := ⟨gb109, 0, none⟩) (Kd.R_types HO108.out BK109.out (by decide)) (fun _ hk => hk.2) (.int .i64 t102)) (fun _ hk => hk.2) (.slice Ao15 t103.length co15)) (fun _ h_ => h_.1))) (Kd.R_base ho0) hb); replace BK109 := Aside0.mk (blk_below (g := gb109) (o := .cells #[.int .i64 t102, .slice Ao15 t103.length co15] 24 (0, 0)) (by (with_reducible repeat (first | refine kN ?_ _ | refine kD ?_ | refine kA ?_ _)); refine blk_put (cs := #[.int .i64 t102, .slice none 0 0]) ?_ 1 _ rfl; (with_reducible repeat (first | refine kN ?_ _ | refine kD ?_ | refine kA ?_ _)); refine blk_put (cs := #[.int .i64 0, .slice none 0 0]) ?_ 0 _ rfl; (with_reducible repeat (first | refine kN ?_ _ | refine kD ?_ | refine kA ?_ _)); exact BK109.out) hb); replace HB := sQ hb; (try clear hb); (try clear ho0)) | ((with_reducible refine gate_dst (N := 7) rfl ?_); (try (refine gate_guard (by rfl) ?_; dsimp only)); refine xE (N := 7) (cs := #[.int .i64 0, .slice none 0 0]) (t := 24) ?_; intro gb115 hg w18 BK115 hb; have GE115 := Aside0.mk ((by rw [hg]; exact (below_size (by repeat (first | exact HB.out | apply ba | apply bd | apply be | refine bs ?_ GE109.out))) : w.heap.size ≤ gb115)); have NB109_115 := Aside0.mk ((by rw [hg]; exact Nat.ne_of_lt (blk_lt (g := gb109) (o := .cells #[.int .i64 t102, .slice Ao15 t103.length co15] 24 (0, 0)) (bQ BK109)) : gb109 ≠ gb115)); have NB115_109 := Aside0.mk ((by rw [hg]; exact Nat.ne_of_gt (blk_lt (g := gb109) (o := .cells #[.int .i64 t102, .slice Ao15 t103.length co15] 24 (0, 0)) (bQ BK109)) : gb115 ≠ gb109)); replace HO105 := rP HO105 hb; replace HO108 := rP HO108 hb; replace HO113 := rP HO113 hb; replace BK109 := bP BK109 hb; replace HB := sQ hb; clear hb hg; have hnb19 := NB115_109.out; have hnc19 := NB109_115.out; (try clear hcz14_0 hcz14_1 hfz14_0 hfz14_1); obtain ⟨hcz20_0, hcz20_1, hfz20_0, hfz20_1⟩ := zZ BK115; obtain ⟨Ao21, co21, eo21⟩ := Kd.R_slice HO113.out; subst eo21; obtain ⟨hcz22_0, hcz22_1, hfz22_0, hfz22_1⟩ := zZ BK109) | go_values | go_skip | go_guarded | go_step | go_upon | go_back | ((with_reducible (show Go.Oper.upon _ _ _ _ _ _)); go_simp) | (go_ite <;> go_prune <;> try go_simp))
 go_upto_region 6 with (first | ((with_reducible refine gate_callee (f := 6) rfl ?_); refine gL 70 Tryz.func6 #[.agg #[.int .i64 t102, .slice Ao15 t103.length co15], .slice Ao16 t106.length co16] ?_; (with_reducible refine (spec_RenameCommittee.calls k t102 _ _ t103 _ _ t106 t116 t117 t120 _ ?side1 ?side2 ?side3 ?side4 A7.out).mono ?_); (case side1 => refine (Kd.R_reads' (e := 3) (base := w.heap.size) (ok := fun k_ => (nb (.slice Ao16 t106.length co16) k_ ∧ nb (.slice Ao21 t111.length co21) k_)) (n := t103.length) (c := co15) ?_).2.2; exact (by (with_reducible repeat (first | apply qA | apply qN | apply qD)); exact (Kd.R_mono (Kd.R_far (p := ⟨gb115, 1, none⟩) (Kd.R_far (p := ⟨gb115, 0, none⟩) (Kd.R_types HO105.out BK115.out (by decide)) (fun _ hk => hk.2) (.int .i64 t110)) (fun _ hk => hk.2) (.slice Ao21 t111.length co21)) (fun _ h_ => h_.1)))); (case side2 => exact (Kd.R_reads' HO105.out).2.1); (case side3 => refine (Kd.R_reads' (e := 3) (base := w.heap.size) (ok := fun k_ => (nb (.slice Ao15 t103.length co15) k_ ∧ nb (.slice Ao21 t111.length co21) k_)) (n := t106.length) (c := co16) ?_).2.2; exact (by (with_reducible repeat (first | apply qA | apply qN | apply qD)); exact (Kd.R_mono (Kd.R_far (p := ⟨gb115, 1, none⟩) (Kd.R_far (p := ⟨gb115, 0, none⟩) (Kd.R_types HO108.out BK115.out (by decide)) (fun _ hk => hk.2) (.int .i64 t110)) (fun _ hk => hk.2) (.slice Ao21 t111.length co21)) (fun _ h_ => h_.1)))); (case side4 => exact (Kd.R_reads' HO108.out).2.1); rintro e w23 ⟨v118, rfl, ho0, hb⟩; refine ⟨_, rfl, ?_⟩; have HO119 := Aside0.mk (Kd.R_lower (Kd.R_new' (Kd.R_new' (Kd.R_new' ho0 (Kd.R_lt (by (with_reducible repeat (first | apply qA | apply qN | apply qD)); exact (Kd.R_mono (Kd.R_far (p := ⟨gb115, 1, none⟩) (Kd.R_far (p := ⟨gb115, 0, none⟩) (Kd.R_types HO105.out BK115.out (by decide)) (fun _ hk => hk.2) (.int .i64 t110)) (fun _ hk => hk.2) (.slice Ao21 t111.length co21)) (fun _ h_ => h_.1))))) (Kd.R_lt (by (with_reducible repeat (first | apply qA | apply qN | apply qD)); exact (Kd.R_mono (Kd.R_far (p := ⟨gb115, 1, none⟩) (Kd.R_far (p := ⟨gb115, 0, none⟩) (Kd.R_types HO108.out BK115.out (by decide)) (fun _ hk => hk.2) (.int .i64 t110)) (fun _ hk => hk.2) (.slice Ao21 t111.length co21)) (fun _ h_ => h_.1))))) (Kd.R_lt (by (with_reducible repeat (first | apply qA | apply qN | apply qD)); exact (Kd.R_mono (Kd.R_far (p := ⟨gb115, 1, none⟩) (Kd.R_far (p := ⟨gb115, 0, none⟩) (Kd.R_types HO113.out BK115.out (by decide)) (fun _ hk => hk.2) (.int .i64 t110)) (fun _ hk => hk.2) (.slice Ao21 t111.length co21)) (fun _ h_ => h_.1))))) (below_size (by repeat (first | exact HB.out | apply ba | apply bd | apply be | refine bs ?_ GE115.out)))); replace HO105 := Aside0.mk (Kd.R_elder' (by (with_reducible repeat (first | apply qA | apply qN | apply qD)); exact (Kd.R_mono (Kd.R_far (p := ⟨gb115, 1, none⟩) (Kd.R_far (p := ⟨gb115, 0, none⟩) (Kd.R_types HO105.out BK115.out (by decide)) (fun _ hk => hk.2) (.int .i64 t110)) (fun _ hk => hk.2) (.slice Ao21 t111.length co21)) (fun _ h_ => h_.1))) (Kd.R_base ho0) hb); replace HO108 := Aside0.mk (Kd.R_elder' (by (with_reducible repeat (first | apply qA | apply qN | apply qD)); exact (Kd.R_mono (Kd.R_far (p := ⟨gb115, 1, none⟩) (Kd.R_far (p := ⟨gb115, 0, none⟩) (Kd.R_types HO108.out BK115.out (by decide)) (fun _ hk => hk.2) (.int .i64 t110)) (fun _ hk => hk.2) (.slice Ao21 t111.length co21)) (fun _ h_ => h_.1))) (Kd.R_base ho0) hb); replace HO113 := Aside0.mk (Kd.R_elder' (by (with_reducible repeat (first | apply qA | apply qN | apply qD)); exact (Kd.R_mono (Kd.R_far (p := ⟨gb115, 1, none⟩) (Kd.R_far (p := ⟨gb115, 0, none⟩) (Kd.R_types HO113.out BK115.out (by decide)) (fun _ hk => hk.2) (.int .i64 t110)) (fun _ hk => hk.2) (.slice Ao21 t111.length co21)) (fun _ h_ => h_.1))) (Kd.R_base ho0) hb); replace BK109 := Aside0.mk (blk_below (g := gb109) (o := .cells #[.int .i64 t102, .slice Ao15 t103.length co15] 24 (0, 0)) (by (with_reducible repeat (first | refine kN ?_ _ | refine kD ?_ | refine kA ?_ _)); refine blk_far ?_ NB109_115.out _; (with_reducible repeat (first | refine kN ?_ _ | refine kD ?_ | refine kA ?_ _)); refine blk_far ?_ NB109_115.out _; (with_reducible repeat (first | refine kN ?_ _ | refine kD ?_ | refine kA ?_ _)); exact BK109.out) hb); replace BK115 := Aside0.mk (blk_below (g := gb115) (o := .cells #[.int .i64 t110, .slice Ao21 t111.length co21] 24 (0, 0)) (by (with_reducible repeat (first | refine kN ?_ _ | refine kD ?_ | refine kA ?_ _)); refine blk_put (cs := #[.int .i64 t110, .slice none 0 0]) ?_ 1 _ rfl; (with_reducible repeat (first | refine kN ?_ _ | refine kD ?_ | refine kA ?_ _)); refine blk_put (cs := #[.int .i64 0, .slice none 0 0]) ?_ 0 _ rfl; (with_reducible repeat (first | refine kN ?_ _ | refine kD ?_ | refine kA ?_ _)); exact BK115.out) hb); replace HB := sQ hb; (try clear hb); (try clear ho0)) | ((with_reducible refine gate_dst (N := 9) rfl ?_); (try (refine gate_guard (by rfl) ?_; dsimp only)); refine xE (N := 9) (cs := #[.int .i64 0, .slice none 0 0]) (t := 24) ?_; intro gb121 hg w24 BK121 hb; have GE121 := Aside0.mk ((by rw [hg]; exact (below_size (by repeat (first | exact HB.out | apply ba | apply bd | apply be | refine bs ?_ GE109.out | refine bs ?_ GE115.out))) : w.heap.size ≤ gb121)); have NB109_121 := Aside0.mk ((by rw [hg]; exact Nat.ne_of_lt (blk_lt (g := gb109) (o := .cells #[.int .i64 t102, .slice Ao15 t103.length co15] 24 (0, 0)) (bQ BK109)) : gb109 ≠ gb121)); have NB121_109 := Aside0.mk ((by rw [hg]; exact Nat.ne_of_gt (blk_lt (g := gb109) (o := .cells #[.int .i64 t102, .slice Ao15 t103.length co15] 24 (0, 0)) (bQ BK109)) : gb121 ≠ gb109)); have NB115_121 := Aside0.mk ((by rw [hg]; exact Nat.ne_of_lt (blk_lt (g := gb115) (o := .cells #[.int .i64 t110, .slice Ao21 t111.length co21] 24 (0, 0)) (bQ BK115)) : gb115 ≠ gb121)); have NB121_115 := Aside0.mk ((by rw [hg]; exact Nat.ne_of_gt (blk_lt (g := gb115) (o := .cells #[.int .i64 t110, .slice Ao21 t111.length co21] 24 (0, 0)) (bQ BK115)) : gb121 ≠ gb115)); replace HO105 := rP HO105 hb; replace HO108 := rP HO108 hb; replace HO113 := rP HO113 hb; replace HO119 := rP HO119 hb; replace BK109 := bP BK109 hb; replace BK115 := bP BK115 hb; replace HB := sQ hb; clear hb hg; have hnb25 := NB121_109.out; have hnc25 := NB109_121.out; have hnb26 := NB121_115.out; have hnc26 := NB115_121.out; (try clear hcz20_0 hcz20_1 hfz20_0 hfz20_1 hcz22_0 hcz22_1 hfz22_0 hfz22_1); obtain ⟨hcz27_0, hcz27_1, hfz27_0, hfz27_1⟩ := zZ BK121; obtain ⟨Ao28, co28, eo28⟩ := Kd.R_slice HO119.out; subst eo28; obtain ⟨hcz29_0, hcz29_1, hfz29_0, hfz29_1⟩ := zZ BK115) | go_values | go_skip | go_guarded | go_step | go_upon | go_back | ((with_reducible (show Go.Oper.upon _ _ _ _ _ _)); go_simp) | (go_ite <;> go_prune <;> try go_simp))
 go_upto_if 82 with (first | (go_at_call 7; (with_reducible refine (laws_mCommittee.calls k t110 _ _ t111 t116 _ _ t117 true _ ?side1 ?side2 ?side3 ?side4 A9.out).mono ?_); (case side1 => refine (Kd.R_reads' (e := 3) (base := w.heap.size) (ok := fun k_ => (((True ∧ nb (.slice Ao15 t103.length co15) k_) ∧ nb (.slice Ao16 t106.length co16) k_) ∧ nb (.slice Ao28 t117.length co28) k_)) (n := t111.length) (c := co21) ?_).2.2; exact (by (with_reducible repeat (first | apply qA | apply qN | apply qD)); exact (Kd.R_mono (Kd.R_far (p := ⟨gb121, 1, none⟩) (Kd.R_far (p := ⟨gb121, 0, none⟩) (Kd.R_types HO113.out BK121.out (by decide)) (fun _ hk => hk.2) (.int .i64 t116)) (fun _ hk => hk.2) (.slice Ao28 t117.length co28)) (fun _ h_ => h_.1)))); (case side2 => exact (Kd.R_reads' HO113.out).2.1); (case side3 => refine (Kd.R_reads' (e := 3) (base := w.heap.size) (ok := fun k_ => (((True ∧ nb (.slice Ao15 t103.length co15) k_) ∧ nb (.slice Ao16 t106.length co16) k_) ∧ nb (.slice Ao21 t111.length co21) k_)) (n := t117.length) (c := co28) ?_).2.2; exact (by (with_reducible repeat (first | apply qA | apply qN | apply qD)); exact (Kd.R_mono (Kd.R_far (p := ⟨gb121, 1, none⟩) (Kd.R_far (p := ⟨gb121, 0, none⟩) (Kd.R_types HO119.out BK121.out (by decide)) (fun _ hk => hk.2) (.int .i64 t116)) (fun _ hk => hk.2) (.slice Ao28 t117.length co28)) (fun _ h_ => h_.1)))); (case side4 => exact (Kd.R_reads' HO119.out).2.1); rintro e w30 ⟨rfl, hb⟩; replace HO105 := Aside0.mk (Kd.R_below (by (with_reducible repeat (first | apply qA | apply qN | apply qD)); exact (Kd.R_mono (Kd.R_far (p := ⟨gb121, 1, none⟩) (Kd.R_far (p := ⟨gb121, 0, none⟩) (Kd.R_types HO105.out BK121.out (by decide)) (fun _ hk => hk.2) (.int .i64 t116)) (fun _ hk => hk.2) (.slice Ao28 t117.length co28)) (fun _ h_ => h_.1))) hb); replace HO108 := Aside0.mk (Kd.R_below (by (with_reducible repeat (first | apply qA | apply qN | apply qD)); exact (Kd.R_mono (Kd.R_far (p := ⟨gb121, 1, none⟩) (Kd.R_far (p := ⟨gb121, 0, none⟩) (Kd.R_types HO108.out BK121.out (by decide)) (fun _ hk => hk.2) (.int .i64 t116)) (fun _ hk => hk.2) (.slice Ao28 t117.length co28)) (fun _ h_ => h_.1))) hb); replace HO113 := Aside0.mk (Kd.R_below (by (with_reducible repeat (first | apply qA | apply qN | apply qD)); exact (Kd.R_mono (Kd.R_far (p := ⟨gb121, 1, none⟩) (Kd.R_far (p := ⟨gb121, 0, none⟩) (Kd.R_types HO113.out BK121.out (by decide)) (fun _ hk => hk.2) (.int .i64 t116)) (fun _ hk => hk.2) (.slice Ao28 t117.length co28)) (fun _ h_ => h_.1))) hb); replace HO119 := Aside0.mk (Kd.R_below (by (with_reducible repeat (first | apply qA | apply qN | apply qD)); exact (Kd.R_mono (Kd.R_far (p := ⟨gb121, 1, none⟩) (Kd.R_far (p := ⟨gb121, 0, none⟩) (Kd.R_types HO119.out BK121.out (by decide)) (fun _ hk => hk.2) (.int .i64 t116)) (fun _ hk => hk.2) (.slice Ao28 t117.length co28)) (fun _ h_ => h_.1))) hb); replace BK109 := Aside0.mk (blk_below (g := gb109) (o := .cells #[.int .i64 t102, .slice Ao15 t103.length co15] 24 (0, 0)) (by (with_reducible repeat (first | refine kN ?_ _ | refine kD ?_ | refine kA ?_ _)); refine blk_far ?_ NB109_121.out _; (with_reducible repeat (first | refine kN ?_ _ | refine kD ?_ | refine kA ?_ _)); refine blk_far ?_ NB109_121.out _; (with_reducible repeat (first | refine kN ?_ _ | refine kD ?_ | refine kA ?_ _)); exact BK109.out) hb); replace BK115 := Aside0.mk (blk_below (g := gb115) (o := .cells #[.int .i64 t110, .slice Ao21 t111.length co21] 24 (0, 0)) (by (with_reducible repeat (first | refine kN ?_ _ | refine kD ?_ | refine kA ?_ _)); refine blk_far ?_ NB115_121.out _; (with_reducible repeat (first | refine kN ?_ _ | refine kD ?_ | refine kA ?_ _)); refine blk_far ?_ NB115_121.out _; (with_reducible repeat (first | refine kN ?_ _ | refine kD ?_ | refine kA ?_ _)); exact BK115.out) hb); replace HB := sQ hb; (try clear hb)))
 (try simp only [Act.put, sA, sZ, sS])
 refine cutT_ [F,F,F,F,T,F,F,F,F,F,F,T,T,T,T,T,T,T,T,T,T,F,F,F,F,F,F,F,F,F,F,F,F,F,F,F,F,F,F,F,F,F,F,F,F,F,F,F,F,F,F,F,F,F,F,F,F,F,F,F,F,F,F,F,F,F,F,F,F,F,F,F,F,F,F,F,F,F,F,F,F,F,T,T,T,T,T,T,T,T,T,T,T,T,T,T,T,T,T,T,T,T,T,T,T,T,T,T,T,T,T,T,T,T,T,T,T,T,T,T,T,T,T,T,T,T,T,T,T,T,T,T,T,T,T,T,T,T,T,T,T,T,T,T,T,T,T] (fun T_ wc_ => (fun wc => ∃ (kq : Nat), Aside0 (laws_FnCommitteesChange.j1 kq l1 = some r) ∧ Aside0 (kq ≤ k) ∧ Aside0 (Below w.heap.size w wc))  wc_) ?restj1 ?firstj1
 case firstj1 => as_aux_lemma =>
  intro J_ K_ hJ_j1 hM_
  have H := HC11.out
  clear HC11
  by_cases c31 : t120 = true
  rotate_left
  ·replace c31 := Bool.eq_false_iff.mpr c31
   subst c31
   replace H := iF H
   as_aux_lemma =>
    have H' := Aside0.mk H
    clear H
    go_upto_region 9999 with (first | go_values | go_skip | go_guarded | go_step | go_upon | go_back | ((with_reducible (show Go.Oper.upon _ _ _ _ _ _)); go_simp) | (go_ite <;> go_prune <;> try go_simp))
    refine meetT_ hJ_j1 (by kernel_rfl) ?rel
    case rel => exact ⟨_, H', ⟨by first | omega | exact Nat.le_refl _⟩, ⟨wB⟩⟩
  subst c31
  replace H := iT H
  replace H := ite_yes H
  obtain ⟨c32, H⟩ := H
  have c32b0 := eq_true c32
  have c32b1 : decide (0 ≤ (t106.length : Int)) = true := decide_eq_true c32
  clear c32
  replace H := ite_yes H
  obtain ⟨c33, H⟩ := H
  have c33b0 := eq_true c33
  have c33b1 : decide (((t106.length : Int) : Int).toNat ≤ 35184372088832) = true := decide_eq_true c33
  clear c33
  obtain ⟨y123, hy123⟩ : ∃ y_ : List Int, y_ = (List.replicate ((t106.length : Int) : Int).toNat 0) := ⟨_, rfl⟩
  replace H : (laws_FnCommitteesChange.l0 k l1 y123 t106 (t106.length : Int) 0 t102 t103 t110 t111) = some r := by first | (rw [hy123]; with_reducible exact H) | (have H2_ := (Option.bind_some _ _).symm.trans H; rw [hy123]; with_reducible exact H2_) | (have H2_ := (Option.bind_some _ _).symm.trans H; with_reducible exact H2_) | with_reducible exact H | (rw [hy123]; exact H) | exact H
  have Ny123 := Aside0.mk hy123
  clear hy123
  have H' := Aside0.mk H
  clear H
  go_upto_region 9999 with (first | ((with_reducible refine gate_dst (N := 86) rfl ?_); (try (refine gate_guard (by rfl) ?_; dsimp only)); refine Kd.R_make (Kd.int .i64) _ 3 rfl (N := 86) rfl 22 _ _ rfl (t106.length : Int) rfl rfl Tryz.underlying22 (.int .i64 0) 8 info3 rfl (by decide) (by omega) 0 (ok := fun _ => True) (okp := fun _ => True) rfl (fun _ hk => hk) trivial (oD) (Nat.le_trans (Nat.mul_le_mul_right _ (oD : (t106.length : Int).toNat ≤ 35184372088832)) (by omega)) (Below.refl _ _) (Nat.le_refl _) ?_; intro v124 w34 ho35 hb hg_ hnew_; clear hg_ hnew_; (first | rw [← Ny123.out] at ho35 | (simp only [Int.reduceToNat] at ho35; rw [← Ny123.out] at ho35)); have HO125 := Aside0.mk (Kd.R_lower (Kd.R_new' (Kd.R_new' (Kd.R_new' (Kd.R_new' ho35 (Kd.R_lt HO105.out)) (Kd.R_lt HO108.out)) (Kd.R_lt HO113.out)) (Kd.R_lt HO119.out)) (below_size HB.out)); replace HO105 := rE HO105 (Kd.R_base ho35) hb; replace HO108 := rE HO108 (Kd.R_base ho35) hb; replace HO113 := rE HO113 (Kd.R_base ho35) hb; replace BK109 := bB BK109 hb; replace BK115 := bB BK115 hb; replace HB := sB HB hb; clear hb ho35) | go_values | go_skip | go_guarded | go_step | go_upon | go_back | ((with_reducible (show Go.Oper.upon _ _ _ _ _ _)); go_simp) | (go_ite <;> go_prune <;> try go_simp))
  refine loopT_ [F,F,F,F,T,F,F,F,F,F,F,F,F,T,T,F,F,F,F,F,F,F,F,F,F,F,F,F,F,F,F,F,F,F,F,F,F,F,F,F,F,F,F,F,F,F,F,F,F,F,F,F,F,F,F,F,F,F,F,F,F,F,F,F,F,F,F,F,F,F,F,F,F,F,F,F,F,F,F,F,F,F,F,F,F,F,F,F,F,T,T,T,T,T,T,T,T,T,T,T,T,T,T,T,T,T,T,T,T,T] k (fun kq_ T_ w_ => (fun kq v89 w' => ∃ (x12_1 : List Int) (x89_1 : Int), v89 = .int .i64 x89_1 ∧ Aside0 (laws_FnCommitteesChange.l0 kq l1 x12_1 t106 (t106.length : Int) x89_1 t102 t103 t110 t111 = some r) ∧ Aside0 (kq ≤ k) ∧ Aside0 (Kd.R (Kd.int .i64) 3 w' w.heap.size (fun k_ => nb (.slice Ao16 t106.length co16) k_ ∧ nb (.slice Ao15 t103.length co15) k_ ∧ nb (.slice Ao21 t111.length co21) k_) v124 x12_1) ∧ Aside0 (Kd.R (Kd.int .i64) 3 w' w.heap.size (fun k_ => nb v124 k_ ∧ nb (.slice Ao15 t103.length co15) k_ ∧ nb (.slice Ao21 t111.length co21) k_) (.slice Ao16 t106.length co16) t106) ∧ Aside0 (Kd.R (Kd.int .i64) 3 w' w.heap.size (fun k_ => nb v124 k_ ∧ nb (.slice Ao16 t106.length co16) k_ ∧ nb (.slice Ao21 t111.length co21) k_) (.slice Ao15 t103.length co15) t103) ∧ Aside0 (Kd.R (Kd.int .i64) 3 w' w.heap.size (fun k_ => nb v124 k_ ∧ nb (.slice Ao16 t106.length co16) k_ ∧ nb (.slice Ao15 t103.length co15) k_) (.slice Ao21 t111.length co21) t111) ∧ Aside0 (w'.heap[gb109]? = some (.cells #[.int .i64 t102, (.slice Ao15 t103.length co15)] 24 (0, 0))) ∧ Aside0 (w'.heap[gb115]? = some (.cells #[.int .i64 t110, (.slice Ao21 t111.length co21)] 24 (0, 0))) ∧ Aside0 (Below w.heap.size w w')) kq_ (T_ 89) w_) (by kernel_rfl) ?atStart ?round
  case atStart => exact ⟨(y123), (0), gR, H', ⟨Nat.le_refl _⟩, ⟨by exact Kd.R_mono HO125.out (fun _ hk => by first | exact ⟨hk.1.1.2, ⟨hk.1.1.1.2, hk.1.2⟩⟩ | simp_all)⟩, ⟨by exact Kd.R_mono HO108.out (fun _ hk => by first | exact ⟨hk.2, ⟨hk.1.1.1, hk.1.1.2⟩⟩ | simp_all)⟩, ⟨by exact Kd.R_mono HO105.out (fun _ hk => by first | exact ⟨hk.2, ⟨hk.1.1.1, hk.1.1.2⟩⟩ | simp_all)⟩, ⟨by exact Kd.R_mono HO113.out (fun _ hk => by first | exact ⟨hk.2, ⟨hk.1.1.2, hk.1.1.1.2⟩⟩ | simp_all)⟩, ⟨by exact BK109.out⟩, ⟨by exact BK115.out⟩, ⟨wB⟩⟩
  case round => as_aux_lemma =>
   intro gk T_ wr hrel J_ K_ hJ_l0 hM_
   simp only [putT, putM, T, F, Nat.reduceAdd]
   (try dsimp only at hrel)
   generalize T_ 89 = u89 at hrel ⊢
   clear H'
   (try clear c1); (try clear c2); (try clear p2); (try clear c3); (try clear c4); (try clear c5); (try clear c6); (try clear c8); (try clear c10); (try clear c19); (try clear c21); (try clear c22); (try clear c25); (try clear c26); (try clear c31); (try clear c32); (try clear c32b0); (try clear c32b1); (try clear c33); (try clear c33b0); (try clear c33b1); (try clear hcz27_0); (try clear hcz27_1); (try clear hcz29_0); (try clear hcz29_1); (try clear hfz27_0); (try clear hfz27_1); (try clear hfz29_0); (try clear hfz29_1)
   obtain ⟨x12_1, x89_1, rfl, HA, HK1, HO_12, HO_87, HO_110001, HO_116001, BK109, BK115, HB⟩ := hrel
   cases gk with
   | zero => exact absurd HA.out (by simp [laws_FnCommitteesChange.l0])
   | succ k1 =>
    have H := HA.out
    clear HA
    simp only [laws_FnCommitteesChange.l0] at H
    by_cases c36 : x89_1 < (t106.length : Int)
    rotate_left
    ·rw [if_neg c36] at H
     have c36b0 : decide (x89_1 < (t106.length : Int)) = false := decide_eq_false c36
     clear c36
     (first | rw [c36b0] | (simp only [i64_w, i32_w]; rw [c36b0]) | skip)
     replace H := oB H
     obtain ⟨⟨t130, t131, t134⟩, A480, H⟩ := H
     (try dsimp only at H)
     have A48 := Aside0.mk A480
     clear A480
     replace H := oB H
     obtain ⟨⟨t136, t137⟩, A490, H⟩ := H
     (try dsimp only at H)
     have A49 := Aside0.mk A490
     clear A490
     replace H := oB H
     obtain ⟨⟨t138, t139⟩, A500, H⟩ := H
     (try dsimp only at H)
     have A50 := Aside0.mk A500
     clear A500
     replace H := ite_yes H
     obtain ⟨c51, H⟩ := H
     subst c51
     replace H := oA H
     obtain ⟨t140, A52, H⟩ := H
     (try dsimp only at H)
     replace H := ite_yes H
     obtain ⟨c53, H⟩ := H
     subst c53
     replace H := ite_yes H
     obtain ⟨c54, H⟩ := H
     subst c54
     replace H := ite_yes H
     obtain ⟨c55, H⟩ := H
     subst c55
     replace H := ite_yes H
     obtain ⟨c56, H⟩ := H
     have c56b0 : (t136 == t138) = true := beq_iff_eq.mpr c56
     have c56b1 : (t136 != t138) = false := bne_eq_false_iff_eq.mpr c56
     clear c56
     as_aux_lemma =>
      have H' := Aside0.mk H
      clear H
      have hnb57 := NB115_109.out
      have hnc57 := NB109_115.out
      obtain ⟨hcz58_0, hcz58_1, hfz58_0, hfz58_1⟩ := zZ BK115
      obtain ⟨Ao59, co59, eo59⟩ := Kd.R_slice HO_12.out
      subst eo59
      go_upto_region 19 with (first | ((with_reducible refine gate_callee (f := 5) rfl ?_); refine gL 113 Tryz.func5 #[.agg #[.int .i64 t110, .slice Ao21 t111.length co21], .slice Ao59 x12_1.length co59] ?_; (with_reducible refine (impl_RenameCommittee.calls k1 t110 _ _ t111 _ _ x12_1 t130 t131 true _ ?side1 ?side2 ?side3 ?side4 A48.out).mono ?_); (case side1 => have hx_ := (Kd.R_reads' HO_116001.out).2.2; exact cC); (case side2 => exact (Kd.R_reads' HO_116001.out).2.1); (case side3 => have hx_ := (Kd.R_reads' HO_12.out).2.2; exact cC); (case side4 => exact (Kd.R_reads' HO_12.out).2.1); rintro e w60 ⟨v132, rfl, ho0, hb⟩; refine ⟨_, rfl, ?_⟩; have HO133 := Aside0.mk (Kd.R_lower (Kd.R_new' (Kd.R_new' (Kd.R_new' (Kd.R_new' ho0 (Kd.R_lt HO_12.out)) (Kd.R_lt HO_87.out)) (Kd.R_lt HO_110001.out)) (Kd.R_lt HO_116001.out)) (below_size HB.out)); replace HO_110001 := rE HO_110001 (Kd.R_base ho0) hb; replace HO_116001 := rE HO_116001 (Kd.R_base ho0) hb; replace BK109 := bB BK109 hb; replace BK115 := bB BK115 hb; replace HB := sB HB hb; (try clear hb); (try clear ho0)) | ((with_reducible refine gate_dst (N := 15) rfl ?_); (try (refine gate_guard (by rfl) ?_; dsimp only)); refine xE (N := 15) (cs := #[.int .i64 0, .slice none 0 0]) (t := 24) ?_; intro gb135 hg w61 BK135 hb; have GE135 := gS hg HB; have NB109_135 := nL hg (blk_lt BK109.out); have NB135_109 := nG hg (blk_lt BK109.out); have NB115_135 := nL hg (blk_lt BK115.out); have NB135_115 := nG hg (blk_lt BK115.out); replace HO_110001 := rB HO_110001 hb; replace HO_116001 := rB HO_116001 hb; replace HO133 := rB HO133 hb; replace BK109 := bB BK109 hb; replace BK115 := bB BK115 hb; replace HB := sB HB hb; clear hb hg; have hnb62 := NB135_109.out; have hnc62 := NB109_135.out; have hnb63 := NB135_115.out; have hnc63 := NB115_135.out; (try clear hcz58_0 hcz58_1 hfz58_0 hfz58_1); obtain ⟨hcz64_0, hcz64_1, hfz64_0, hfz64_1⟩ := zZ BK135; obtain ⟨Ao65, co65, eo65⟩ := Kd.R_slice HO133.out; subst eo65; obtain ⟨hcz66_0, hcz66_1, hfz66_0, hfz66_1⟩ := zZ BK109) | go_values | go_skip | go_guarded | go_step | go_upon | go_back | ((with_reducible (show Go.Oper.upon _ _ _ _ _ _)); go_simp) | (go_ite <;> go_prune <;> try go_simp))
      go_upto_region 20 with (first | ((with_reducible refine gate_callee (f := 8) rfl ?_); refine gL 118 Tryz.func8 #[.agg #[.int .i64 t102, .slice Ao15 t103.length co15]] ?_; (with_reducible refine (impl_CountWinning.calls k1 t102 _ _ t103 t136 true _ ?side1 ?side2 A49.out).mono ?_); (case side1 => refine (Kd.R_reads' (e := 3) (base := w.heap.size) (ok := fun k_ => ((nb (.slice Ao59 x12_1.length co59) k_ ∧ (nb (.slice Ao16 t106.length co16) k_ ∧ nb (.slice Ao21 t111.length co21) k_)) ∧ nb (.slice Ao65 t131.length co65) k_)) (n := t103.length) (c := co15) ?_).2.2; exact (by exact (Kd.R_mono (Kd.R_far (p := ⟨gb135, 1, none⟩) (Kd.R_far (p := ⟨gb135, 0, none⟩) (Kd.R_types HO_110001.out BK135.out (by decide)) (fun _ hk => hk.2) (.int .i64 t130)) (fun _ hk => hk.2) (.slice Ao65 t131.length co65)) (fun _ h_ => h_.1)))); (case side2 => exact (Kd.R_reads' HO_110001.out).2.1); rintro e w67 ⟨rfl, hb⟩; refine ⟨_, rfl, ?_⟩; replace HO_110001 := Aside0.mk (Kd.R_below (by exact (Kd.R_mono (Kd.R_far (p := ⟨gb135, 1, none⟩) (Kd.R_far (p := ⟨gb135, 0, none⟩) (Kd.R_types HO_110001.out BK135.out (by decide)) (fun _ hk => hk.2) (.int .i64 t130)) (fun _ hk => hk.2) (.slice Ao65 t131.length co65)) (fun _ h_ => h_.1))) hb); replace HO_116001 := Aside0.mk (Kd.R_below (by exact (Kd.R_mono (Kd.R_far (p := ⟨gb135, 1, none⟩) (Kd.R_far (p := ⟨gb135, 0, none⟩) (Kd.R_types HO_116001.out BK135.out (by decide)) (fun _ hk => hk.2) (.int .i64 t130)) (fun _ hk => hk.2) (.slice Ao65 t131.length co65)) (fun _ h_ => h_.1))) hb); replace HO133 := Aside0.mk (Kd.R_below (by exact (Kd.R_mono (Kd.R_far (p := ⟨gb135, 1, none⟩) (Kd.R_far (p := ⟨gb135, 0, none⟩) (Kd.R_types HO133.out BK135.out (by decide)) (fun _ hk => hk.2) (.int .i64 t130)) (fun _ hk => hk.2) (.slice Ao65 t131.length co65)) (fun _ h_ => h_.1))) hb); replace BK109 := Aside0.mk (blk_below (g := gb109) (o := .cells #[.int .i64 t102, .slice Ao15 t103.length co15] 24 (0, 0)) (by refine blk_far ?_ NB109_135.out _; refine blk_far ?_ NB109_135.out _; exact BK109.out) hb); replace BK115 := Aside0.mk (blk_below (g := gb115) (o := .cells #[.int .i64 t110, .slice Ao21 t111.length co21] 24 (0, 0)) (by refine blk_far ?_ NB115_135.out _; refine blk_far ?_ NB115_135.out _; exact BK115.out) hb); replace BK135 := Aside0.mk (blk_below (g := gb135) (o := .cells #[.int .i64 t130, .slice Ao65 t131.length co65] 24 (0, 0)) (by refine blk_put (cs := #[.int .i64 t130, .slice none 0 0]) ?_ 1 _ rfl; refine blk_put (cs := #[.int .i64 0, .slice none 0 0]) ?_ 0 _ rfl; exact BK135.out) hb); replace HB := Aside0.mk (below_step (by repeat (first | exact HB.out | apply ba | refine bs ?_ GE135.out)) hb); (try clear hb); (try clear hcz64_0 hcz64_1 hfz64_0 hfz64_1 hcz66_0 hcz66_1 hfz66_0 hfz66_1); obtain ⟨hcz68_0, hcz68_1, hfz68_0, hfz68_1⟩ := zZ BK115) | go_values | go_skip | go_guarded | go_step | go_upon | go_back | ((with_reducible (show Go.Oper.upon _ _ _ _ _ _)); go_simp) | (go_ite <;> go_prune <;> try go_simp))
      go_upto_region 21 with (first | ((with_reducible refine gate_callee (f := 8) rfl ?_); refine gL 123 Tryz.func8 #[.agg #[.int .i64 t110, .slice Ao21 t111.length co21]] ?_; (with_reducible refine (impl_CountWinning.calls k1 t110 _ _ t111 t138 true _ ?side1 ?side2 A50.out).mono ?_); (case side1 => have hx_ := (Kd.R_reads' HO_116001.out).2.2; exact cC); (case side2 => exact (Kd.R_reads' HO_116001.out).2.1); rintro e w69 ⟨rfl, hb⟩; refine ⟨_, rfl, ?_⟩; replace HO_110001 := rB HO_110001 hb; replace HO133 := rB HO133 hb; replace BK109 := bB BK109 hb; replace BK135 := bB BK135 hb; replace HB := sB HB hb; (try clear hb); (try clear hcz68_0 hcz68_1 hfz68_0 hfz68_1); obtain ⟨hcz70_0, hcz70_1, hfz70_0, hfz70_1⟩ := zZ BK135; obtain ⟨hcz71_0, hcz71_1, hfz71_0, hfz71_1⟩ := zZ BK109) | go_values | go_skip | go_guarded | go_step | go_upon | go_back | ((with_reducible (show Go.Oper.upon _ _ _ _ _ _)); go_simp) | (go_ite <;> go_prune <;> try go_simp))
      go_upto_region 9999 with (first | (go_at_call 7; (with_reducible refine (laws_mCommittee.calls k1 t130 _ _ t131 t102 _ _ t103 true _ ?side1 ?side2 ?side3 ?side4 A52.out).mono ?_); (case side1 => have hx_ := (Kd.R_reads' HO133.out).2.2; exact cC); (case side2 => exact (Kd.R_reads' HO133.out).2.1); (case side3 => have hx_ := (Kd.R_reads' HO_110001.out).2.2; exact cC); (case side4 => exact (Kd.R_reads' HO_110001.out).2.1); rintro e w72 ⟨rfl, hb⟩; replace HB := sB HB hb; (try clear hb)) | go_values | go_skip | go_guarded | go_step | go_upon | go_back | ((with_reducible (show Go.Oper.upon _ _ _ _ _ _)); go_simp) | (go_ite <;> go_prune <;> try go_simp))
      refine meetT_ hJ_j1 (by kernel_rfl) ?rel
      case rel => exact ⟨_, H', ⟨oN'⟩, ⟨wB⟩⟩
    rw [if_pos c36] at H
    have c36b0 := decide_eq_true c36
    clear c36
    (first | rw [c36b0] | (simp only [i64_w, i32_w]; rw [c36b0]) | skip)
    replace H := ite_yes H
    obtain ⟨c37, H⟩ := H
    have c37b0 : decide (0 ≤ x89_1) = true := decide_eq_true c37
    clear c37
    replace H := ite_yes H
    obtain ⟨c38, H⟩ := H
    have c38b0 : decide (x89_1 < (t106.length : Int)) = true := decide_eq_true c38
    clear c38
    replace H := ite_yes H
    obtain ⟨c39, H⟩ := H
    have c39b0 : decide (0 ≤ (rd t106 x89_1)) = true := decide_eq_true c39
    clear c39
    replace H := ite_yes H
    obtain ⟨c40, H⟩ := H
    have c40b0 : decide ((rd t106 x89_1) < (x12_1.length : Int)) = true := decide_eq_true c40
    clear c40
    obtain ⟨y127, hy127⟩ : ∃ y_ : List Int, y_ = (x12_1.set ((rd t106 x89_1) : Int).toNat x89_1) := ⟨_, rfl⟩
    replace H : (if x89_1 < (t111.length : Int) then (if (rd t106 x89_1) < (t103.length : Int) then (if (rd t111 x89_1) = (rd t103 (rd t106 x89_1)) then (laws_FnCommitteesChange.l0 k1 l1 y127 t106 (t106.length : Int) (wrap64 (x89_1 + 1)) t102 t103 t110 t111) else (none)) else (none)) else (none)) = some r := by first | (rw [hy127]; with_reducible exact H) | (have H2_ := (Option.bind_some _ _).symm.trans H; rw [hy127]; with_reducible exact H2_) | (have H2_ := (Option.bind_some _ _).symm.trans H; with_reducible exact H2_) | with_reducible exact H | (rw [hy127]; exact H) | exact H
    have Ny127 := Aside0.mk hy127
    clear hy127
    replace H := ite_yes H
    obtain ⟨c42, H⟩ := H
    have c42b0 : decide (x89_1 < (t111.length : Int)) = true := decide_eq_true c42
    clear c42
    replace H := ite_yes H
    obtain ⟨c43, H⟩ := H
    have c43b0 : decide ((rd t106 x89_1) < (t103.length : Int)) = true := decide_eq_true c43
    clear c43
    replace H := ite_yes H
    obtain ⟨c44, H⟩ := H
    have c44b0 : ((rd t111 x89_1) == (rd t103 (rd t106 x89_1))) = true := beq_iff_eq.mpr c44
    have c44b1 : ((rd t111 x89_1) != (rd t103 (rd t106 x89_1))) = false := bne_eq_false_iff_eq.mpr c44
    clear c44
    as_aux_lemma =>
     have H' := Aside0.mk H
     clear H
     have p126 : 0 ≤ (x89_1 : Int) := oD
     have q126 : x89_1 < (t106.length : Int) := oD
     obtain ⟨ad126, e126, hx126_0⟩ := Kd.at_int (Kd.R_reads' HO_87.out).2.2 x89_1 p126 q126
     cases e126
     replace p126 := eq_true p126
     replace q126 := eq_true q126
     have p41 : 0 ≤ ((rd t106 x89_1) : Int) := oD
     have q41 : ((rd t106 x89_1) : Int) < ((x12_1.length : Int) : Int) := oD
     obtain ⟨go41, co41, eo41, gb41, gl41, cl41, HG41⟩ := Kd.R_form HO_12.out (by omega)
     (first | cases eo41 | (injection eo41 with ea_ en_ ec_; (first | subst ea_ | (injection ea_ with ea_; subst ea_)); subst ec_; clear en_))
     have GB41 := Aside0.mk gb41
     have GG41 := Aside0.mk HG41
     clear gb41 gl41 HG41
     obtain ⟨hx41_0, hf41_0⟩ := Kd.R_celln 0 HO_12.out ((rd t106 x89_1) : Int) p41 q41
     replace p41 := eq_true p41
     replace q41 := eq_true q41
     have HP45 := Kd.R_putg HO_12.out ((rd t106 x89_1) : Int) x89_1
     try go_wp2_with (first | ((with_reducible refine gate_store (t := 3) (p := 97) rfl ?_); refine sE (t := 3) (p := 97) (w1 := (wr.setCell ⟨go41, ((rd t106 x89_1) : Int).toNat, none⟩ (.int .i64 x89_1))) ?_; intro w46 hw; have hg : wr.grownBy w46 (some go41) := (by rw [hw]; exact HP45.2); have hp_ : Kd.R (Kd.int .i64) 3 w46 w.heap.size (fun k_ => nb (.slice (some ad126) t106.length co16) k_ ∧ nb (.slice Ao15 t103.length co15) k_ ∧ nb (.slice Ao21 t111.length co21) k_) (.slice (some ⟨go41, 0, none⟩) x12_1.length co41) y127 := (by rw [hw, Ny127.out]; exact HP45.1); clear HP45; replace HO_87 := Aside0.mk (Kd.R_after (v := (.slice (some ⟨go41, 0, none⟩) x12_1.length co41)) (v1 := (.slice (some ⟨go41, 0, none⟩) x12_1.length co41)) (ok := (fun k_ => nb (.slice Ao15 t103.length co15) k_ ∧ nb (.slice Ao21 t111.length co21) k_)) (by exact Kd.R_mono HO_87.out (fun _ hk => ⟨⟨hk.2.1, hk.2.2⟩, hk.1⟩)) hg (.inl rfl)); replace HO_110001 := Aside0.mk (Kd.R_after (v := (.slice (some ⟨go41, 0, none⟩) x12_1.length co41)) (v1 := (.slice (some ⟨go41, 0, none⟩) x12_1.length co41)) (ok := (fun k_ => nb (.slice (some ad126) t106.length co16) k_ ∧ nb (.slice Ao21 t111.length co21) k_)) (by exact Kd.R_mono HO_110001.out (fun _ hk => ⟨⟨hk.2.1, hk.2.2⟩, hk.1⟩)) hg (.inl rfl)); replace HO_116001 := Aside0.mk (Kd.R_after (v := (.slice (some ⟨go41, 0, none⟩) x12_1.length co41)) (v1 := (.slice (some ⟨go41, 0, none⟩) x12_1.length co41)) (ok := (fun k_ => nb (.slice (some ad126) t106.length co16) k_ ∧ nb (.slice Ao15 t103.length co15) k_)) (by exact Kd.R_mono HO_116001.out (fun _ hk => ⟨⟨hk.2.1, hk.2.2⟩, hk.1⟩)) hg (.inl rfl)); replace BK109 := Aside0.mk (blk_grown (g := gb109) (o := .cells #[.int .i64 t102, .slice Ao15 t103.length co15] 24 (0, 0)) BK109.out hg (Kd.R_ne HO_12.out BK109.out (by decide))); replace BK115 := Aside0.mk (blk_grown (g := gb115) (o := .cells #[.int .i64 t110, .slice Ao21 t111.length co21] 24 (0, 0)) BK115.out hg (Kd.R_ne HO_12.out BK115.out (by decide))); replace HO_12 := Aside0.mk (hp_); replace HB := Aside0.mk ((by rw [hw]; exact below_set (HB.out) GB41.out : Below w.heap.size w w46)); clear hg hw hp_))
     replace HO_12 := rD HO_12
     replace HO_87 := rD HO_87
     replace HO_110001 := rD HO_110001
     replace HO_116001 := rD HO_116001
     replace BK109 := bD BK109
     replace BK115 := bD BK115
     replace HB := Aside0.mk (below_drew1 HB.out)
     have p128 : 0 ≤ (x89_1 : Int) := oD
     have q128 : x89_1 < (t111.length : Int) := oD
     obtain ⟨ad128, e128, hx128_0⟩ := Kd.at_int (Kd.R_reads' HO_116001.out).2.2 x89_1 p128 q128
     cases e128
     replace p128 := eq_true p128
     replace q128 := eq_true q128
     have p129 : 0 ≤ ((rd t106 x89_1) : Int) := oD
     have q129 : (rd t106 x89_1) < (t103.length : Int) := oD
     obtain ⟨ad129, e129, hx129_0⟩ := Kd.at_int (Kd.R_reads' HO_110001.out).2.2 (rd t106 x89_1) p129 q129
     cases e129
     replace p129 := eq_true p129
     replace q129 := eq_true q129
     refine start_ (n := 11) (S := fun w' => w'.cell? ⟨gb115, 0, none⟩ = some (.int .i64 t110) ∧ w'.cell? ⟨gb115, 1, none⟩ = some (.slice (some ad128) t111.length co21) ∧ w'.cell? ⟨gb109, 0, none⟩ = some (.int .i64 t102) ∧ w'.cell? ⟨gb109, 1, none⟩ = some (.slice (some ad129) t103.length co15) ∧ w'.cell? (ad128.add (x89_1).toNat) = some (.int .i64 (rd t111 x89_1)) ∧ w'.cell? (ad129.add ((rd t106 x89_1)).toNat) = some (.int .i64 (rd t103 (rd t106 x89_1)))) (ds := []) #[F,F,F,F,F,F,F,F,F,F,F] (by kernel_rfl) rfl rfl ⟨(blk_cell BK115.out 0).trans rfl, (blk_cell BK115.out 1).trans rfl, (blk_cell BK109.out 0).trans rfl, (blk_cell BK109.out 1).trans rfl, hx128_0, hx129_0⟩ (fun hHeld => ?_); refine with_tabW laws_FnCommitteesChange.tab15 laws_FnCommitteesChange.bits15 (fun HT_ HW_ => ?_)
     generalize w46.drew = w47 at HO_12 HO_87 HO_110001 HO_116001 BK109 BK115 HB hx128_0 hx129_0 hHeld ⊢
     refine pU 0 HT_ ?_
     refine pU 2 HT_ ?_
     refine pU 5 HT_ ?_
     refine pU 7 HT_ ?_
     refine tK 1 HT_ HW_ hHeld (hy := by rintro w' ⟨s0, s1, s2, s3, s4, s5⟩; go_simp; with_reducible rfl) ?_
     refine pU 3 HT_ ?_
     refine tK 4 HT_ HW_ hHeld (hy := by rintro w' ⟨s0, s1, s2, s3, s4, s5⟩; go_simp; with_reducible rfl) ?_
     refine tK 6 HT_ HW_ hHeld (hy := by rintro w' ⟨s0, s1, s2, s3, s4, s5⟩; go_simp; with_reducible rfl) ?_
     refine pU 8 HT_ ?_
     refine tK 9 HT_ HW_ hHeld (hy := by rintro w' ⟨s0, s1, s2, s3, s4, s5⟩; go_simp; with_reducible rfl) ?_
     refine pU 10 HT_ ?_
     refine done_ (done_of HT_.out (by kernel_rfl)) ?_
     try go_upto_region 9999 with (first | go_values | go_skip | go_guarded | go_step | go_upon | go_back | ((with_reducible (show Go.Oper.upon _ _ _ _ _ _)); go_simp) | (go_ite <;> go_prune <;> try go_simp))
     refine roundT_ k1 ?measure hJ_l0 (by kernel_rfl) ?rel
     case measure => have := HK1.out; omega
     case rel => exact ⟨(y127), (wrap64 (x89_1 + 1)), gR, H', ⟨by have := HK1.out; omega⟩, ⟨by exact HO_12.out⟩, ⟨by exact Kd.R_mono HO_87.out (fun _ hk => by first | exact ⟨hk.2, ⟨hk.1.1, hk.1.2⟩⟩ | simp_all)⟩, ⟨by exact Kd.R_mono HO_110001.out (fun _ hk => by first | exact ⟨hk.2, ⟨hk.1.1, hk.1.2⟩⟩ | simp_all)⟩, ⟨by exact Kd.R_mono HO_116001.out (fun _ hk => by first | exact ⟨hk.2, ⟨hk.1.1, hk.1.2⟩⟩ | simp_all)⟩, ⟨by exact BK109.out⟩, ⟨by exact BK115.out⟩, ⟨wB⟩⟩
 case restj1 => as_aux_lemma =>
  intro T_ wc hcut
  simp only [putT, putM, T, F, Nat.reduceAdd]
  (try dsimp only at hcut)
  clear HC11
  (try clear c1); (try clear p1); (try clear q1); (try clear hx1); (try clear c2); (try clear p2); (try clear c3); (try clear c4); (try clear p4); (try clear q4); (try clear hx4); (try clear hf4); (try clear c5); (try clear c6); (try clear p6); (try clear c8); (try clear c10); (try clear p12); (try clear q12); (try clear hx12); (try clear c19); (try clear c21); (try clear c22); (try clear c25); (try clear c26); (try clear c31); (try clear c32); (try clear c32b0); (try clear c32b1); (try clear c33); (try clear c33b0); (try clear c33b1); (try clear c36); (try clear c36b0); (try clear c37); (try clear c37b0); (try clear c38); (try clear c38b0); (try clear c39); (try clear c39b0); (try clear c40); (try clear c40b0); (try clear p41); (try clear q41); (try clear hx41); (try clear hf41); (try clear c42); (try clear c42b0); (try clear c43); (try clear c43b0); (try clear c44); (try clear c44b0); (try clear c44b1); (try clear c51); (try clear c53); (try clear c54); (try clear c55); (try clear c56); (try clear c56b0); (try clear c56b1); (try clear c57); (try clear c62); (try clear c63); (try clear p64); (try clear hcz27_0); (try clear hcz27_1); (try clear hcz29_0); (try clear hcz29_1); (try clear hcz70_0); (try clear hcz70_1); (try clear hcz71_0); (try clear hcz71_1); (try clear hfz27_0); (try clear hfz27_1); (try clear hfz29_0); (try clear hfz29_1); (try clear hfz70_0); (try clear hfz70_1); (try clear hfz71_0); (try clear hfz71_1); (try clear hx126_0); (try clear hx128_0); (try clear hx129_0); (try clear hx41_0); (try clear p126); (try clear p128); (try clear p129); (try clear p2); (try clear p41); (try clear q126); (try clear q128); (try clear q129); (try clear q41)
  obtain ⟨kq, HA, HJ10, HB⟩ := hcut
  cases kq with
  | zero => exact absurd HA.out (by simp [laws_FnCommitteesChange.j1])
  | succ kj10 =>
   have H := HA.out
   clear HA
   simp only [laws_FnCommitteesChange.j1] at H
   replace H := oB H
   obtain ⟨⟨t141, t142, t145⟩, A730, H⟩ := H
   (try dsimp only at H)
   have A73 := Aside0.mk A730
   clear A730
   replace H := oB H
   obtain ⟨⟨t147, t148, t151⟩, A740, H⟩ := H
   (try dsimp only at H)
   have A74 := Aside0.mk A740
   clear A740
   replace H := oB H
   obtain ⟨⟨t153, t154, t157⟩, A750, H⟩ := H
   (try dsimp only at H)
   have A75 := Aside0.mk A750
   clear A750
   replace H := oB H
   obtain ⟨⟨t159, t160, t163, t164⟩, A760, H⟩ := H
   (try dsimp only at H)
   have A76 := Aside0.mk A760
   clear A760
   replace H := oB H
   obtain ⟨⟨t169, t170⟩, A770, H⟩ := H
   (try dsimp only at H)
   have A77 := Aside0.mk A770
   clear A770
   replace H := oB H
   obtain ⟨⟨t171, t172⟩, A780, H⟩ := H
   (try dsimp only at H)
   have A78 := Aside0.mk A780
   clear A780
   replace H := oB H
   obtain ⟨⟨t173, t174⟩, A790, H⟩ := H
   (try dsimp only at H)
   have A79 := Aside0.mk A790
   clear A790
   replace H := oB H
   obtain ⟨⟨t178, t179⟩, A800, H⟩ := H
   (try dsimp only at H)
   have A80 := Aside0.mk A800
   clear A800
   replace H := oB H
   obtain ⟨⟨t180, t181⟩, A810, H⟩ := H
   (try dsimp only at H)
   have A81 := Aside0.mk A810
   clear A810
   replace H := oA H
   obtain ⟨t182, A82, H⟩ := H
   (try dsimp only at H)
   replace H := oB H
   obtain ⟨⟨t183, t184, t187⟩, A830, H⟩ := H
   (try dsimp only at H)
   have A83 := Aside0.mk A830
   clear A830
   replace H := oB H
   obtain ⟨⟨t189, t190, t193⟩, A840, H⟩ := H
   (try dsimp only at H)
   have A84 := Aside0.mk A840
   clear A840
   replace H := ite_no H
   obtain ⟨c85, H⟩ := H
   replace c85 := of_nbne c85
   subst t151
   replace H := oA H
   obtain ⟨t195, A86, H⟩ := H
   (try dsimp only at H)
   replace H := ite_yes H
   obtain ⟨c87, H⟩ := H
   subst c87
   replace H := ite_no H
   obtain ⟨c88, H⟩ := H
   replace c88 := of_nbne c88
   subst t170
   replace H := ite_no H
   obtain ⟨c89, H⟩ := H
   replace c89 := of_nbne c89
   subst t169
   replace H := ite_no H
   obtain ⟨c90, H⟩ := H
   replace c90 := of_nbne c90
   subst t179
   replace H := ite_yes H
   obtain ⟨c91, H⟩ := H
   have c91b0 : (t178.toList == t180.toList) = true := beq_iff_eq.mpr c91
   have c91b1 : (t178.toList != t180.toList) = false := bne_eq_false_iff_eq.mpr c91
   clear c91
   replace H := ite_no H
   obtain ⟨c92, H⟩ := H
   replace c92 := of_nbne c92
   subst t187
   replace H := oA H
   obtain ⟨t196, A93, H⟩ := H
   (try dsimp only at H)
   replace H := ite_yes H
   obtain ⟨c94, H⟩ := H
   subst c94
   replace H := oA H
   obtain ⟨t197, A95, H⟩ := H
   (try dsimp only at H)
   replace H := ite_no H
   obtain ⟨c96, H⟩ := H
   replace c96 := of_nbne c96
   subst t181
   have HC97 := Aside0.mk H
   clear H
   go_upto_region 24 with (first | ((with_reducible refine gate_callee (f := 23) rfl ?_); refine gL 149 Tryz.func23 #[.slice A1 l1.length c1] ?_; (with_reducible refine (spec_DrawDropMember.calls kj10 _ _ l1 t141 t142 t145 _ (Kd.C_below HR1.out HB.out) HC1.out A73.out).mono ?_); rintro e w98 ⟨v143, rfl, ho0, hb⟩; refine ⟨_, rfl, ?_⟩; have HO144 := Aside0.mk (Kd.R_lower ho0 (below_size HB.out)); replace HB := sB HB hb; (try clear hb); (try clear ho0)) | ((with_reducible refine gate_dst (N := 21) rfl ?_); (try (refine gate_guard (by rfl) ?_; dsimp only)); refine xE (N := 21) (cs := #[.int .i64 0, .slice none 0 0]) (t := 24) ?_; intro gb146 hg w99 BK146 hb; have GE146 := gS hg HB; replace HO144 := rB HO144 hb; replace HB := sB HB hb; clear hb hg; obtain ⟨hcz100_0, hcz100_1, hfz100_0, hfz100_1⟩ := zZ BK146; obtain ⟨Ao101, co101, eo101⟩ := Kd.R_slice HO144.out; subst eo101) | go_values | go_skip | go_guarded | go_step | go_upon | go_back | ((with_reducible (show Go.Oper.upon _ _ _ _ _ _)); go_simp) | (go_ite <;> go_prune <;> try go_simp))
   go_upto_region 25 with (first | ((with_reducible refine gate_callee (f := 9) rfl ?_); refine gL 155 Tryz.func9 #[.agg #[.int .i64 t141, .slice Ao101 t142.length co101], .int .i64 t145] ?_; (with_reducible refine (impl_DropMember.calls kj10 t141 _ _ t142 t145 t147 t148 t157 _ ?side1 ?side2 A74.out).mono ?_); (case side1 => refine (Kd.R_reads' (e := 3) (base := w.heap.size) (ok := fun k_ => True) (n := t142.length) (c := co101) ?_).2.2; exact (by exact (Kd.R_mono (Kd.R_far (p := ⟨gb146, 1, none⟩) (Kd.R_far (p := ⟨gb146, 0, none⟩) (Kd.R_types HO144.out BK146.out (by decide)) (fun _ hk => hk.2) (.int .i64 t141)) (fun _ hk => hk.2) (.slice Ao101 t142.length co101)) (fun _ h_ => h_.1)))); (case side2 => exact (Kd.R_reads' HO144.out).2.1); rintro e w102 ⟨v149, rfl, ho0, hb⟩; refine ⟨_, rfl, ?_⟩; have HO150 := Aside0.mk (Kd.R_lower (Kd.R_new' ho0 (Kd.R_lt (by exact (Kd.R_mono (Kd.R_far (p := ⟨gb146, 1, none⟩) (Kd.R_far (p := ⟨gb146, 0, none⟩) (Kd.R_types HO144.out BK146.out (by decide)) (fun _ hk => hk.2) (.int .i64 t141)) (fun _ hk => hk.2) (.slice Ao101 t142.length co101)) (fun _ h_ => h_.1))))) (below_size (by repeat (first | exact HB.out | apply ba | refine bs ?_ GE146.out)))); replace HO144 := Aside0.mk (Kd.R_elder' (by exact (Kd.R_mono (Kd.R_far (p := ⟨gb146, 1, none⟩) (Kd.R_far (p := ⟨gb146, 0, none⟩) (Kd.R_types HO144.out BK146.out (by decide)) (fun _ hk => hk.2) (.int .i64 t141)) (fun _ hk => hk.2) (.slice Ao101 t142.length co101)) (fun _ h_ => h_.1))) (Kd.R_base ho0) hb); replace BK146 := Aside0.mk (blk_below (g := gb146) (o := .cells #[.int .i64 t141, .slice Ao101 t142.length co101] 24 (0, 0)) (by refine blk_put (cs := #[.int .i64 t141, .slice none 0 0]) ?_ 1 _ rfl; refine blk_put (cs := #[.int .i64 0, .slice none 0 0]) ?_ 0 _ rfl; exact BK146.out) hb); replace HB := Aside0.mk (below_step (by repeat (first | exact HB.out | apply ba | refine bs ?_ GE146.out)) hb); (try clear hb); (try clear ho0)) | ((with_reducible refine gate_dst (N := 23) rfl ?_); (try (refine gate_guard (by rfl) ?_; dsimp only)); refine xE (N := 23) (cs := #[.int .i64 0, .slice none 0 0]) (t := 24) ?_; intro gb152 hg w103 BK152 hb; have GE152 := gS hg HB; have NB146_152 := nL hg (blk_lt BK146.out); have NB152_146 := nG hg (blk_lt BK146.out); replace HO144 := rB HO144 hb; replace HO150 := rB HO150 hb; replace BK146 := bB BK146 hb; replace HB := sB HB hb; clear hb hg; have hnb104 := NB152_146.out; have hnc104 := NB146_152.out; (try clear hcz100_0 hcz100_1 hfz100_0 hfz100_1); obtain ⟨hcz105_0, hcz105_1, hfz105_0, hfz105_1⟩ := zZ BK152; obtain ⟨Ao106, co106, eo106⟩ := Kd.R_slice HO150.out; subst eo106; obtain ⟨hcz107_0, hcz107_1, hfz107_0, hfz107_1⟩ := zZ BK146) | go_values | go_skip | go_guarded | go_step | go_upon | go_back | ((with_reducible (show Go.Oper.upon _ _ _ _ _ _)); go_simp) | (go_ite <;> go_prune <;> try go_simp))
   go_upto_region 26 with (first | ((with_reducible refine gate_callee (f := 10) rfl ?_); refine gL 161 Tryz.func10 #[.agg #[.int .i64 t141, .slice Ao101 t142.length co101], .int .i64 t145] ?_; (with_reducible refine (spec_DropMember.calls kj10 t141 _ _ t142 t145 t153 t154 t157 _ ?side1 ?side2 A75.out).mono ?_); (case side1 => refine (Kd.R_reads' (e := 3) (base := w.heap.size) (ok := fun k_ => (True ∧ nb (.slice Ao106 t148.length co106) k_)) (n := t142.length) (c := co101) ?_).2.2; exact (by exact (Kd.R_mono (Kd.R_far (p := ⟨gb152, 1, none⟩) (Kd.R_far (p := ⟨gb152, 0, none⟩) (Kd.R_types HO144.out BK152.out (by decide)) (fun _ hk => hk.2) (.int .i64 t147)) (fun _ hk => hk.2) (.slice Ao106 t148.length co106)) (fun _ h_ => h_.1)))); (case side2 => exact (Kd.R_reads' HO144.out).2.1); rintro e w108 ⟨v155, rfl, ho0, hb⟩; refine ⟨_, rfl, ?_⟩; have HO156 := Aside0.mk (Kd.R_lower (Kd.R_new' (Kd.R_new' ho0 (Kd.R_lt (by exact (Kd.R_mono (Kd.R_far (p := ⟨gb152, 1, none⟩) (Kd.R_far (p := ⟨gb152, 0, none⟩) (Kd.R_types HO144.out BK152.out (by decide)) (fun _ hk => hk.2) (.int .i64 t147)) (fun _ hk => hk.2) (.slice Ao106 t148.length co106)) (fun _ h_ => h_.1))))) (Kd.R_lt (by exact (Kd.R_mono (Kd.R_far (p := ⟨gb152, 1, none⟩) (Kd.R_far (p := ⟨gb152, 0, none⟩) (Kd.R_types HO150.out BK152.out (by decide)) (fun _ hk => hk.2) (.int .i64 t147)) (fun _ hk => hk.2) (.slice Ao106 t148.length co106)) (fun _ h_ => h_.1))))) (below_size (by repeat (first | exact HB.out | apply ba | refine bs ?_ GE152.out)))); replace HO144 := Aside0.mk (Kd.R_elder' (by exact (Kd.R_mono (Kd.R_far (p := ⟨gb152, 1, none⟩) (Kd.R_far (p := ⟨gb152, 0, none⟩) (Kd.R_types HO144.out BK152.out (by decide)) (fun _ hk => hk.2) (.int .i64 t147)) (fun _ hk => hk.2) (.slice Ao106 t148.length co106)) (fun _ h_ => h_.1))) (Kd.R_base ho0) hb); replace HO150 := Aside0.mk (Kd.R_elder' (by exact (Kd.R_mono (Kd.R_far (p := ⟨gb152, 1, none⟩) (Kd.R_far (p := ⟨gb152, 0, none⟩) (Kd.R_types HO150.out BK152.out (by decide)) (fun _ hk => hk.2) (.int .i64 t147)) (fun _ hk => hk.2) (.slice Ao106 t148.length co106)) (fun _ h_ => h_.1))) (Kd.R_base ho0) hb); replace BK146 := Aside0.mk (blk_below (g := gb146) (o := .cells #[.int .i64 t141, .slice Ao101 t142.length co101] 24 (0, 0)) (by refine blk_far ?_ NB146_152.out _; refine blk_far ?_ NB146_152.out _; exact BK146.out) hb); replace BK152 := Aside0.mk (blk_below (g := gb152) (o := .cells #[.int .i64 t147, .slice Ao106 t148.length co106] 24 (0, 0)) (by refine blk_put (cs := #[.int .i64 t147, .slice none 0 0]) ?_ 1 _ rfl; refine blk_put (cs := #[.int .i64 0, .slice none 0 0]) ?_ 0 _ rfl; exact BK152.out) hb); replace HB := Aside0.mk (below_step (by repeat (first | exact HB.out | apply ba | refine bs ?_ GE152.out)) hb); (try clear hb); (try clear ho0)) | ((with_reducible refine gate_dst (N := 25) rfl ?_); (try (refine gate_guard (by rfl) ?_; dsimp only)); refine xE (N := 25) (cs := #[.int .i64 0, .slice none 0 0]) (t := 24) ?_; intro gb158 hg w109 BK158 hb; have GE158 := gS hg HB; have NB146_158 := nL hg (blk_lt BK146.out); have NB158_146 := nG hg (blk_lt BK146.out); have NB152_158 := nL hg (blk_lt BK152.out); have NB158_152 := nG hg (blk_lt BK152.out); replace HO144 := rB HO144 hb; replace HO150 := rB HO150 hb; replace HO156 := rB HO156 hb; replace BK146 := bB BK146 hb; replace BK152 := bB BK152 hb; replace HB := sB HB hb; clear hb hg; have hnb110 := NB158_146.out; have hnc110 := NB146_158.out; have hnb111 := NB158_152.out; have hnc111 := NB152_158.out; (try clear hcz105_0 hcz105_1 hfz105_0 hfz105_1 hcz107_0 hcz107_1 hfz107_0 hfz107_1); obtain ⟨hcz112_0, hcz112_1, hfz112_0, hfz112_1⟩ := zZ BK158; obtain ⟨Ao113, co113, eo113⟩ := Kd.R_slice HO156.out; subst eo113) | go_values | go_skip | go_guarded | go_step | go_upon | go_back | ((with_reducible (show Go.Oper.upon _ _ _ _ _ _)); go_simp) | (go_ite <;> go_prune <;> try go_simp))
   go_upto_region 27 with (first | ((with_reducible refine gate_callee (f := 24) rfl ?_); refine gL 166 Tryz.func24 #[.slice A1 l1.length c1] ?_; (with_reducible refine (spec_DrawAreSameVotes.calls kj10 _ _ l1 t159 t160 t163 t164 _ (Kd.C_below HR1.out (by repeat (first | exact HB.out | apply ba | refine bs ?_ GE158.out))) HC1.out A76.out).mono ?_); rintro e w114 ⟨v161, v165, rfl, ho0, ho1, hb⟩; refine ⟨_, rfl, ?_⟩; have HO162 := Aside0.mk (Kd.R_lower (Kd.R_new' (Kd.R_new' (Kd.R_new' ho0 (Kd.R_lt (by exact (Kd.R_mono (Kd.R_far (p := ⟨gb158, 1, none⟩) (Kd.R_far (p := ⟨gb158, 0, none⟩) (Kd.R_types HO144.out BK158.out (by decide)) (fun _ hk => hk.2) (.int .i64 t153)) (fun _ hk => hk.2) (.slice Ao113 t154.length co113)) (fun _ h_ => h_.1))))) (Kd.R_lt (by exact (Kd.R_mono (Kd.R_far (p := ⟨gb158, 1, none⟩) (Kd.R_far (p := ⟨gb158, 0, none⟩) (Kd.R_types HO150.out BK158.out (by decide)) (fun _ hk => hk.2) (.int .i64 t153)) (fun _ hk => hk.2) (.slice Ao113 t154.length co113)) (fun _ h_ => h_.1))))) (Kd.R_lt (by exact (Kd.R_mono (Kd.R_far (p := ⟨gb158, 1, none⟩) (Kd.R_far (p := ⟨gb158, 0, none⟩) (Kd.R_types HO156.out BK158.out (by decide)) (fun _ hk => hk.2) (.int .i64 t153)) (fun _ hk => hk.2) (.slice Ao113 t154.length co113)) (fun _ h_ => h_.1))))) (below_size (by repeat (first | exact HB.out | apply ba | refine bs ?_ GE158.out)))); have HO166 := Aside0.mk (Kd.R_lower (Kd.R_new' (Kd.R_new' (Kd.R_new' ho1 (Kd.R_lt (by exact (Kd.R_mono (Kd.R_far (p := ⟨gb158, 1, none⟩) (Kd.R_far (p := ⟨gb158, 0, none⟩) (Kd.R_types HO144.out BK158.out (by decide)) (fun _ hk => hk.2) (.int .i64 t153)) (fun _ hk => hk.2) (.slice Ao113 t154.length co113)) (fun _ h_ => h_.1))))) (Kd.R_lt (by exact (Kd.R_mono (Kd.R_far (p := ⟨gb158, 1, none⟩) (Kd.R_far (p := ⟨gb158, 0, none⟩) (Kd.R_types HO150.out BK158.out (by decide)) (fun _ hk => hk.2) (.int .i64 t153)) (fun _ hk => hk.2) (.slice Ao113 t154.length co113)) (fun _ h_ => h_.1))))) (Kd.R_lt (by exact (Kd.R_mono (Kd.R_far (p := ⟨gb158, 1, none⟩) (Kd.R_far (p := ⟨gb158, 0, none⟩) (Kd.R_types HO156.out BK158.out (by decide)) (fun _ hk => hk.2) (.int .i64 t153)) (fun _ hk => hk.2) (.slice Ao113 t154.length co113)) (fun _ h_ => h_.1))))) (below_size (by repeat (first | exact HB.out | apply ba | refine bs ?_ GE158.out)))); replace HO144 := Aside0.mk (Kd.R_mono (Kd.R_told (Kd.R_told (Kd.R_old (by exact (Kd.R_mono (Kd.R_far (p := ⟨gb158, 1, none⟩) (Kd.R_far (p := ⟨gb158, 0, none⟩) (Kd.R_types HO144.out BK158.out (by decide)) (fun _ hk => hk.2) (.int .i64 t153)) (fun _ hk => hk.2) (.slice Ao113 t154.length co113)) (fun _ h_ => h_.1))) hb) (Kd.R_base ho0)) (Kd.R_base ho1)) (fun _ h_ => h_.1)); replace HO150 := Aside0.mk (Kd.R_mono (Kd.R_told (Kd.R_told (Kd.R_old (by exact (Kd.R_mono (Kd.R_far (p := ⟨gb158, 1, none⟩) (Kd.R_far (p := ⟨gb158, 0, none⟩) (Kd.R_types HO150.out BK158.out (by decide)) (fun _ hk => hk.2) (.int .i64 t153)) (fun _ hk => hk.2) (.slice Ao113 t154.length co113)) (fun _ h_ => h_.1))) hb) (Kd.R_base ho0)) (Kd.R_base ho1)) (fun _ h_ => h_.1)); replace HO156 := Aside0.mk (Kd.R_mono (Kd.R_told (Kd.R_told (Kd.R_old (by exact (Kd.R_mono (Kd.R_far (p := ⟨gb158, 1, none⟩) (Kd.R_far (p := ⟨gb158, 0, none⟩) (Kd.R_types HO156.out BK158.out (by decide)) (fun _ hk => hk.2) (.int .i64 t153)) (fun _ hk => hk.2) (.slice Ao113 t154.length co113)) (fun _ h_ => h_.1))) hb) (Kd.R_base ho0)) (Kd.R_base ho1)) (fun _ h_ => h_.1)); replace BK146 := Aside0.mk (blk_below (g := gb146) (o := .cells #[.int .i64 t141, .slice Ao101 t142.length co101] 24 (0, 0)) (by refine blk_far ?_ NB146_158.out _; refine blk_far ?_ NB146_158.out _; exact BK146.out) hb); replace BK152 := Aside0.mk (blk_below (g := gb152) (o := .cells #[.int .i64 t147, .slice Ao106 t148.length co106] 24 (0, 0)) (by refine blk_far ?_ NB152_158.out _; refine blk_far ?_ NB152_158.out _; exact BK152.out) hb); replace BK158 := Aside0.mk (blk_below (g := gb158) (o := .cells #[.int .i64 t153, .slice Ao113 t154.length co113] 24 (0, 0)) (by refine blk_put (cs := #[.int .i64 t153, .slice none 0 0]) ?_ 1 _ rfl; refine blk_put (cs := #[.int .i64 0, .slice none 0 0]) ?_ 0 _ rfl; exact BK158.out) hb); replace HB := Aside0.mk (below_step (by repeat (first | exact HB.out | apply ba | refine bs ?_ GE158.out)) hb); (try clear hb); (try clear ho0); (try clear ho1)) | ((with_reducible refine gate_dst (N := 27) rfl ?_); (try (refine gate_guard (by rfl) ?_; dsimp only)); refine xE (N := 27) (cs := #[.int .i64 0, .slice none 0 0]) (t := 24) ?_; intro gb167 hg w115 BK167 hb; have GE167 := gS hg HB; have NB146_167 := nL hg (blk_lt BK146.out); have NB167_146 := nG hg (blk_lt BK146.out); have NB152_167 := nL hg (blk_lt BK152.out); have NB167_152 := nG hg (blk_lt BK152.out); have NB158_167 := nL hg (blk_lt BK158.out); have NB167_158 := nG hg (blk_lt BK158.out); replace HO144 := rB HO144 hb; replace HO150 := rB HO150 hb; replace HO156 := rB HO156 hb; replace HO162 := rB HO162 hb; replace HO166 := rB HO166 hb; replace BK146 := bB BK146 hb; replace BK152 := bB BK152 hb; replace BK158 := bB BK158 hb; replace HB := sB HB hb; clear hb hg) | ((with_reducible refine gate_dst (N := 28) rfl ?_); (try (refine gate_guard (by rfl) ?_; dsimp only)); refine xE (N := 28) (cs := #[.int .i64 0, .slice none 0 0]) (t := 24) ?_; intro gb168 hg w116 BK168 hb; have GE168 := gS hg HB; have NB146_168 := nL hg (blk_lt BK146.out); have NB168_146 := nG hg (blk_lt BK146.out); have NB152_168 := nL hg (blk_lt BK152.out); have NB168_152 := nG hg (blk_lt BK152.out); have NB158_168 := nL hg (blk_lt BK158.out); have NB168_158 := nG hg (blk_lt BK158.out); have NB167_168 := nL hg (blk_lt BK167.out); have NB168_167 := nG hg (blk_lt BK167.out); replace HO144 := rB HO144 hb; replace HO150 := rB HO150 hb; replace HO156 := rB HO156 hb; replace HO162 := rB HO162 hb; replace HO166 := rB HO166 hb; replace BK146 := bB BK146 hb; replace BK152 := bB BK152 hb; replace BK158 := bB BK158 hb; replace BK167 := bB BK167 hb; replace HB := sB HB hb; clear hb hg; have hnb117 := NB167_146.out; have hnc117 := NB146_167.out; have hnb118 := NB167_152.out; have hnc118 := NB152_167.out; have hnb119 := NB167_158.out; have hnc119 := NB158_167.out; have hnb120 := NB167_168.out; have hnc120 := NB168_167.out; (try clear hcz112_0 hcz112_1 hfz112_0 hfz112_1); obtain ⟨hcz121_0, hcz121_1, hfz121_0, hfz121_1⟩ := zZ BK167; obtain ⟨Ao122, co122, eo122⟩ := Kd.R_slice HO162.out; subst eo122; have hnb123 := NB168_146.out; have hnc123 := NB146_168.out; have hnb124 := NB168_152.out; have hnc124 := NB152_168.out; have hnb125 := NB168_158.out; have hnc125 := NB158_168.out; obtain ⟨hcz126_0, hcz126_1, hfz126_0, hfz126_1⟩ := zZ BK168; obtain ⟨Ao127, co127, eo127⟩ := Kd.R_slice HO166.out; subst eo127) | go_values | go_skip | go_guarded | go_step | go_upon | go_back | ((with_reducible (show Go.Oper.upon _ _ _ _ _ _)); go_simp) | (go_ite <;> go_prune <;> try go_simp))
   go_upto_region 28 with (first | ((with_reducible refine gate_callee (f := 11) rfl ?_); refine gL 172 Tryz.func11 #[.agg #[.int .i64 t159, .slice Ao122 t160.length co122], .agg #[.int .i64 t163, .slice Ao127 t164.length co127]] ?_; (with_reducible refine (impl_AreSameVotes.calls kj10 t159 _ _ t160 t163 _ _ t164 t171 t172 _ ?side1 ?side2 ?side3 ?side4 A77.out).mono ?_); (case side1 => refine (Kd.R_reads' (e := 3) (base := w.heap.size) (ok := fun k_ => (((nb (.slice Ao127 t164.length co127) k_ ∧ nb (.slice Ao101 t142.length co101) k_) ∧ nb (.slice Ao106 t148.length co106) k_) ∧ nb (.slice Ao113 t154.length co113) k_)) (n := t160.length) (c := co122) ?_).2.2; exact (by exact (Kd.R_mono (Kd.R_mono (Kd.R_far (p := ⟨gb168, 1, none⟩) (Kd.R_far (p := ⟨gb168, 0, none⟩) (Kd.R_far (p := ⟨gb167, 1, none⟩) (Kd.R_far (p := ⟨gb167, 0, none⟩) (Kd.R_types (Kd.R_types HO162.out BK167.out (by decide)) BK168.out (by decide)) (fun _ hk => hk.1.2) (.int .i64 t159)) (fun _ hk => hk.1.2) (.slice Ao122 t160.length co122)) (fun _ hk => hk.2) (.int .i64 t163)) (fun _ hk => hk.2) (.slice Ao127 t164.length co127)) (fun _ h_ => h_.1)) (fun _ h_ => h_.1)))); (case side2 => exact (Kd.R_reads' HO162.out).2.1); (case side3 => refine (Kd.R_reads' (e := 3) (base := w.heap.size) (ok := fun k_ => (((nb (.slice Ao122 t160.length co122) k_ ∧ nb (.slice Ao101 t142.length co101) k_) ∧ nb (.slice Ao106 t148.length co106) k_) ∧ nb (.slice Ao113 t154.length co113) k_)) (n := t164.length) (c := co127) ?_).2.2; exact (by exact (Kd.R_mono (Kd.R_mono (Kd.R_far (p := ⟨gb168, 1, none⟩) (Kd.R_far (p := ⟨gb168, 0, none⟩) (Kd.R_far (p := ⟨gb167, 1, none⟩) (Kd.R_far (p := ⟨gb167, 0, none⟩) (Kd.R_types (Kd.R_types HO166.out BK167.out (by decide)) BK168.out (by decide)) (fun _ hk => hk.1.2) (.int .i64 t159)) (fun _ hk => hk.1.2) (.slice Ao122 t160.length co122)) (fun _ hk => hk.2) (.int .i64 t163)) (fun _ hk => hk.2) (.slice Ao127 t164.length co127)) (fun _ h_ => h_.1)) (fun _ h_ => h_.1)))); (case side4 => exact (Kd.R_reads' HO166.out).2.1); rintro e w128 ⟨rfl, hb⟩; refine ⟨_, rfl, ?_⟩; replace HO144 := Aside0.mk (Kd.R_below (by exact (Kd.R_mono (Kd.R_mono (Kd.R_far (p := ⟨gb168, 1, none⟩) (Kd.R_far (p := ⟨gb168, 0, none⟩) (Kd.R_far (p := ⟨gb167, 1, none⟩) (Kd.R_far (p := ⟨gb167, 0, none⟩) (Kd.R_types (Kd.R_types HO144.out BK167.out (by decide)) BK168.out (by decide)) (fun _ hk => hk.1.2) (.int .i64 t159)) (fun _ hk => hk.1.2) (.slice Ao122 t160.length co122)) (fun _ hk => hk.2) (.int .i64 t163)) (fun _ hk => hk.2) (.slice Ao127 t164.length co127)) (fun _ h_ => h_.1)) (fun _ h_ => h_.1))) hb); replace HO150 := Aside0.mk (Kd.R_below (by exact (Kd.R_mono (Kd.R_mono (Kd.R_far (p := ⟨gb168, 1, none⟩) (Kd.R_far (p := ⟨gb168, 0, none⟩) (Kd.R_far (p := ⟨gb167, 1, none⟩) (Kd.R_far (p := ⟨gb167, 0, none⟩) (Kd.R_types (Kd.R_types HO150.out BK167.out (by decide)) BK168.out (by decide)) (fun _ hk => hk.1.2) (.int .i64 t159)) (fun _ hk => hk.1.2) (.slice Ao122 t160.length co122)) (fun _ hk => hk.2) (.int .i64 t163)) (fun _ hk => hk.2) (.slice Ao127 t164.length co127)) (fun _ h_ => h_.1)) (fun _ h_ => h_.1))) hb); replace HO156 := Aside0.mk (Kd.R_below (by exact (Kd.R_mono (Kd.R_mono (Kd.R_far (p := ⟨gb168, 1, none⟩) (Kd.R_far (p := ⟨gb168, 0, none⟩) (Kd.R_far (p := ⟨gb167, 1, none⟩) (Kd.R_far (p := ⟨gb167, 0, none⟩) (Kd.R_types (Kd.R_types HO156.out BK167.out (by decide)) BK168.out (by decide)) (fun _ hk => hk.1.2) (.int .i64 t159)) (fun _ hk => hk.1.2) (.slice Ao122 t160.length co122)) (fun _ hk => hk.2) (.int .i64 t163)) (fun _ hk => hk.2) (.slice Ao127 t164.length co127)) (fun _ h_ => h_.1)) (fun _ h_ => h_.1))) hb); replace HO162 := Aside0.mk (Kd.R_below (by exact (Kd.R_mono (Kd.R_mono (Kd.R_far (p := ⟨gb168, 1, none⟩) (Kd.R_far (p := ⟨gb168, 0, none⟩) (Kd.R_far (p := ⟨gb167, 1, none⟩) (Kd.R_far (p := ⟨gb167, 0, none⟩) (Kd.R_types (Kd.R_types HO162.out BK167.out (by decide)) BK168.out (by decide)) (fun _ hk => hk.1.2) (.int .i64 t159)) (fun _ hk => hk.1.2) (.slice Ao122 t160.length co122)) (fun _ hk => hk.2) (.int .i64 t163)) (fun _ hk => hk.2) (.slice Ao127 t164.length co127)) (fun _ h_ => h_.1)) (fun _ h_ => h_.1))) hb); replace HO166 := Aside0.mk (Kd.R_below (by exact (Kd.R_mono (Kd.R_mono (Kd.R_far (p := ⟨gb168, 1, none⟩) (Kd.R_far (p := ⟨gb168, 0, none⟩) (Kd.R_far (p := ⟨gb167, 1, none⟩) (Kd.R_far (p := ⟨gb167, 0, none⟩) (Kd.R_types (Kd.R_types HO166.out BK167.out (by decide)) BK168.out (by decide)) (fun _ hk => hk.1.2) (.int .i64 t159)) (fun _ hk => hk.1.2) (.slice Ao122 t160.length co122)) (fun _ hk => hk.2) (.int .i64 t163)) (fun _ hk => hk.2) (.slice Ao127 t164.length co127)) (fun _ h_ => h_.1)) (fun _ h_ => h_.1))) hb); replace BK146 := Aside0.mk (blk_below (g := gb146) (o := .cells #[.int .i64 t141, .slice Ao101 t142.length co101] 24 (0, 0)) (by refine blk_far ?_ NB146_168.out _; refine blk_far ?_ NB146_168.out _; refine blk_far ?_ NB146_167.out _; refine blk_far ?_ NB146_167.out _; exact BK146.out) hb); replace BK152 := Aside0.mk (blk_below (g := gb152) (o := .cells #[.int .i64 t147, .slice Ao106 t148.length co106] 24 (0, 0)) (by refine blk_far ?_ NB152_168.out _; refine blk_far ?_ NB152_168.out _; refine blk_far ?_ NB152_167.out _; refine blk_far ?_ NB152_167.out _; exact BK152.out) hb); replace BK158 := Aside0.mk (blk_below (g := gb158) (o := .cells #[.int .i64 t153, .slice Ao113 t154.length co113] 24 (0, 0)) (by refine blk_far ?_ NB158_168.out _; refine blk_far ?_ NB158_168.out _; refine blk_far ?_ NB158_167.out _; refine blk_far ?_ NB158_167.out _; exact BK158.out) hb); replace BK167 := Aside0.mk (blk_below (g := gb167) (o := .cells #[.int .i64 t159, .slice Ao122 t160.length co122] 24 (0, 0)) (by refine blk_far ?_ NB167_168.out _; refine blk_far ?_ NB167_168.out _; refine blk_put (cs := #[.int .i64 t159, .slice none 0 0]) ?_ 1 _ rfl; refine blk_put (cs := #[.int .i64 0, .slice none 0 0]) ?_ 0 _ rfl; exact BK167.out) hb); replace BK168 := Aside0.mk (blk_below (g := gb168) (o := .cells #[.int .i64 t163, .slice Ao127 t164.length co127] 24 (0, 0)) (by refine blk_put (cs := #[.int .i64 t163, .slice none 0 0]) ?_ 1 _ rfl; refine blk_put (cs := #[.int .i64 0, .slice none 0 0]) ?_ 0 _ rfl; refine blk_far ?_ NB168_167.out _; refine blk_far ?_ NB168_167.out _; exact BK168.out) hb); replace HB := Aside0.mk (below_step (by repeat (first | exact HB.out | apply ba | refine bs ?_ GE167.out | refine bs ?_ GE168.out)) hb); (try clear hb); (try clear hcz121_0 hcz121_1 hfz121_0 hfz121_1 hcz126_0 hcz126_1 hfz126_0 hfz126_1); obtain ⟨hcz129_0, hcz129_1, hfz129_0, hfz129_1⟩ := zZ BK167; obtain ⟨hcz130_0, hcz130_1, hfz130_0, hfz130_1⟩ := zZ BK168) | go_values | go_skip | go_guarded | go_step | go_upon | go_back | ((with_reducible (show Go.Oper.upon _ _ _ _ _ _)); go_simp) | (go_ite <;> go_prune <;> try go_simp))
   go_upto_region 29 with (first | ((with_reducible refine gate_callee (f := 12) rfl ?_); refine gL 178 Tryz.func12 #[.agg #[.int .i64 t159, .slice Ao122 t160.length co122], .agg #[.int .i64 t163, .slice Ao127 t164.length co127]] ?_; (with_reducible refine (spec_AreSameVotes.calls kj10 t159 _ _ t160 t163 _ _ t164 t171 t172 _ ?side1 ?side2 ?side3 ?side4 A78.out).mono ?_); (case side1 => have hx_ := (Kd.R_reads' HO162.out).2.2; exact cC); (case side2 => exact (Kd.R_reads' HO162.out).2.1); (case side3 => have hx_ := (Kd.R_reads' HO166.out).2.2; exact cC); (case side4 => exact (Kd.R_reads' HO166.out).2.1); rintro e w131 ⟨rfl, hb⟩; refine ⟨_, rfl, ?_⟩; replace HO144 := rB HO144 hb; replace HO150 := rB HO150 hb; replace HO156 := rB HO156 hb; replace HO162 := rB HO162 hb; replace HO166 := rB HO166 hb; replace BK146 := bB BK146 hb; replace BK152 := bB BK152 hb; replace BK158 := bB BK158 hb; replace BK167 := bB BK167 hb; replace BK168 := bB BK168 hb; replace HB := sB HB hb; (try clear hb)) | go_values | go_skip | go_guarded | go_step | go_upon | go_back | ((with_reducible (show Go.Oper.upon _ _ _ _ _ _)); go_simp) | (go_ite <;> go_prune <;> try go_simp))
   go_upto_region 30 with (first | ((with_reducible refine gate_callee (f := 25) rfl ?_); refine gL 182 Tryz.func25 #[.slice A1 l1.length c1] ?_; (with_reducible refine (spec_DrawCommitteeText.calls kj10 _ _ l1 t173 t174 _ (Kd.C_below HR1.out HB.out) HC1.out A79.out).mono ?_); rintro e w132 ⟨v175, rfl, ho0, hb⟩; refine ⟨_, rfl, ?_⟩; have HO176 := Aside0.mk (Kd.R_lower (Kd.R_new' (Kd.R_new' (Kd.R_new' (Kd.R_new' (Kd.R_new' ho0 (Kd.R_lt HO144.out)) (Kd.R_lt HO150.out)) (Kd.R_lt HO156.out)) (Kd.R_lt HO162.out)) (Kd.R_lt HO166.out)) (below_size HB.out)); replace HO144 := rE HO144 (Kd.R_base ho0) hb; replace HO150 := rE HO150 (Kd.R_base ho0) hb; replace HO156 := rE HO156 (Kd.R_base ho0) hb; replace HO162 := rE HO162 (Kd.R_base ho0) hb; replace HO166 := rE HO166 (Kd.R_base ho0) hb; replace BK146 := bB BK146 hb; replace BK152 := bB BK152 hb; replace BK158 := bB BK158 hb; replace BK167 := bB BK167 hb; replace BK168 := bB BK168 hb; replace HB := sB HB hb; (try clear hb); (try clear ho0)) | ((with_reducible refine gate_dst (N := 33) rfl ?_); (try (refine gate_guard (by rfl) ?_; dsimp only)); refine xE (N := 33) (cs := #[.int .i64 0, .slice none 0 0]) (t := 24) ?_; intro gb177 hg w133 BK177 hb; have GE177 := gS hg HB; have NB146_177 := nL hg (blk_lt BK146.out); have NB177_146 := nG hg (blk_lt BK146.out); have NB152_177 := nL hg (blk_lt BK152.out); have NB177_152 := nG hg (blk_lt BK152.out); have NB158_177 := nL hg (blk_lt BK158.out); have NB177_158 := nG hg (blk_lt BK158.out); have NB167_177 := nL hg (blk_lt BK167.out); have NB177_167 := nG hg (blk_lt BK167.out); have NB168_177 := nL hg (blk_lt BK168.out); have NB177_168 := nG hg (blk_lt BK168.out); replace HO144 := rB HO144 hb; replace HO150 := rB HO150 hb; replace HO156 := rB HO156 hb; replace HO162 := rB HO162 hb; replace HO166 := rB HO166 hb; replace HO176 := rB HO176 hb; replace BK146 := bB BK146 hb; replace BK152 := bB BK152 hb; replace BK158 := bB BK158 hb; replace BK167 := bB BK167 hb; replace BK168 := bB BK168 hb; replace HB := sB HB hb; clear hb hg; have hnb134 := NB177_146.out; have hnc134 := NB146_177.out; have hnb135 := NB177_152.out; have hnc135 := NB152_177.out; have hnb136 := NB177_158.out; have hnc136 := NB158_177.out; have hnb137 := NB177_167.out; have hnc137 := NB167_177.out; have hnb138 := NB177_168.out; have hnc138 := NB168_177.out; (try clear hcz129_0 hcz129_1 hfz129_0 hfz129_1 hcz130_0 hcz130_1 hfz130_0 hfz130_1); obtain ⟨hcz139_0, hcz139_1, hfz139_0, hfz139_1⟩ := zZ BK177; obtain ⟨Ao140, co140, eo140⟩ := Kd.R_slice HO176.out; subst eo140) | go_values | go_skip | go_guarded | go_step | go_upon | go_back | ((with_reducible (show Go.Oper.upon _ _ _ _ _ _)); go_simp) | (go_ite <;> go_prune <;> try go_simp))
   go_upto_region 31 with (first | ((with_reducible refine gate_callee (f := 13) rfl ?_); refine gL 185 Tryz.func13 #[.agg #[.int .i64 t173, .slice Ao140 t174.length co140]] ?_; (with_reducible refine (impl_CommitteeText.calls kj10 t173 _ _ t174 t178 t197 _ ?side1 ?side2 A80.out (HZ.out.on (by repeat (first | exact HB.out | apply ba | refine bs ?_ GE177.out)))).mono ?_); (case side1 => refine (Kd.R_reads' (e := 3) (base := w.heap.size) (ok := fun k_ => (((((True ∧ nb (.slice Ao101 t142.length co101) k_) ∧ nb (.slice Ao106 t148.length co106) k_) ∧ nb (.slice Ao113 t154.length co113) k_) ∧ nb (.slice Ao122 t160.length co122) k_) ∧ nb (.slice Ao127 t164.length co127) k_)) (n := t174.length) (c := co140) ?_).2.2; exact (by exact (Kd.R_mono (Kd.R_far (p := ⟨gb177, 1, none⟩) (Kd.R_far (p := ⟨gb177, 0, none⟩) (Kd.R_types HO176.out BK177.out (by decide)) (fun _ hk => hk.2) (.int .i64 t173)) (fun _ hk => hk.2) (.slice Ao140 t174.length co140)) (fun _ h_ => h_.1)))); (case side2 => exact (Kd.R_reads' HO176.out).2.1); rintro e w141 ⟨rfl, hb⟩; refine ⟨_, rfl, ?_⟩; replace HO144 := Aside0.mk (Kd.R_below (by exact (Kd.R_mono (Kd.R_far (p := ⟨gb177, 1, none⟩) (Kd.R_far (p := ⟨gb177, 0, none⟩) (Kd.R_types HO144.out BK177.out (by decide)) (fun _ hk => hk.2) (.int .i64 t173)) (fun _ hk => hk.2) (.slice Ao140 t174.length co140)) (fun _ h_ => h_.1))) hb); replace HO150 := Aside0.mk (Kd.R_below (by exact (Kd.R_mono (Kd.R_far (p := ⟨gb177, 1, none⟩) (Kd.R_far (p := ⟨gb177, 0, none⟩) (Kd.R_types HO150.out BK177.out (by decide)) (fun _ hk => hk.2) (.int .i64 t173)) (fun _ hk => hk.2) (.slice Ao140 t174.length co140)) (fun _ h_ => h_.1))) hb); replace HO156 := Aside0.mk (Kd.R_below (by exact (Kd.R_mono (Kd.R_far (p := ⟨gb177, 1, none⟩) (Kd.R_far (p := ⟨gb177, 0, none⟩) (Kd.R_types HO156.out BK177.out (by decide)) (fun _ hk => hk.2) (.int .i64 t173)) (fun _ hk => hk.2) (.slice Ao140 t174.length co140)) (fun _ h_ => h_.1))) hb); replace HO162 := Aside0.mk (Kd.R_below (by exact (Kd.R_mono (Kd.R_far (p := ⟨gb177, 1, none⟩) (Kd.R_far (p := ⟨gb177, 0, none⟩) (Kd.R_types HO162.out BK177.out (by decide)) (fun _ hk => hk.2) (.int .i64 t173)) (fun _ hk => hk.2) (.slice Ao140 t174.length co140)) (fun _ h_ => h_.1))) hb); replace HO166 := Aside0.mk (Kd.R_below (by exact (Kd.R_mono (Kd.R_far (p := ⟨gb177, 1, none⟩) (Kd.R_far (p := ⟨gb177, 0, none⟩) (Kd.R_types HO166.out BK177.out (by decide)) (fun _ hk => hk.2) (.int .i64 t173)) (fun _ hk => hk.2) (.slice Ao140 t174.length co140)) (fun _ h_ => h_.1))) hb); replace HO176 := Aside0.mk (Kd.R_below (by exact (Kd.R_mono (Kd.R_far (p := ⟨gb177, 1, none⟩) (Kd.R_far (p := ⟨gb177, 0, none⟩) (Kd.R_types HO176.out BK177.out (by decide)) (fun _ hk => hk.2) (.int .i64 t173)) (fun _ hk => hk.2) (.slice Ao140 t174.length co140)) (fun _ h_ => h_.1))) hb); replace BK146 := Aside0.mk (blk_below (g := gb146) (o := .cells #[.int .i64 t141, .slice Ao101 t142.length co101] 24 (0, 0)) (by refine blk_far ?_ NB146_177.out _; refine blk_far ?_ NB146_177.out _; exact BK146.out) hb); replace BK152 := Aside0.mk (blk_below (g := gb152) (o := .cells #[.int .i64 t147, .slice Ao106 t148.length co106] 24 (0, 0)) (by refine blk_far ?_ NB152_177.out _; refine blk_far ?_ NB152_177.out _; exact BK152.out) hb); replace BK158 := Aside0.mk (blk_below (g := gb158) (o := .cells #[.int .i64 t153, .slice Ao113 t154.length co113] 24 (0, 0)) (by refine blk_far ?_ NB158_177.out _; refine blk_far ?_ NB158_177.out _; exact BK158.out) hb); replace BK167 := Aside0.mk (blk_below (g := gb167) (o := .cells #[.int .i64 t159, .slice Ao122 t160.length co122] 24 (0, 0)) (by refine blk_far ?_ NB167_177.out _; refine blk_far ?_ NB167_177.out _; exact BK167.out) hb); replace BK168 := Aside0.mk (blk_below (g := gb168) (o := .cells #[.int .i64 t163, .slice Ao127 t164.length co127] 24 (0, 0)) (by refine blk_far ?_ NB168_177.out _; refine blk_far ?_ NB168_177.out _; exact BK168.out) hb); replace BK177 := Aside0.mk (blk_below (g := gb177) (o := .cells #[.int .i64 t173, .slice Ao140 t174.length co140] 24 (0, 0)) (by refine blk_put (cs := #[.int .i64 t173, .slice none 0 0]) ?_ 1 _ rfl; refine blk_put (cs := #[.int .i64 0, .slice none 0 0]) ?_ 0 _ rfl; exact BK177.out) hb); replace HB := Aside0.mk (below_step (by repeat (first | exact HB.out | apply ba | refine bs ?_ GE177.out)) hb); (try clear hb); (try clear hcz139_0 hcz139_1 hfz139_0 hfz139_1); obtain ⟨hcz142_0, hcz142_1, hfz142_0, hfz142_1⟩ := zZ BK177) | go_values | go_skip | go_guarded | go_step | go_upon | go_back | ((with_reducible (show Go.Oper.upon _ _ _ _ _ _)); go_simp) | (go_ite <;> go_prune <;> try go_simp))
   go_upto_region 32 with (first | ((with_reducible refine gate_callee (f := 14) rfl ?_); refine gL 190 Tryz.func14 #[.agg #[.int .i64 t173, .slice Ao140 t174.length co140]] ?_; (with_reducible refine (spec_CommitteeText.calls kj10 t173 _ _ t174 t180 t197 _ ?side1 ?side2 A81.out).mono ?_); (case side1 => have hx_ := (Kd.R_reads' HO176.out).2.2; exact cC); (case side2 => exact (Kd.R_reads' HO176.out).2.1); rintro e w143 ⟨rfl, hb⟩; refine ⟨_, rfl, ?_⟩; replace HO144 := rB HO144 hb; replace HO150 := rB HO150 hb; replace HO156 := rB HO156 hb; replace HO162 := rB HO162 hb; replace HO166 := rB HO166 hb; replace HO176 := rB HO176 hb; replace BK146 := bB BK146 hb; replace BK152 := bB BK152 hb; replace BK158 := bB BK158 hb; replace BK167 := bB BK167 hb; replace BK168 := bB BK168 hb; replace BK177 := bB BK177 hb; replace HB := sB HB hb; (try clear hb)) | go_values | go_skip | go_guarded | go_step | go_upon | go_back | ((with_reducible (show Go.Oper.upon _ _ _ _ _ _)); go_simp) | (go_ite <;> go_prune <;> try go_simp))
   go_upto_region 33 with (first | ((with_reducible refine gate_callee (f := 26) rfl ?_); refine gL 194 Tryz.func26 #[.slice A1 l1.length c1] ?_; (with_reducible refine (spec_DrawParseCommittee.calls kj10 _ _ l1 t182 _ (Kd.C_below HR1.out HB.out) HC1.out A82.out).mono ?_); rintro e w144 ⟨rfl, hb⟩; refine ⟨_, rfl, ?_⟩; replace HO144 := rB HO144 hb; replace HO150 := rB HO150 hb; replace HO156 := rB HO156 hb; replace HO162 := rB HO162 hb; replace HO166 := rB HO166 hb; replace HO176 := rB HO176 hb; replace BK146 := bB BK146 hb; replace BK152 := bB BK152 hb; replace BK158 := bB BK158 hb; replace BK167 := bB BK167 hb; replace BK168 := bB BK168 hb; replace BK177 := bB BK177 hb; replace HB := sB HB hb; (try clear hb)) | go_values | go_skip | go_guarded | go_step | go_upon | go_back | ((with_reducible (show Go.Oper.upon _ _ _ _ _ _)); go_simp) | (go_ite <;> go_prune <;> try go_simp))
   go_upto_region 34 with (first | ((with_reducible refine gate_callee (f := 15) rfl ?_); refine gL 197 Tryz.func15 #[.string t182] ?_; (with_reducible refine (impl_ParseCommittee.calls kj10 t182 t183 t184 t193 _ A83.out (HZ.out.on HB.out)).mono ?_); rintro e w145 ⟨v185, rfl, ho0, hb⟩; refine ⟨_, rfl, ?_⟩; have HO186 := Aside0.mk (Kd.R_lower (Kd.R_new' (Kd.R_new' (Kd.R_new' (Kd.R_new' (Kd.R_new' (Kd.R_new' ho0 (Kd.R_lt HO144.out)) (Kd.R_lt HO150.out)) (Kd.R_lt HO156.out)) (Kd.R_lt HO162.out)) (Kd.R_lt HO166.out)) (Kd.R_lt HO176.out)) (below_size HB.out)); replace HO144 := rE HO144 (Kd.R_base ho0) hb; replace HO150 := rE HO150 (Kd.R_base ho0) hb; replace HO156 := rE HO156 (Kd.R_base ho0) hb; replace HO162 := rE HO162 (Kd.R_base ho0) hb; replace HO166 := rE HO166 (Kd.R_base ho0) hb; replace HO176 := rE HO176 (Kd.R_base ho0) hb; replace BK146 := bB BK146 hb; replace BK152 := bB BK152 hb; replace BK158 := bB BK158 hb; replace BK167 := bB BK167 hb; replace BK168 := bB BK168 hb; replace BK177 := bB BK177 hb; replace HB := sB HB hb; (try clear hb); (try clear ho0)) | ((with_reducible refine gate_dst (N := 39) rfl ?_); (try (refine gate_guard (by rfl) ?_; dsimp only)); refine xE (N := 39) (cs := #[.int .i64 0, .slice none 0 0]) (t := 24) ?_; intro gb188 hg w146 BK188 hb; have GE188 := gS hg HB; have NB146_188 := nL hg (blk_lt BK146.out); have NB188_146 := nG hg (blk_lt BK146.out); have NB152_188 := nL hg (blk_lt BK152.out); have NB188_152 := nG hg (blk_lt BK152.out); have NB158_188 := nL hg (blk_lt BK158.out); have NB188_158 := nG hg (blk_lt BK158.out); have NB167_188 := nL hg (blk_lt BK167.out); have NB188_167 := nG hg (blk_lt BK167.out); have NB168_188 := nL hg (blk_lt BK168.out); have NB188_168 := nG hg (blk_lt BK168.out); have NB177_188 := nL hg (blk_lt BK177.out); have NB188_177 := nG hg (blk_lt BK177.out); replace HO144 := rB HO144 hb; replace HO150 := rB HO150 hb; replace HO156 := rB HO156 hb; replace HO162 := rB HO162 hb; replace HO166 := rB HO166 hb; replace HO176 := rB HO176 hb; replace HO186 := rB HO186 hb; replace BK146 := bB BK146 hb; replace BK152 := bB BK152 hb; replace BK158 := bB BK158 hb; replace BK167 := bB BK167 hb; replace BK168 := bB BK168 hb; replace BK177 := bB BK177 hb; replace HB := sB HB hb; clear hb hg; have hnb147 := NB188_146.out; have hnc147 := NB146_188.out; have hnb148 := NB188_152.out; have hnc148 := NB152_188.out; have hnb149 := NB188_158.out; have hnc149 := NB158_188.out; have hnb150 := NB188_167.out; have hnc150 := NB167_188.out; have hnb151 := NB188_168.out; have hnc151 := NB168_188.out; have hnb152 := NB188_177.out; have hnc152 := NB177_188.out; (try clear hcz142_0 hcz142_1 hfz142_0 hfz142_1); obtain ⟨hcz153_0, hcz153_1, hfz153_0, hfz153_1⟩ := zZ BK188; obtain ⟨Ao154, co154, eo154⟩ := Kd.R_slice HO186.out; subst eo154) | go_values | go_skip | go_guarded | go_step | go_upon | go_back | ((with_reducible (show Go.Oper.upon _ _ _ _ _ _)); go_simp) | (go_ite <;> go_prune <;> try go_simp))
   go_upto_region 35 with (first | ((with_reducible refine gate_callee (f := 16) rfl ?_); refine gL 202 Tryz.func16 #[.string t182] ?_; (with_reducible refine (spec_ParseCommittee.calls kj10 t182 t189 t190 t193 _ A84.out).mono ?_); rintro e w155 ⟨v191, rfl, ho0, hb⟩; refine ⟨_, rfl, ?_⟩; have HO192 := Aside0.mk (Kd.R_lower (Kd.R_new' (Kd.R_new' (Kd.R_new' (Kd.R_new' (Kd.R_new' (Kd.R_new' (Kd.R_new' ho0 (Kd.R_lt (by exact (Kd.R_mono (Kd.R_far (p := ⟨gb188, 1, none⟩) (Kd.R_far (p := ⟨gb188, 0, none⟩) (Kd.R_types HO144.out BK188.out (by decide)) (fun _ hk => hk.2) (.int .i64 t183)) (fun _ hk => hk.2) (.slice Ao154 t184.length co154)) (fun _ h_ => h_.1))))) (Kd.R_lt (by exact (Kd.R_mono (Kd.R_far (p := ⟨gb188, 1, none⟩) (Kd.R_far (p := ⟨gb188, 0, none⟩) (Kd.R_types HO150.out BK188.out (by decide)) (fun _ hk => hk.2) (.int .i64 t183)) (fun _ hk => hk.2) (.slice Ao154 t184.length co154)) (fun _ h_ => h_.1))))) (Kd.R_lt (by exact (Kd.R_mono (Kd.R_far (p := ⟨gb188, 1, none⟩) (Kd.R_far (p := ⟨gb188, 0, none⟩) (Kd.R_types HO156.out BK188.out (by decide)) (fun _ hk => hk.2) (.int .i64 t183)) (fun _ hk => hk.2) (.slice Ao154 t184.length co154)) (fun _ h_ => h_.1))))) (Kd.R_lt (by exact (Kd.R_mono (Kd.R_far (p := ⟨gb188, 1, none⟩) (Kd.R_far (p := ⟨gb188, 0, none⟩) (Kd.R_types HO162.out BK188.out (by decide)) (fun _ hk => hk.2) (.int .i64 t183)) (fun _ hk => hk.2) (.slice Ao154 t184.length co154)) (fun _ h_ => h_.1))))) (Kd.R_lt (by exact (Kd.R_mono (Kd.R_far (p := ⟨gb188, 1, none⟩) (Kd.R_far (p := ⟨gb188, 0, none⟩) (Kd.R_types HO166.out BK188.out (by decide)) (fun _ hk => hk.2) (.int .i64 t183)) (fun _ hk => hk.2) (.slice Ao154 t184.length co154)) (fun _ h_ => h_.1))))) (Kd.R_lt (by exact (Kd.R_mono (Kd.R_far (p := ⟨gb188, 1, none⟩) (Kd.R_far (p := ⟨gb188, 0, none⟩) (Kd.R_types HO176.out BK188.out (by decide)) (fun _ hk => hk.2) (.int .i64 t183)) (fun _ hk => hk.2) (.slice Ao154 t184.length co154)) (fun _ h_ => h_.1))))) (Kd.R_lt (by exact (Kd.R_mono (Kd.R_far (p := ⟨gb188, 1, none⟩) (Kd.R_far (p := ⟨gb188, 0, none⟩) (Kd.R_types HO186.out BK188.out (by decide)) (fun _ hk => hk.2) (.int .i64 t183)) (fun _ hk => hk.2) (.slice Ao154 t184.length co154)) (fun _ h_ => h_.1))))) (below_size (by repeat (first | exact HB.out | apply ba | refine bs ?_ GE188.out)))); replace HO144 := Aside0.mk (Kd.R_elder' (by exact (Kd.R_mono (Kd.R_far (p := ⟨gb188, 1, none⟩) (Kd.R_far (p := ⟨gb188, 0, none⟩) (Kd.R_types HO144.out BK188.out (by decide)) (fun _ hk => hk.2) (.int .i64 t183)) (fun _ hk => hk.2) (.slice Ao154 t184.length co154)) (fun _ h_ => h_.1))) (Kd.R_base ho0) hb); replace HO150 := Aside0.mk (Kd.R_elder' (by exact (Kd.R_mono (Kd.R_far (p := ⟨gb188, 1, none⟩) (Kd.R_far (p := ⟨gb188, 0, none⟩) (Kd.R_types HO150.out BK188.out (by decide)) (fun _ hk => hk.2) (.int .i64 t183)) (fun _ hk => hk.2) (.slice Ao154 t184.length co154)) (fun _ h_ => h_.1))) (Kd.R_base ho0) hb); replace HO156 := Aside0.mk (Kd.R_elder' (by exact (Kd.R_mono (Kd.R_far (p := ⟨gb188, 1, none⟩) (Kd.R_far (p := ⟨gb188, 0, none⟩) (Kd.R_types HO156.out BK188.out (by decide)) (fun _ hk => hk.2) (.int .i64 t183)) (fun _ hk => hk.2) (.slice Ao154 t184.length co154)) (fun _ h_ => h_.1))) (Kd.R_base ho0) hb); replace HO162 := Aside0.mk (Kd.R_elder' (by exact (Kd.R_mono (Kd.R_far (p := ⟨gb188, 1, none⟩) (Kd.R_far (p := ⟨gb188, 0, none⟩) (Kd.R_types HO162.out BK188.out (by decide)) (fun _ hk => hk.2) (.int .i64 t183)) (fun _ hk => hk.2) (.slice Ao154 t184.length co154)) (fun _ h_ => h_.1))) (Kd.R_base ho0) hb); replace HO166 := Aside0.mk (Kd.R_elder' (by exact (Kd.R_mono (Kd.R_far (p := ⟨gb188, 1, none⟩) (Kd.R_far (p := ⟨gb188, 0, none⟩) (Kd.R_types HO166.out BK188.out (by decide)) (fun _ hk => hk.2) (.int .i64 t183)) (fun _ hk => hk.2) (.slice Ao154 t184.length co154)) (fun _ h_ => h_.1))) (Kd.R_base ho0) hb); replace HO176 := Aside0.mk (Kd.R_elder' (by exact (Kd.R_mono (Kd.R_far (p := ⟨gb188, 1, none⟩) (Kd.R_far (p := ⟨gb188, 0, none⟩) (Kd.R_types HO176.out BK188.out (by decide)) (fun _ hk => hk.2) (.int .i64 t183)) (fun _ hk => hk.2) (.slice Ao154 t184.length co154)) (fun _ h_ => h_.1))) (Kd.R_base ho0) hb); replace HO186 := Aside0.mk (Kd.R_elder' (by exact (Kd.R_mono (Kd.R_far (p := ⟨gb188, 1, none⟩) (Kd.R_far (p := ⟨gb188, 0, none⟩) (Kd.R_types HO186.out BK188.out (by decide)) (fun _ hk => hk.2) (.int .i64 t183)) (fun _ hk => hk.2) (.slice Ao154 t184.length co154)) (fun _ h_ => h_.1))) (Kd.R_base ho0) hb); replace BK146 := Aside0.mk (blk_below (g := gb146) (o := .cells #[.int .i64 t141, .slice Ao101 t142.length co101] 24 (0, 0)) (by refine blk_far ?_ NB146_188.out _; refine blk_far ?_ NB146_188.out _; exact BK146.out) hb); replace BK152 := Aside0.mk (blk_below (g := gb152) (o := .cells #[.int .i64 t147, .slice Ao106 t148.length co106] 24 (0, 0)) (by refine blk_far ?_ NB152_188.out _; refine blk_far ?_ NB152_188.out _; exact BK152.out) hb); replace BK158 := Aside0.mk (blk_below (g := gb158) (o := .cells #[.int .i64 t153, .slice Ao113 t154.length co113] 24 (0, 0)) (by refine blk_far ?_ NB158_188.out _; refine blk_far ?_ NB158_188.out _; exact BK158.out) hb); replace BK167 := Aside0.mk (blk_below (g := gb167) (o := .cells #[.int .i64 t159, .slice Ao122 t160.length co122] 24 (0, 0)) (by refine blk_far ?_ NB167_188.out _; refine blk_far ?_ NB167_188.out _; exact BK167.out) hb); replace BK168 := Aside0.mk (blk_below (g := gb168) (o := .cells #[.int .i64 t163, .slice Ao127 t164.length co127] 24 (0, 0)) (by refine blk_far ?_ NB168_188.out _; refine blk_far ?_ NB168_188.out _; exact BK168.out) hb); replace BK177 := Aside0.mk (blk_below (g := gb177) (o := .cells #[.int .i64 t173, .slice Ao140 t174.length co140] 24 (0, 0)) (by refine blk_far ?_ NB177_188.out _; refine blk_far ?_ NB177_188.out _; exact BK177.out) hb); replace BK188 := Aside0.mk (blk_below (g := gb188) (o := .cells #[.int .i64 t183, .slice Ao154 t184.length co154] 24 (0, 0)) (by refine blk_put (cs := #[.int .i64 t183, .slice none 0 0]) ?_ 1 _ rfl; refine blk_put (cs := #[.int .i64 0, .slice none 0 0]) ?_ 0 _ rfl; exact BK188.out) hb); replace HB := Aside0.mk (below_step (by repeat (first | exact HB.out | apply ba | refine bs ?_ GE188.out)) hb); (try clear hb); (try clear ho0)) | ((with_reducible refine gate_dst (N := 41) rfl ?_); (try (refine gate_guard (by rfl) ?_; dsimp only)); refine xE (N := 41) (cs := #[.int .i64 0, .slice none 0 0]) (t := 24) ?_; intro gb194 hg w156 BK194 hb; have GE194 := gS hg HB; have NB146_194 := nL hg (blk_lt BK146.out); have NB194_146 := nG hg (blk_lt BK146.out); have NB152_194 := nL hg (blk_lt BK152.out); have NB194_152 := nG hg (blk_lt BK152.out); have NB158_194 := nL hg (blk_lt BK158.out); have NB194_158 := nG hg (blk_lt BK158.out); have NB167_194 := nL hg (blk_lt BK167.out); have NB194_167 := nG hg (blk_lt BK167.out); have NB168_194 := nL hg (blk_lt BK168.out); have NB194_168 := nG hg (blk_lt BK168.out); have NB177_194 := nL hg (blk_lt BK177.out); have NB194_177 := nG hg (blk_lt BK177.out); have NB188_194 := nL hg (blk_lt BK188.out); have NB194_188 := nG hg (blk_lt BK188.out); replace HO144 := rB HO144 hb; replace HO150 := rB HO150 hb; replace HO156 := rB HO156 hb; replace HO162 := rB HO162 hb; replace HO166 := rB HO166 hb; replace HO176 := rB HO176 hb; replace HO186 := rB HO186 hb; replace HO192 := rB HO192 hb; replace BK146 := bB BK146 hb; replace BK152 := bB BK152 hb; replace BK158 := bB BK158 hb; replace BK167 := bB BK167 hb; replace BK168 := bB BK168 hb; replace BK177 := bB BK177 hb; replace BK188 := bB BK188 hb; replace HB := sB HB hb; clear hb hg; have hnb157 := NB194_146.out; have hnc157 := NB146_194.out; have hnb158 := NB194_152.out; have hnc158 := NB152_194.out; have hnb159 := NB194_158.out; have hnc159 := NB158_194.out; have hnb160 := NB194_167.out; have hnc160 := NB167_194.out; have hnb161 := NB194_168.out; have hnc161 := NB168_194.out; have hnb162 := NB194_177.out; have hnc162 := NB177_194.out; have hnb163 := NB194_188.out; have hnc163 := NB188_194.out; (try clear hcz153_0 hcz153_1 hfz153_0 hfz153_1); obtain ⟨hcz164_0, hcz164_1, hfz164_0, hfz164_1⟩ := zZ BK194; obtain ⟨Ao165, co165, eo165⟩ := Kd.R_slice HO192.out; subst eo165; obtain ⟨hcz166_0, hcz166_1, hfz166_0, hfz166_1⟩ := zZ BK152; obtain ⟨hcz167_0, hcz167_1, hfz167_0, hfz167_1⟩ := zZ BK158) | go_values | go_skip | go_guarded | go_step | go_upon | go_back | ((with_reducible (show Go.Oper.upon _ _ _ _ _ _)); go_simp) | (go_ite <;> go_prune <;> try go_simp))
   go_upto_region 37 with (first | (go_at_call 7; (with_reducible refine (laws_mCommittee.calls kj10 t147 _ _ t148 t153 _ _ t154 true _ ?side1 ?side2 ?side3 ?side4 A86.out).mono ?_); (case side1 => refine (Kd.R_reads' (e := 3) (base := w.heap.size) (ok := fun k_ => (((((((True ∧ nb (.slice Ao101 t142.length co101) k_) ∧ nb (.slice Ao113 t154.length co113) k_) ∧ nb (.slice Ao122 t160.length co122) k_) ∧ nb (.slice Ao127 t164.length co127) k_) ∧ nb (.slice Ao140 t174.length co140) k_) ∧ nb (.slice Ao154 t184.length co154) k_) ∧ nb (.slice Ao165 t190.length co165) k_)) (n := t148.length) (c := co106) ?_).2.2; exact (by exact (Kd.R_mono (Kd.R_far (p := ⟨gb194, 1, none⟩) (Kd.R_far (p := ⟨gb194, 0, none⟩) (Kd.R_types HO150.out BK194.out (by decide)) (fun _ hk => hk.2) (.int .i64 t189)) (fun _ hk => hk.2) (.slice Ao165 t190.length co165)) (fun _ h_ => h_.1)))); (case side2 => exact (Kd.R_reads' HO150.out).2.1); (case side3 => refine (Kd.R_reads' (e := 3) (base := w.heap.size) (ok := fun k_ => (((((((True ∧ nb (.slice Ao101 t142.length co101) k_) ∧ nb (.slice Ao106 t148.length co106) k_) ∧ nb (.slice Ao122 t160.length co122) k_) ∧ nb (.slice Ao127 t164.length co127) k_) ∧ nb (.slice Ao140 t174.length co140) k_) ∧ nb (.slice Ao154 t184.length co154) k_) ∧ nb (.slice Ao165 t190.length co165) k_)) (n := t154.length) (c := co113) ?_).2.2; exact (by exact (Kd.R_mono (Kd.R_far (p := ⟨gb194, 1, none⟩) (Kd.R_far (p := ⟨gb194, 0, none⟩) (Kd.R_types HO156.out BK194.out (by decide)) (fun _ hk => hk.2) (.int .i64 t189)) (fun _ hk => hk.2) (.slice Ao165 t190.length co165)) (fun _ h_ => h_.1)))); (case side4 => exact (Kd.R_reads' HO156.out).2.1); rintro e w168 ⟨rfl, hb⟩; replace HO144 := Aside0.mk (Kd.R_below (by exact (Kd.R_mono (Kd.R_far (p := ⟨gb194, 1, none⟩) (Kd.R_far (p := ⟨gb194, 0, none⟩) (Kd.R_types HO144.out BK194.out (by decide)) (fun _ hk => hk.2) (.int .i64 t189)) (fun _ hk => hk.2) (.slice Ao165 t190.length co165)) (fun _ h_ => h_.1))) hb); replace HO150 := Aside0.mk (Kd.R_below (by exact (Kd.R_mono (Kd.R_far (p := ⟨gb194, 1, none⟩) (Kd.R_far (p := ⟨gb194, 0, none⟩) (Kd.R_types HO150.out BK194.out (by decide)) (fun _ hk => hk.2) (.int .i64 t189)) (fun _ hk => hk.2) (.slice Ao165 t190.length co165)) (fun _ h_ => h_.1))) hb); replace HO156 := Aside0.mk (Kd.R_below (by exact (Kd.R_mono (Kd.R_far (p := ⟨gb194, 1, none⟩) (Kd.R_far (p := ⟨gb194, 0, none⟩) (Kd.R_types HO156.out BK194.out (by decide)) (fun _ hk => hk.2) (.int .i64 t189)) (fun _ hk => hk.2) (.slice Ao165 t190.length co165)) (fun _ h_ => h_.1))) hb); replace HO162 := Aside0.mk (Kd.R_below (by exact (Kd.R_mono (Kd.R_far (p := ⟨gb194, 1, none⟩) (Kd.R_far (p := ⟨gb194, 0, none⟩) (Kd.R_types HO162.out BK194.out (by decide)) (fun _ hk => hk.2) (.int .i64 t189)) (fun _ hk => hk.2) (.slice Ao165 t190.length co165)) (fun _ h_ => h_.1))) hb); replace HO166 := Aside0.mk (Kd.R_below (by exact (Kd.R_mono (Kd.R_far (p := ⟨gb194, 1, none⟩) (Kd.R_far (p := ⟨gb194, 0, none⟩) (Kd.R_types HO166.out BK194.out (by decide)) (fun _ hk => hk.2) (.int .i64 t189)) (fun _ hk => hk.2) (.slice Ao165 t190.length co165)) (fun _ h_ => h_.1))) hb); replace HO176 := Aside0.mk (Kd.R_below (by exact (Kd.R_mono (Kd.R_far (p := ⟨gb194, 1, none⟩) (Kd.R_far (p := ⟨gb194, 0, none⟩) (Kd.R_types HO176.out BK194.out (by decide)) (fun _ hk => hk.2) (.int .i64 t189)) (fun _ hk => hk.2) (.slice Ao165 t190.length co165)) (fun _ h_ => h_.1))) hb); replace HO186 := Aside0.mk (Kd.R_below (by exact (Kd.R_mono (Kd.R_far (p := ⟨gb194, 1, none⟩) (Kd.R_far (p := ⟨gb194, 0, none⟩) (Kd.R_types HO186.out BK194.out (by decide)) (fun _ hk => hk.2) (.int .i64 t189)) (fun _ hk => hk.2) (.slice Ao165 t190.length co165)) (fun _ h_ => h_.1))) hb); replace HO192 := Aside0.mk (Kd.R_below (by exact (Kd.R_mono (Kd.R_far (p := ⟨gb194, 1, none⟩) (Kd.R_far (p := ⟨gb194, 0, none⟩) (Kd.R_types HO192.out BK194.out (by decide)) (fun _ hk => hk.2) (.int .i64 t189)) (fun _ hk => hk.2) (.slice Ao165 t190.length co165)) (fun _ h_ => h_.1))) hb); replace BK146 := Aside0.mk (blk_below (g := gb146) (o := .cells #[.int .i64 t141, .slice Ao101 t142.length co101] 24 (0, 0)) (by refine blk_far ?_ NB146_194.out _; refine blk_far ?_ NB146_194.out _; exact BK146.out) hb); replace BK152 := Aside0.mk (blk_below (g := gb152) (o := .cells #[.int .i64 t147, .slice Ao106 t148.length co106] 24 (0, 0)) (by refine blk_far ?_ NB152_194.out _; refine blk_far ?_ NB152_194.out _; exact BK152.out) hb); replace BK158 := Aside0.mk (blk_below (g := gb158) (o := .cells #[.int .i64 t153, .slice Ao113 t154.length co113] 24 (0, 0)) (by refine blk_far ?_ NB158_194.out _; refine blk_far ?_ NB158_194.out _; exact BK158.out) hb); replace BK167 := Aside0.mk (blk_below (g := gb167) (o := .cells #[.int .i64 t159, .slice Ao122 t160.length co122] 24 (0, 0)) (by refine blk_far ?_ NB167_194.out _; refine blk_far ?_ NB167_194.out _; exact BK167.out) hb); replace BK168 := Aside0.mk (blk_below (g := gb168) (o := .cells #[.int .i64 t163, .slice Ao127 t164.length co127] 24 (0, 0)) (by refine blk_far ?_ NB168_194.out _; refine blk_far ?_ NB168_194.out _; exact BK168.out) hb); replace BK177 := Aside0.mk (blk_below (g := gb177) (o := .cells #[.int .i64 t173, .slice Ao140 t174.length co140] 24 (0, 0)) (by refine blk_far ?_ NB177_194.out _; refine blk_far ?_ NB177_194.out _; exact BK177.out) hb); replace BK188 := Aside0.mk (blk_below (g := gb188) (o := .cells #[.int .i64 t183, .slice Ao154 t184.length co154] 24 (0, 0)) (by refine blk_far ?_ NB188_194.out _; refine blk_far ?_ NB188_194.out _; exact BK188.out) hb); replace BK194 := Aside0.mk (blk_below (g := gb194) (o := .cells #[.int .i64 t189, .slice Ao165 t190.length co165] 24 (0, 0)) (by refine blk_put (cs := #[.int .i64 t189, .slice none 0 0]) ?_ 1 _ rfl; refine blk_put (cs := #[.int .i64 0, .slice none 0 0]) ?_ 0 _ rfl; exact BK194.out) hb); replace HB := Aside0.mk (below_step (by repeat (first | exact HB.out | apply ba | refine bs ?_ GE194.out)) hb); (try clear hb); obtain ⟨hcz169_0, hcz169_1, hfz169_0, hfz169_1⟩ := zZ BK188; obtain ⟨hcz170_0, hcz170_1, hfz170_0, hfz170_1⟩ := zZ BK194) | (go_at_call 7; (with_reducible refine (laws_mCommittee.calls kj10 t183 _ _ t184 t189 _ _ t190 true _ ?side1 ?side2 ?side3 ?side4 A93.out).mono ?_); (case side1 => have hx_ := (Kd.R_reads' HO186.out).2.2; exact cC); (case side2 => exact (Kd.R_reads' HO186.out).2.1); (case side3 => have hx_ := (Kd.R_reads' HO192.out).2.2; exact cC); (case side4 => exact (Kd.R_reads' HO192.out).2.1); rintro e w171 ⟨rfl, hb⟩; replace HO144 := rB HO144 hb; replace HO150 := rB HO150 hb; replace HO156 := rB HO156 hb; replace HO162 := rB HO162 hb; replace HO166 := rB HO166 hb; replace HO176 := rB HO176 hb; replace HO186 := rB HO186 hb; replace HO192 := rB HO192 hb; replace BK146 := bB BK146 hb; replace BK152 := bB BK152 hb; replace BK158 := bB BK158 hb; replace BK167 := bB BK167 hb; replace BK168 := bB BK168 hb; replace BK177 := bB BK177 hb; replace BK188 := bB BK188 hb; replace BK194 := bB BK194 hb; replace HB := sB HB hb; (try clear hb); obtain ⟨hcz172_0, hcz172_1, hfz172_0, hfz172_1⟩ := zZ BK177) | (go_at_call 17; (with_reducible refine (impl_IsCommittee.calls kj10 t173 _ _ t174 t197 _ ?side1 ?side2 A95.out).mono ?_); (case side1 => have hx_ := (Kd.R_reads' HO176.out).2.2; exact cC); (case side2 => exact (Kd.R_reads' HO176.out).2.1); rintro e w173 ⟨rfl, hb⟩; replace HO144 := rB HO144 hb; replace HO150 := rB HO150 hb; replace HO156 := rB HO156 hb; replace HO162 := rB HO162 hb; replace HO166 := rB HO166 hb; replace HO176 := rB HO176 hb; replace HO186 := rB HO186 hb; replace HO192 := rB HO192 hb; replace BK146 := bB BK146 hb; replace BK152 := bB BK152 hb; replace BK158 := bB BK158 hb; replace BK167 := bB BK167 hb; replace BK168 := bB BK168 hb; replace BK177 := bB BK177 hb; replace BK188 := bB BK188 hb; replace BK194 := bB BK194 hb; replace HB := sB HB hb; (try clear hb)) | go_values | go_skip | go_guarded | go_step | go_upon | go_back | ((with_reducible (show Go.Oper.upon _ _ _ _ _ _)); go_simp) | (go_ite <;> go_prune <;> try go_simp))
   (try simp only [Act.put, sA, sZ, sS])
   refine cutT_ [F,F,F,F,F,F,F,F,F,F,F,F,F,F,F,F,F,F,F,F,F,F,F,F,F,F,F,F,F,F,F,F,F,F,F,F,F,F,F,F,F,F,F,F,F,F,F,F,F,F,F,F,F,F,F,F,F,F,F,F,F,F,F,F,F,F,F,F,F,F,F,F,F,F,F,F,F,F,F,F,F,F,F,F,F,F,F,F,F,F,F,F,F,F,F,F,F,F,F,F,F,F,F,F,F,F,F,F,F,F,F,F,F,F,F,F,F,F,F,F,F,F,F,F,F,F,F,F,F,F,F,F,F,F,F,F,F,F,F,F,F,F,F,F,F,F,F,F,F,F,F,F,F,F,F,F,F,F,F,F,F,F,F,F,F,F,F,F,F,F,F,F,F,F,F,F,F,F,F,F,F,F,F,F,F,F,F,F,F,F,F,F,F,F,F,F,F,F,F,F,F,F,F,F,F,F,F,F,F,F,F,F,F,F,F,F,F,F,F,F,F,F,F,F,F,F,F,F,F,F,F,F,F,F,F,F,F,F,F,F,F,F,F,F,F,F,F,F,F,F,F,T,T,T,T,T,T,T,T,T,T,T,T,T,T,T,T,T,T,T,T,T,T,T,T,T,T,T,T,T,T,T,T,T] (fun T_ wc_ => (fun v283 wc => ∃ (kq : Nat) (x283_96 : Bool), v283 = .bool x283_96 ∧ Aside0 (laws_FnCommitteesChange.j2 kq t171 t172 t178 t197 t182 t193 x283_96 t159 t160 t163 t164 t173 t174 t183 t184 = some r) ∧ Aside0 (kq ≤ kj10) ∧ Aside0 (Kd.R (Kd.int .i64) 3 wc w.heap.size (fun k_ => nb (.slice Ao127 t164.length co127) k_ ∧ nb (.slice Ao140 t174.length co140) k_ ∧ nb (.slice Ao154 t184.length co154) k_) (.slice Ao122 t160.length co122) t160) ∧ Aside0 (Kd.R (Kd.int .i64) 3 wc w.heap.size (fun k_ => nb (.slice Ao122 t160.length co122) k_ ∧ nb (.slice Ao140 t174.length co140) k_ ∧ nb (.slice Ao154 t184.length co154) k_) (.slice Ao127 t164.length co127) t164) ∧ Aside0 (Kd.R (Kd.int .i64) 3 wc w.heap.size (fun k_ => nb (.slice Ao122 t160.length co122) k_ ∧ nb (.slice Ao127 t164.length co127) k_ ∧ nb (.slice Ao154 t184.length co154) k_) (.slice Ao140 t174.length co140) t174) ∧ Aside0 (Kd.R (Kd.int .i64) 3 wc w.heap.size (fun k_ => nb (.slice Ao122 t160.length co122) k_ ∧ nb (.slice Ao127 t164.length co127) k_ ∧ nb (.slice Ao140 t174.length co140) k_) (.slice Ao154 t184.length co154) t184) ∧ Aside0 (wc.heap[gb167]? = some (.cells #[.int .i64 t159, (.slice Ao122 t160.length co122)] 24 (0, 0))) ∧ Aside0 (wc.heap[gb168]? = some (.cells #[.int .i64 t163, (.slice Ao127 t164.length co127)] 24 (0, 0))) ∧ Aside0 (wc.heap[gb177]? = some (.cells #[.int .i64 t173, (.slice Ao140 t174.length co140)] 24 (0, 0))) ∧ Aside0 (wc.heap[gb188]? = some (.cells #[.int .i64 t183, (.slice Ao154 t184.length co154)] 24 (0, 0))) ∧ Aside0 (Below w.heap.size w wc)) (T_ 283) wc_) ?restj2 ?firstj2
   case firstj2 => as_aux_lemma =>
    intro J_ K_ hJ_j2 hM_
    have H := HC97.out
    clear HC97
    by_cases c174 : t157 = true
    rotate_left
    ·replace c174 := Bool.eq_false_iff.mpr c174
     subst c174
     replace H := iF H
     as_aux_lemma =>
      have H' := Aside0.mk H
      clear H
      try go_upto_region 9999 with (first | go_values | go_skip | go_guarded | go_step | go_upon | go_back | ((with_reducible (show Go.Oper.upon _ _ _ _ _ _)); go_simp) | (go_ite <;> go_prune <;> try go_simp))
      replace HO144 := rD HO144
      replace HO150 := rD HO150
      replace HO156 := rD HO156
      replace HO162 := rD HO162
      replace HO166 := rD HO166
      replace HO176 := rD HO176
      replace HO186 := rD HO186
      replace HO192 := rD HO192
      replace BK146 := bD BK146
      replace BK152 := bD BK152
      replace BK158 := bD BK158
      replace BK167 := bD BK167
      replace BK168 := bD BK168
      replace BK177 := bD BK177
      replace BK188 := bD BK188
      replace BK194 := bD BK194
      replace HB := Aside0.mk (below_drew1 HB.out)
      refine start_ (n := 33) (S := fun w' => True) (ds := []) #[F,F,F,F,F,F,F,F,F,F,F,F,F,F,F,F,F,F,F,F,F,F,F,F,F,F,F,F,F,F,F,F,F] (by kernel_rfl) rfl rfl trivial (fun hHeld => ?_); refine with_tabW laws_FnCommitteesChange.tab37 laws_FnCommitteesChange.bits37 (fun HT_ HW_ => ?_)
      generalize w173.drew = w182 at HO144 HO150 HO156 HO162 HO166 HO176 HO186 HO192 BK146 BK152 BK158 BK167 BK168 BK177 BK188 BK194 HB hHeld ⊢
      refine pU 0 HT_ ?_
      refine pU 1 HT_ ?_
      refine pV 2 HT_ ?_
      refine pV 3 HT_ ?_
      refine pV 4 HT_ ?_
      refine pV 5 HT_ ?_
      refine pV 6 HT_ ?_
      refine pV 7 HT_ ?_
      refine pV 8 HT_ ?_
      refine pV 9 HT_ ?_
      refine pV 10 HT_ ?_
      refine pV 11 HT_ ?_
      refine pV 12 HT_ ?_
      refine pV 13 HT_ ?_
      refine pV 14 HT_ ?_
      refine pV 15 HT_ ?_
      refine pV 16 HT_ ?_
      refine pV 17 HT_ ?_
      refine pV 18 HT_ ?_
      refine pV 19 HT_ ?_
      refine pV 20 HT_ ?_
      refine pV 21 HT_ ?_
      refine pV 22 HT_ ?_
      refine pV 23 HT_ ?_
      refine pV 24 HT_ ?_
      refine pV 25 HT_ ?_
      refine pV 26 HT_ ?_
      refine pV 27 HT_ ?_
      refine pV 28 HT_ ?_
      refine pV 29 HT_ ?_
      refine pV 30 HT_ ?_
      refine pV 31 HT_ ?_
      refine pU 32 HT_ ?_
      refine done_ (done_of HT_.out (by kernel_rfl)) ?_
      try go_upto_region 9999 with (first | go_values | go_skip | go_guarded | go_step | go_upon | go_back | ((with_reducible (show Go.Oper.upon _ _ _ _ _ _)); go_simp) | (go_ite <;> go_prune <;> try go_simp))
      refine meetT_ hJ_j2 (by kernel_rfl) ?rel
      case rel => exact ⟨_, (false), gR, H', ⟨by have := HJ10.out; first | omega | exact Nat.le_refl _⟩, ⟨by (with_reducible repeat (first | apply qA | apply qN | apply qD)); exact Kd.R_mono HO162.out (fun _ hk => by first | exact ⟨hk.1.1.1.1.1.1, ⟨hk.1.1.2, hk.1.2⟩⟩ | simp_all)⟩, ⟨by (with_reducible repeat (first | apply qA | apply qN | apply qD)); exact Kd.R_mono HO166.out (fun _ hk => by first | exact ⟨hk.1.1.1.1.1.1, ⟨hk.1.1.2, hk.1.2⟩⟩ | simp_all)⟩, ⟨by (with_reducible repeat (first | apply qA | apply qN | apply qD)); exact Kd.R_mono HO176.out (fun _ hk => by first | exact ⟨hk.1.1.1.2, ⟨hk.1.1.2, hk.1.2⟩⟩ | simp_all)⟩, ⟨by (with_reducible repeat (first | apply qA | apply qN | apply qD)); exact Kd.R_mono HO186.out (fun _ hk => by first | exact ⟨hk.1.1.1.2, ⟨hk.1.1.2, hk.1.2⟩⟩ | simp_all)⟩, ⟨bQ BK167⟩, ⟨bQ BK168⟩, ⟨bQ BK177⟩, ⟨bQ BK188⟩, ⟨wB⟩⟩
    subst c174
    replace H := iT H
    replace H := oA H
    obtain ⟨t198, A175, H⟩ := H
    (try dsimp only at H)
    replace H := ite_yes H
    obtain ⟨c176, H⟩ := H
    have c176b0 : decide (0 ≤ t145) = true := decide_eq_true c176
    clear c176
    (first | rw [c176b0] | (simp only [i64_w, i32_w]; rw [c176b0]) | skip)
    replace H := ite_yes H
    obtain ⟨c177, H⟩ := H
    have c177b0 : decide (t145 < (t142.length : Int)) = true := decide_eq_true c177
    clear c177
    replace H := oA H
    obtain ⟨t200, A178, H⟩ := H
    (try dsimp only at H)
    replace H := ite_yes H
    obtain ⟨c179, H⟩ := H
    have c179b0 : ((wrap64 (t198 + (rd t142 t145))) == t200) = true := beq_iff_eq.mpr c179
    have c179b1 : ((wrap64 (t198 + (rd t142 t145))) != t200) = false := bne_eq_false_iff_eq.mpr c179
    clear c179
    replace H := ite_yes H
    obtain ⟨c180, H⟩ := H
    have c180b0 : ((t148.length : Int) == (wrap64 ((t142.length : Int) - 1))) = true := beq_iff_eq.mpr c180
    have c180b1 : ((t148.length : Int) != (wrap64 ((t142.length : Int) - 1))) = false := bne_eq_false_iff_eq.mpr c180
    clear c180
    as_aux_lemma =>
     have H' := Aside0.mk H
     clear H
     try go_upto_region 9999 with (first | go_values | go_skip | go_guarded | go_step | go_upon | go_back | ((with_reducible (show Go.Oper.upon _ _ _ _ _ _)); go_simp) | (go_ite <;> go_prune <;> try go_simp))
     replace HO144 := rD HO144
     replace HO150 := rD HO150
     replace HO156 := rD HO156
     replace HO162 := rD HO162
     replace HO166 := rD HO166
     replace HO176 := rD HO176
     replace HO186 := rD HO186
     replace HO192 := rD HO192
     replace BK146 := bD BK146
     replace BK152 := bD BK152
     replace BK158 := bD BK158
     replace BK167 := bD BK167
     replace BK168 := bD BK168
     replace BK177 := bD BK177
     replace BK188 := bD BK188
     replace BK194 := bD BK194
     replace HB := Aside0.mk (below_drew1 HB.out)
     have p199 : 0 ≤ (t145 : Int) := oD
     have q199 : t145 < (t142.length : Int) := oD
     obtain ⟨ad199, e199, hx199_0⟩ := Kd.at_int (Kd.R_reads' HO144.out).2.2 t145 p199 q199
     cases e199
     replace p199 := eq_true p199
     replace q199 := eq_true q199
     refine start_ (n := 33) (S := fun w' => w'.cell? ⟨gb152, 0, none⟩ = some (.int .i64 t147) ∧ w'.cell? ⟨gb152, 1, none⟩ = some (.slice Ao106 t148.length co106) ∧ w'.cell? ⟨gb146, 0, none⟩ = some (.int .i64 t141) ∧ w'.cell? ⟨gb146, 1, none⟩ = some (.slice (some ad199) t142.length co101) ∧ w'.cell? (ad199.add (t145).toNat) = some (.int .i64 (rd t142 t145))) (ds := []) #[F,F,F,F,F,F,F,F,F,F,F,F,F,F,F,F,F,F,F,F,F,F,F,F,F,F,F,F,F,F,F,F,F] (by kernel_rfl) rfl rfl ⟨(blk_cell BK152.out 0).trans rfl, (blk_cell BK152.out 1).trans rfl, (blk_cell BK146.out 0).trans rfl, (blk_cell BK146.out 1).trans rfl, hx199_0⟩ (fun hHeld => ?_); refine with_tabW laws_FnCommitteesChange.tab37 laws_FnCommitteesChange.bits37 (fun HT_ HW_ => ?_)
     generalize w173.drew = w181 at HO144 HO150 HO156 HO162 HO166 HO176 HO186 HO192 BK146 BK152 BK158 BK167 BK168 BK177 BK188 BK194 HB hx199_0 hHeld ⊢
     refine pU 0 HT_ ?_
     refine pU 1 HT_ ?_
     refine pU 2 HT_ ?_
     refine pU 5 HT_ ?_
     refine pU 7 HT_ ?_
     refine pU 11 HT_ ?_
     refine tK 3 HT_ HW_ hHeld (hy := by rintro w' ⟨s0, s1, s2, s3, s4⟩; go_simp; with_reducible rfl) ?_
     refine tK 6 HT_ HW_ hHeld (hy := by rintro w' ⟨s0, s1, s2, s3, s4⟩; go_simp; with_reducible rfl) ?_
     refine pU 8 HT_ ?_
     refine tK 9 HT_ HW_ hHeld (hy := by rintro w' ⟨s0, s1, s2, s3, s4⟩; go_simp; with_reducible rfl) ?_
     refine tK 12 HT_ HW_ hHeld (hy := by rintro w' ⟨s0, s1, s2, s3, s4⟩; go_simp; with_reducible rfl) ?_
     refine oN 4 HT_ (fun K hK => ?_)
     refine gE Tryz.func18 #[.slice Ao106 t148.length co106] ?_
     with_reducible refine (laws_mSum.calls kj10 _ _ t148 t198 _ ?side1 ?side2 A175.out).mono ?_
     (case side1 => have hx_ := (Kd.R_reads' HO150.out).2.2; exact cC)
     (case side2 => exact (Kd.R_reads' HO150.out).2.1)
     rintro e w' ⟨rfl, ⟨nd, rfl⟩⟩
     refine ⟨_, rfl, ?_⟩
     refine hK.out _ _ ⟨(blk_cell BK152.out 0).trans rfl, (blk_cell BK152.out 1).trans rfl, (blk_cell BK146.out 0).trans rfl, (blk_cell BK146.out 1).trans rfl, hHeld.2.2.2.2⟩ (fun hHeld => ?_)
     clear hK K
     refine nM ?_
     refine pU 10 HT_ ?_
     refine oN 13 HT_ (fun K hK => ?_)
     refine gE Tryz.func18 #[.slice (some ad199) t142.length co101] ?_
     with_reducible refine (laws_mSum.calls kj10 _ _ t142 t200 _ ?side1 ?side2 A178.out).mono ?_
     (case side1 => have hx_ := (Kd.R_reads' HO144.out).2.2; exact cC)
     (case side2 => exact (Kd.R_reads' HO144.out).2.1)
     rintro e w' ⟨rfl, ⟨nd, rfl⟩⟩
     refine ⟨_, rfl, ?_⟩
     refine hK.out _ _ ⟨(blk_cell BK152.out 0).trans rfl, (blk_cell BK152.out 1).trans rfl, (blk_cell BK146.out 0).trans rfl, (blk_cell BK146.out 1).trans rfl, hHeld.2.2.2.2⟩ (fun hHeld => ?_)
     clear hK K
     refine nM ?_
     refine pU 14 HT_ ?_
     refine pU 15 HT_ ?_
     refine pU 16 HT_ ?_
     refine pU 19 HT_ ?_
     refine tK 17 HT_ HW_ hHeld (hy := by rintro w' ⟨s0, s1, s2, s3, s4⟩; go_simp; with_reducible rfl) ?_
     refine pU 18 HT_ ?_
     refine tK 20 HT_ HW_ hHeld (hy := by rintro w' ⟨s0, s1, s2, s3, s4⟩; go_simp; with_reducible rfl) ?_
     refine pU 21 HT_ ?_
     refine pU 22 HT_ ?_
     refine pU 23 HT_ ?_
     refine pU 24 HT_ ?_
     refine pU 25 HT_ ?_
     refine pU 26 HT_ ?_
     refine pU 28 HT_ ?_
     refine tK 27 HT_ HW_ hHeld (hy := by rintro w' ⟨s0, s1, s2, s3, s4⟩; go_simp; with_reducible rfl) ?_
     refine tK 29 HT_ HW_ hHeld (hy := by rintro w' ⟨s0, s1, s2, s3, s4⟩; go_simp; with_reducible rfl) ?_
     refine pU 30 HT_ ?_
     refine pU 31 HT_ ?_
     refine pU 32 HT_ ?_
     refine done_ (done_of HT_.out (by kernel_rfl)) ?_
     try go_upto_region 9999 with (first | go_values | go_skip | go_guarded | go_step | go_upon | go_back | ((with_reducible (show Go.Oper.upon _ _ _ _ _ _)); go_simp) | (go_ite <;> go_prune <;> try go_simp))
     refine meetT_ hJ_j2 (by kernel_rfl) ?rel
     case rel => exact ⟨_, ((t147 != t141)), gR, H', ⟨by have := HJ10.out; first | omega | exact Nat.le_refl _⟩, ⟨by (with_reducible repeat (first | apply qA | apply qN | apply qD)); exact Kd.R_mono HO162.out (fun _ hk => by first | exact ⟨hk.1.1.1.1.1.1, ⟨hk.1.1.2, hk.1.2⟩⟩ | simp_all)⟩, ⟨by (with_reducible repeat (first | apply qA | apply qN | apply qD)); exact Kd.R_mono HO166.out (fun _ hk => by first | exact ⟨hk.1.1.1.1.1.1, ⟨hk.1.1.2, hk.1.2⟩⟩ | simp_all)⟩, ⟨by (with_reducible repeat (first | apply qA | apply qN | apply qD)); exact Kd.R_mono HO176.out (fun _ hk => by first | exact ⟨hk.1.1.1.2, ⟨hk.1.1.2, hk.1.2⟩⟩ | simp_all)⟩, ⟨by (with_reducible repeat (first | apply qA | apply qN | apply qD)); exact Kd.R_mono HO186.out (fun _ hk => by first | exact ⟨hk.1.1.1.2, ⟨hk.1.1.2, hk.1.2⟩⟩ | simp_all)⟩, ⟨bQ BK167⟩, ⟨bQ BK168⟩, ⟨bQ BK177⟩, ⟨bQ BK188⟩, ⟨wB⟩⟩
   case restj2 => as_aux_lemma =>
    intro T_ wc hcut
    simp only [putT, putM, T, F, Nat.reduceAdd]
    (try dsimp only at hcut)
    generalize T_ 283 = u283 at hcut ⊢
    clear HC97
    (try clear c1); (try clear p1); (try clear q1); (try clear hx1); (try clear p2); (try clear p6); (try clear c17); (try clear c18); (try clear p19); (try clear q19); (try clear hx19); (try clear p64); (try clear c174); (try clear c176); (try clear c176b0); (try clear c177); (try clear c177b0); (try clear c179); (try clear c179b0); (try clear c179b1); (try clear c180); (try clear c180b0); (try clear c180b1); (try clear hx199_0); (try clear p199); (try clear q199)
    obtain ⟨kq, x283_96, rfl, HA, HJ96, HO_168001, HO_169001, HO_178001, HO_189001, BK167, BK168, BK177, BK188, HB⟩ := hcut
    cases kq with
    | zero => exact absurd HA.out (by simp [laws_FnCommitteesChange.j2])
    | succ kj96 =>
     have H := HA.out
     clear HA
     simp only [laws_FnCommitteesChange.j2] at H
     replace H := ite_no H
     obtain ⟨c183, H⟩ := H
     replace c183 := Bool.eq_false_iff.mpr c183
     subst c183
     have HC184 := Aside0.mk H
     clear H
     go_upto_if 284 with (fail)
     refine cutT_ [F,F,F,F,T,F,F,F,F,F,F,F,F,F,F,F,F,F,F,F,F,F,F,F,F,F,F,F,F,F,F,F,F,F,F,F,F,F,F,F,F,F,F,T,T,T,T,T,T,F,F,F,F,F,F,F,F,F,F,F,F,F,F,F,F,F,F,F,F,F,F,F,F,F,F,F,F,F,F,F,F,F,F,F,F,F,F,F,F,F,F,F,F,F,F,F,F,F,F,F,F,F,F,F,F,F,F,F,F,F,F,F,F,F,F,F,F,F,F,F,F,F,F,F,F,F,F,F,F,F,F,F,F,F,F,F,F,F,F,F,F,F,F,F,F,F,F,F,F,F,F,F,F,F,F,F,F,F,F,F,F,F,F,F,F,F,F,F,F,F,F,F,F,F,F,F,F,F,F,F,F,F,F,F,F,F,F,F,F,F,F,F,F,F,F,F,F,F,F,F,F,F,F,F,F,F,F,F,F,F,F,F,F,F,F,F,F,F,F,F,F,F,F,F,F,F,F,F,F,F,F,F,F,F,F,F,F,F,F,F,F,F,F,F,F,F,F,F,F,F,F,F,F,F,F,F,F,F,F,F,F,F,F,F,F,F,F,F,F,F,F,F,F,F,F,F,F,F,F,F,F,F,F,F,T,T,T,T,T,T,T,T,T,T,T,T,T,T,T,T,T,T,T,T,T,T,T,T,T,T,T,T,T,T,T,T,T,T,T,T,T,T,T,T,T,T,T,T,T,T,T,T] (fun T_ wc_ => (fun wc => ∃ (kq : Nat), Aside0 (laws_FnCommitteesChange.j3 kq t178 t197 t182 t193 t173 t174 t183 t184 = some r) ∧ Aside0 (kq ≤ kj96) ∧ Aside0 (Kd.R (Kd.int .i64) 3 wc w.heap.size (fun k_ => nb (.slice Ao154 t184.length co154) k_) (.slice Ao140 t174.length co140) t174) ∧ Aside0 (Kd.R (Kd.int .i64) 3 wc w.heap.size (fun k_ => nb (.slice Ao140 t174.length co140) k_) (.slice Ao154 t184.length co154) t184) ∧ Aside0 (wc.heap[gb177]? = some (.cells #[.int .i64 t173, (.slice Ao140 t174.length co140)] 24 (0, 0))) ∧ Aside0 (wc.heap[gb188]? = some (.cells #[.int .i64 t183, (.slice Ao154 t184.length co154)] 24 (0, 0))) ∧ Aside0 (Below w.heap.size w wc))  wc_) ?restj3 ?firstj3
     case firstj3 => as_aux_lemma =>
      intro J_ K_ hJ_j3 hM_
      have H := HC184.out
      clear HC184
      by_cases c185 : t172 = true
      rotate_left
      ·replace c185 := Bool.eq_false_iff.mpr c185
       subst c185
       replace H := iF H
       as_aux_lemma =>
        have H' := Aside0.mk H
        clear H
        go_upto_region 9999 with (first | go_values | go_skip | go_guarded | go_step | go_upon | go_back | ((with_reducible (show Go.Oper.upon _ _ _ _ _ _)); go_simp) | (go_ite <;> go_prune <;> try go_simp))
        refine meetT_ hJ_j3 (by kernel_rfl) ?rel
        case rel => exact ⟨_, H', ⟨by have := HJ10.out; have := HJ96.out; first | omega | exact Nat.le_refl _⟩, ⟨by (with_reducible repeat (first | apply qA | apply qN | apply qD)); exact Kd.R_mono HO_178001.out (fun _ hk => by first | exact hk.2.2 | simp_all)⟩, ⟨by (with_reducible repeat (first | apply qA | apply qN | apply qD)); exact Kd.R_mono HO_189001.out (fun _ hk => by first | exact hk.2.2 | simp_all)⟩, ⟨bQ BK177⟩, ⟨bQ BK188⟩, ⟨wB⟩⟩
      subst c185
      replace H := iT H
      replace H := oB H
      obtain ⟨⟨t201, t204⟩, A1860, H⟩ := H
      (try dsimp only at H)
      have A186 := Aside0.mk A1860
      clear A1860
      replace H := oB H
      obtain ⟨⟨t205, t208⟩, A1870, H⟩ := H
      (try dsimp only at H)
      have A187 := Aside0.mk A1870
      clear A1870
      replace H := oB H
      obtain ⟨⟨t209, t210⟩, A1880, H⟩ := H
      (try dsimp only at H)
      have A188 := Aside0.mk A1880
      clear A1880
      replace H := ite_yes H
      obtain ⟨c189, H⟩ := H
      subst c189
      replace H := ite_yes H
      obtain ⟨c190, H⟩ := H
      subst c190
      by_cases c191 : (t160.length : Int) = (t164.length : Int)
      rotate_left
      ·rw [if_neg c191] at H
       have c191b0 : ((t160.length : Int) == (t164.length : Int)) = false := beq_eq_false_iff_ne.mpr c191
       have c191b1 : ((t160.length : Int) != (t164.length : Int)) = true := bne_iff_ne.mpr c191
       have c191b2 : (t160.length == t164.length) = false := by first | simpa using c191 | (simp at c191 ⊢; omega)
       (first | rw [c191b0] | (simp only [i64_w, i32_w]; rw [c191b0]) | skip)
       replace H := ite_no H
       obtain ⟨c212, H⟩ := H
       replace c212 := of_nbne c212
       subst t171
       replace H := ite_yes H
       obtain ⟨c213, H⟩ := H
       subst c213
       replace H := ite_no H
       obtain ⟨c214, H⟩ := H
       replace c214 := of_nbne c214
       subst t209
       as_aux_lemma =>
        have H' := Aside0.mk H
        clear H
        have hnb215 := NB167_168.out
        have hnc215 := NB168_167.out
        have hnb216 := NB167_177.out
        have hnc216 := NB177_167.out
        have hnb217 := NB167_188.out
        have hnc217 := NB188_167.out
        (try clear hcz208_0 hcz208_1 hfz208_0 hfz208_1 hcz209_0 hcz209_1 hfz209_0 hfz209_1)
        obtain ⟨hcz218_0, hcz218_1, hfz218_0, hfz218_1⟩ := zZ BK167
        go_upto_region 41 with (first | ((with_reducible refine gate_callee (f := 19) rfl ?_); refine gL 287 Tryz.func19 #[.agg #[.int .i64 t159, .slice Ao122 t160.length co122]] ?_; (with_reducible refine (impl_LeastWinning.calls kj96 t159 _ _ t160 t201 true _ ?side1 ?side2 A186.out).mono ?_); (case side1 => have hx_ := (Kd.R_reads' HO_168001.out).2.2; exact cC); (case side2 => exact (Kd.R_reads' HO_168001.out).2.1); rintro e w219 ⟨v202, rfl, ho0, hb⟩; refine ⟨_, rfl, ?_⟩; replace HO_168001 := rP HO_168001 hb; replace HO_169001 := rP HO_169001 hb; replace HO_178001 := rP HO_178001 hb; replace HO_189001 := rP HO_189001 hb; replace BK167 := bP BK167 hb; replace BK168 := bP BK168 hb; replace BK177 := bP BK177 hb; replace BK188 := bP BK188 hb; replace HB := sQ hb; (try clear hb); (try clear ho0); have hnb220 := NB168_177.out; have hnc220 := NB177_168.out; have hnb221 := NB168_188.out; have hnc221 := NB188_168.out; (try clear hcz218_0 hcz218_1 hfz218_0 hfz218_1); obtain ⟨hcz222_0, hcz222_1, hfz222_0, hfz222_1⟩ := zZ BK168) | go_values | go_skip | go_guarded | go_step | go_upon | go_back | ((with_reducible (show Go.Oper.upon _ _ _ _ _ _)); go_simp) | (go_ite <;> go_prune <;> try go_simp))
        go_upto_region 42 with (first | ((with_reducible refine gate_callee (f := 19) rfl ?_); refine gL 292 Tryz.func19 #[.agg #[.int .i64 t163, .slice Ao127 t164.length co127]] ?_; (with_reducible refine (impl_LeastWinning.calls kj96 t163 _ _ t164 t205 true _ ?side1 ?side2 A187.out).mono ?_); (case side1 => have hx_ := (Kd.R_reads' HO_169001.out).2.2; exact cC); (case side2 => exact (Kd.R_reads' HO_169001.out).2.1); rintro e w223 ⟨v206, rfl, ho0, hb⟩; refine ⟨_, rfl, ?_⟩; replace HO_168001 := rP HO_168001 hb; replace HO_169001 := rP HO_169001 hb; replace HO_178001 := rP HO_178001 hb; replace HO_189001 := rP HO_189001 hb; replace BK167 := bP BK167 hb; replace BK168 := bP BK168 hb; replace BK177 := bP BK177 hb; replace BK188 := bP BK188 hb; replace HB := sQ hb; (try clear hb); (try clear ho0); (try clear hcz222_0 hcz222_1 hfz222_0 hfz222_1); obtain ⟨hcz224_0, hcz224_1, hfz224_0, hfz224_1⟩ := zZ BK168; obtain ⟨hcz225_0, hcz225_1, hfz225_0, hfz225_1⟩ := zZ BK167) | go_values | go_skip | go_guarded | go_step | go_upon | go_back | ((with_reducible (show Go.Oper.upon _ _ _ _ _ _)); go_simp) | (go_ite <;> go_prune <;> try go_simp))
        go_upto_region 9999 with (first | ((with_reducible refine gate_callee (f := 11) rfl ?_); refine gL 298 Tryz.func11 #[.agg #[.int .i64 t163, .slice Ao127 t164.length co127], .agg #[.int .i64 t159, .slice Ao122 t160.length co122]] ?_; (with_reducible refine (impl_AreSameVotes.calls kj96 t163 _ _ t164 t159 _ _ t160 false true _ ?side1 ?side2 ?side3 ?side4 A188.out).mono ?_); (case side1 => have hx_ := (Kd.R_reads' HO_169001.out).2.2; exact cC); (case side2 => exact (Kd.R_reads' HO_169001.out).2.1); (case side3 => have hx_ := (Kd.R_reads' HO_168001.out).2.2; exact cC); (case side4 => exact (Kd.R_reads' HO_168001.out).2.1); rintro e w226 ⟨rfl, hb⟩; refine ⟨_, rfl, ?_⟩; replace HO_178001 := rP HO_178001 hb; replace HO_189001 := rP HO_189001 hb; replace BK167 := bP BK167 hb; replace BK168 := bP BK168 hb; replace BK177 := bP BK177 hb; replace BK188 := bP BK188 hb; replace HB := sQ hb; (try clear hb); (try clear hcz224_0 hcz224_1 hfz224_0 hfz224_1 hcz225_0 hcz225_1 hfz225_0 hfz225_1); obtain ⟨hcz227_0, hcz227_1, hfz227_0, hfz227_1⟩ := zZ BK167; obtain ⟨hcz228_0, hcz228_1, hfz228_0, hfz228_1⟩ := zZ BK168) | go_values | go_skip | go_guarded | go_step | go_upon | go_back | ((with_reducible (show Go.Oper.upon _ _ _ _ _ _)); go_simp) | (go_ite <;> go_prune <;> try go_simp))
        refine meetT_ hJ_j3 (by kernel_rfl) ?rel
        case rel => exact ⟨_, H', ⟨by have := HJ10.out; have := HJ96.out; first | omega | exact Nat.le_refl _⟩, ⟨by (with_reducible repeat (first | apply qA | apply qN | apply qD)); exact Kd.R_mono HO_178001.out (fun _ hk => by first | exact hk.2.2 | simp_all)⟩, ⟨by (with_reducible repeat (first | apply qA | apply qN | apply qD)); exact Kd.R_mono HO_189001.out (fun _ hk => by first | exact hk.2.2 | simp_all)⟩, ⟨bQ BK177⟩, ⟨bQ BK188⟩, ⟨wB⟩⟩
      rw [if_pos c191] at H
      have c191b0 : ((t160.length : Int) == (t164.length : Int)) = true := beq_iff_eq.mpr c191
      have c191b1 : ((t160.length : Int) != (t164.length : Int)) = false := bne_eq_false_iff_eq.mpr c191
      have c191b2 : (t160.length == t164.length) = true := by first | simpa using c191 | (simp at c191 ⊢; omega)
      clear c191
      (first | rw [c191b0] | (simp only [i64_w, i32_w]; rw [c191b0]) | skip)
      replace H := oA H
      obtain ⟨t211, A192, H⟩ := H
      (try dsimp only at H)
      replace H := ite_no H
      obtain ⟨c193, H⟩ := H
      replace c193 := of_nbne c193
      subst t171
      replace H := ite_yes H
      obtain ⟨c194, H⟩ := H
      subst c194
      replace H := ite_no H
      obtain ⟨c195, H⟩ := H
      replace c195 := of_nbne c195
      subst t209
      as_aux_lemma =>
       have H' := Aside0.mk H
       clear H
       have hnb196 := NB167_168.out
       have hnc196 := NB168_167.out
       have hnb197 := NB167_177.out
       have hnc197 := NB177_167.out
       have hnb198 := NB167_188.out
       have hnc198 := NB188_167.out
       obtain ⟨hcz199_0, hcz199_1, hfz199_0, hfz199_1⟩ := zZ BK167
       go_upto_region 41 with (first | ((with_reducible refine gate_callee (f := 19) rfl ?_); refine gL 287 Tryz.func19 #[.agg #[.int .i64 t159, .slice Ao122 t160.length co122]] ?_; (with_reducible refine (impl_LeastWinning.calls kj96 t159 _ _ t160 t201 true _ ?side1 ?side2 A186.out).mono ?_); (case side1 => have hx_ := (Kd.R_reads' HO_168001.out).2.2; exact cC); (case side2 => exact (Kd.R_reads' HO_168001.out).2.1); rintro e w200 ⟨v202, rfl, ho0, hb⟩; refine ⟨_, rfl, ?_⟩; have HO203 := Aside0.mk (Kd.S_lower (Kd.S_new' (Kd.S_new' (Kd.S_new' (Kd.S_new' ho0 (Kd.R_lt HO_168001.out)) (Kd.R_lt HO_169001.out)) (Kd.R_lt HO_178001.out)) (Kd.R_lt HO_189001.out)) (below_size HB.out)); replace HO_168001 := rB HO_168001 hb; replace HO_169001 := rB HO_169001 hb; replace HO_178001 := rB HO_178001 hb; replace HO_189001 := rB HO_189001 hb; replace BK167 := bB BK167 hb; replace BK168 := bB BK168 hb; replace BK177 := bB BK177 hb; replace BK188 := bB BK188 hb; replace HB := sB HB hb; (try clear hb); (try clear ho0); have hnb201 := NB168_177.out; have hnc201 := NB177_168.out; have hnb202 := NB168_188.out; have hnc202 := NB188_168.out; (try clear hcz199_0 hcz199_1 hfz199_0 hfz199_1); obtain ⟨hcz203_0, hcz203_1, hfz203_0, hfz203_1⟩ := zZ BK168) | go_values | go_skip | go_guarded | go_step | go_upon | go_back | ((with_reducible (show Go.Oper.upon _ _ _ _ _ _)); go_simp) | (go_ite <;> go_prune <;> try go_simp))
       go_upto_region 42 with (first | ((with_reducible refine gate_callee (f := 19) rfl ?_); refine gL 292 Tryz.func19 #[.agg #[.int .i64 t163, .slice Ao127 t164.length co127]] ?_; (with_reducible refine (impl_LeastWinning.calls kj96 t163 _ _ t164 t205 true _ ?side1 ?side2 A187.out).mono ?_); (case side1 => have hx_ := (Kd.R_reads' HO_169001.out).2.2; exact cC); (case side2 => exact (Kd.R_reads' HO_169001.out).2.1); rintro e w204 ⟨v206, rfl, ho0, hb⟩; refine ⟨_, rfl, ?_⟩; have HO207 := Aside0.mk (Kd.S_lower (Kd.S_new' (Kd.S_new' (Kd.S_new' (Kd.S_new' (Kd.S_new' ho0 (Kd.R_lt HO_168001.out)) (Kd.R_lt HO_169001.out)) (Kd.R_lt HO_178001.out)) (Kd.R_lt HO_189001.out)) (Kd.S_lt HO203.out)) (below_size HB.out)); replace HO_168001 := rB HO_168001 hb; replace HO_169001 := rB HO_169001 hb; replace HO_178001 := rB HO_178001 hb; replace HO_189001 := rB HO_189001 hb; replace HO203 := tE HO203 (Kd.S_base ho0) hb; replace BK167 := bB BK167 hb; replace BK168 := bB BK168 hb; replace BK177 := bB BK177 hb; replace BK188 := bB BK188 hb; replace HB := sB HB hb; (try clear hb); (try clear ho0); (try clear hcz203_0 hcz203_1 hfz203_0 hfz203_1); obtain ⟨hcz205_0, hcz205_1, hfz205_0, hfz205_1⟩ := zZ BK168; obtain ⟨hcz206_0, hcz206_1, hfz206_0, hfz206_1⟩ := zZ BK167) | go_values | go_skip | go_guarded | go_step | go_upon | go_back | ((with_reducible (show Go.Oper.upon _ _ _ _ _ _)); go_simp) | (go_ite <;> go_prune <;> try go_simp))
       go_upto_region 43 with (first | ((with_reducible refine gate_callee (f := 11) rfl ?_); refine gL 298 Tryz.func11 #[.agg #[.int .i64 t163, .slice Ao127 t164.length co127], .agg #[.int .i64 t159, .slice Ao122 t160.length co122]] ?_; (with_reducible refine (impl_AreSameVotes.calls kj96 t163 _ _ t164 t159 _ _ t160 t211 true _ ?side1 ?side2 ?side3 ?side4 A188.out).mono ?_); (case side1 => have hx_ := (Kd.R_reads' HO_169001.out).2.2; exact cC); (case side2 => exact (Kd.R_reads' HO_169001.out).2.1); (case side3 => have hx_ := (Kd.R_reads' HO_168001.out).2.2; exact cC); (case side4 => exact (Kd.R_reads' HO_168001.out).2.1); rintro e w207 ⟨rfl, hb⟩; refine ⟨_, rfl, ?_⟩; replace HO_168001 := rB HO_168001 hb; replace HO_169001 := rB HO_169001 hb; replace HO_178001 := rB HO_178001 hb; replace HO_189001 := rB HO_189001 hb; replace HO203 := tB HO203 hb; replace HO207 := tB HO207 hb; replace BK167 := bB BK167 hb; replace BK168 := bB BK168 hb; replace BK177 := bB BK177 hb; replace BK188 := bB BK188 hb; replace HB := sB HB hb; (try clear hb); (try clear hcz205_0 hcz205_1 hfz205_0 hfz205_1 hcz206_0 hcz206_1 hfz206_0 hfz206_1); obtain ⟨hcz208_0, hcz208_1, hfz208_0, hfz208_1⟩ := zZ BK167; obtain ⟨hcz209_0, hcz209_1, hfz209_0, hfz209_1⟩ := zZ BK168; obtain ⟨Ao210, co210, eo210⟩ := Kd.S_slice HO203.out; subst eo210; obtain ⟨Ao211, co211, eo211⟩ := Kd.S_slice HO207.out; subst eo211) | go_values | go_skip | go_guarded | go_step | go_upon | go_back | ((with_reducible (show Go.Oper.upon _ _ _ _ _ _)); go_simp) | (go_ite <;> go_prune <;> try go_simp))
       go_upto_region 9999 with (first | (go_at_call 20; (with_reducible refine (laws_mSets.calls kj96 _ _ t201 _ _ t205 t211 _ ?side1 ?side2 ?side3 ?side4 A192.out).mono ?_); (case side1 => have hx_ := (Kd.S_reads' HO203.out).2.2; exact cC); (case side2 => exact (Kd.S_reads' HO203.out).2.1); (case side3 => have hx_ := (Kd.S_reads' HO207.out).2.2; exact cC); (case side4 => exact (Kd.S_reads' HO207.out).2.1); rintro e w' ⟨rfl, ⟨nd, rfl⟩⟩) | go_values | go_skip | go_guarded | go_step | go_upon | go_back | ((with_reducible (show Go.Oper.upon _ _ _ _ _ _)); go_simp) | (go_ite <;> go_prune <;> try go_simp))
       refine meetT_ hJ_j3 (by kernel_rfl) ?rel
       case rel => exact ⟨_, H', ⟨by have := HJ10.out; have := HJ96.out; first | omega | exact Nat.le_refl _⟩, ⟨by (with_reducible repeat (first | apply qA | apply qN | apply qD)); exact Kd.R_mono HO_178001.out (fun _ hk => by first | exact hk.2.2 | simp_all)⟩, ⟨by (with_reducible repeat (first | apply qA | apply qN | apply qD)); exact Kd.R_mono HO_189001.out (fun _ hk => by first | exact hk.2.2 | simp_all)⟩, ⟨bQ BK177⟩, ⟨bQ BK188⟩, ⟨wB⟩⟩
     case restj3 => as_aux_lemma =>
      intro T_ wc hcut
      simp only [putT, putM, T, F, Nat.reduceAdd]
      (try dsimp only at hcut)
      clear HC184
      (try clear c1); (try clear p1); (try clear q1); (try clear hx1); (try clear c2); (try clear p2); (try clear p6); (try clear c11); (try clear c17); (try clear c18); (try clear c19); (try clear p19); (try clear q19); (try clear hx19); (try clear c20); (try clear c21); (try clear c22); (try clear p64); (try clear c174); (try clear c176); (try clear c176b0); (try clear c177); (try clear c177b0); (try clear c179); (try clear c179b0); (try clear c179b1); (try clear c180); (try clear c180b0); (try clear c180b1); (try clear c183); (try clear c185); (try clear c189); (try clear c190); (try clear c191); (try clear c191b0); (try clear c191b1); (try clear c191b2); (try clear c193); (try clear c194); (try clear c195); (try clear c196); (try clear c197); (try clear c198); (try clear p199); (try clear q199); (try clear hx199); (try clear c201); (try clear c202); (try clear c212); (try clear c213); (try clear c214); (try clear c215); (try clear c216); (try clear c217); (try clear c220); (try clear c221); (try clear hcz227_0); (try clear hcz227_1); (try clear hcz228_0); (try clear hcz228_1); (try clear hfz227_0); (try clear hfz227_1); (try clear hfz228_0); (try clear hfz228_1); (try clear hx199_0); (try clear p1); (try clear p19); (try clear p199); (try clear p2); (try clear p6); (try clear p64); (try clear q1); (try clear q19); (try clear q199)
      obtain ⟨kq, HA, HJ183, HO_178001, HO_189001, BK177, BK188, HB⟩ := hcut
      cases kq with
      | zero => exact absurd HA.out (by simp [laws_FnCommitteesChange.j3])
      | succ kj183 =>
       have H := HA.out
       clear HA
       simp only [laws_FnCommitteesChange.j3] at H
       by_cases c229 : t197 = true
       rotate_left
       ·replace c229 := Bool.eq_false_iff.mpr c229
        subst c229
        replace H := iF H
        by_cases c257 : t193 = true
        rotate_left
        ·replace c257 := Bool.eq_false_iff.mpr c257
         subst c257
         replace H := iF H
         as_aux_lemma =>
          obtain rfl := Option.some.inj H
          go_upto_region 9999 with (first | go_values | go_skip | go_guarded | go_step | go_upon | go_back | ((with_reducible (show Go.Oper.upon _ _ _ _ _ _)); go_simp) | (go_ite <;> go_prune <;> try go_simp))
          go_ret
          exact ⟨fR, wB⟩
        subst c257
        replace H := iT H
        replace H := oB H
        obtain ⟨⟨t221, t222⟩, A2580, H⟩ := H
        (try dsimp only at H)
        have A258 := Aside0.mk A2580
        clear A2580
        replace H := ite_yes H
        obtain ⟨c259, H⟩ := H
        subst c259
        as_aux_lemma =>
         obtain rfl := Option.some.inj H
         (try clear hcz252_0 hcz252_1 hfz252_0 hfz252_1 hcz255_0 hcz255_1 hfz255_0 hfz255_1)
         obtain ⟨hcz261_0, hcz261_1, hfz261_0, hfz261_1⟩ := zZ BK188
         go_upto_region 9999 with (first | ((with_reducible refine gate_callee (f := 13) rfl ?_); refine gL 349 Tryz.func13 #[.agg #[.int .i64 t183, .slice Ao154 t184.length co154]] ?_; (with_reducible refine (impl_CommitteeText.calls kj183 t183 _ _ t184 t221 true _ ?side1 ?side2 A258.out (HZ.out.on HB.out)).mono ?_); (case side1 => have hx_ := (Kd.R_reads' HO_189001.out).2.2; exact cC); (case side2 => exact (Kd.R_reads' HO_189001.out).2.1); rintro e w262 ⟨rfl, hb⟩; refine ⟨_, rfl, ?_⟩; replace HB := sB HB hb; (try clear hb)) | go_values | go_skip | go_guarded | go_step | go_upon | go_back | ((with_reducible (show Go.Oper.upon _ _ _ _ _ _)); go_simp) | (go_ite <;> go_prune <;> try go_simp))
         go_ret
         exact ⟨fR, wB⟩
       subst c229
       replace H := iT H
       replace H := oB H
       obtain ⟨⟨t212, t213, t216⟩, A2300, H⟩ := H
       (try dsimp only at H)
       have A230 := Aside0.mk A2300
       clear A2300
       replace H := ite_yes H
       obtain ⟨c231, H⟩ := H
       subst c231
       replace H := oA H
       obtain ⟨t218, A232, H⟩ := H
       (try dsimp only at H)
       replace H := ite_yes H
       obtain ⟨c233, H⟩ := H
       subst c233
       by_cases c234 : t193 = true
       rotate_left
       ·replace c234 := Bool.eq_false_iff.mpr c234
        subst c234
        replace H := iF H
        as_aux_lemma =>
         obtain rfl := Option.some.inj H
         go_upto_region 47 with (first | ((with_reducible refine gate_callee (f := 15) rfl ?_); refine gL 335 Tryz.func15 #[.string t178] ?_; (with_reducible refine (impl_ParseCommittee.calls kj183 t178 t212 t213 true _ A230.out (HZ.out.on HB.out)).mono ?_); rintro e w248 ⟨v214, rfl, ho0, hb⟩; refine ⟨_, rfl, ?_⟩; have HO215 := Aside0.mk (Kd.R_lower (Kd.R_new' (Kd.R_new' ho0 (Kd.R_lt HO_178001.out)) (Kd.R_lt HO_189001.out)) (below_size HB.out)); replace HO_178001 := rE HO_178001 (Kd.R_base ho0) hb; replace HO_189001 := rE HO_189001 (Kd.R_base ho0) hb; replace BK177 := bB BK177 hb; replace BK188 := bB BK188 hb; replace HB := sB HB hb; (try clear hb); (try clear ho0)) | ((with_reducible refine gate_dst (N := 49) rfl ?_); (try (refine gate_guard (by rfl) ?_; dsimp only)); refine xE (N := 49) (cs := #[.int .i64 0, .slice none 0 0]) (t := 24) ?_; intro gb217 hg w249 BK217 hb; have GE217 := gS hg HB; have NB177_217 := nL hg (blk_lt BK177.out); have NB217_177 := nG hg (blk_lt BK177.out); have NB188_217 := nL hg (blk_lt BK188.out); have NB217_188 := nG hg (blk_lt BK188.out); replace HO_178001 := rB HO_178001 hb; replace HO_189001 := rB HO_189001 hb; replace HO215 := rB HO215 hb; replace BK177 := bB BK177 hb; replace BK188 := bB BK188 hb; replace HB := sB HB hb; clear hb hg; have hnb250 := NB217_177.out; have hnc250 := NB177_217.out; have hnb251 := NB217_188.out; have hnc251 := NB188_217.out; (try clear hcz246_0 hcz246_1 hfz246_0 hfz246_1); obtain ⟨hcz252_0, hcz252_1, hfz252_0, hfz252_1⟩ := zZ BK217; obtain ⟨Ao253, co253, eo253⟩ := Kd.R_slice HO215.out; subst eo253; have hnb254 := NB177_188.out; have hnc254 := NB188_177.out; obtain ⟨hcz255_0, hcz255_1, hfz255_0, hfz255_1⟩ := zZ BK177) | go_values | go_skip | go_guarded | go_step | go_upon | go_back | ((with_reducible (show Go.Oper.upon _ _ _ _ _ _)); go_simp) | (go_ite <;> go_prune <;> try go_simp))
         go_upto_region 9999 with (first | (go_at_call 7; (with_reducible refine (laws_mCommittee.calls kj183 t212 _ _ t213 t173 _ _ t174 true _ ?side1 ?side2 ?side3 ?side4 A232.out).mono ?_); (case side1 => refine (Kd.R_reads' (e := 3) (base := w.heap.size) (ok := fun k_ => ((True ∧ nb (.slice Ao140 t174.length co140) k_) ∧ nb (.slice Ao154 t184.length co154) k_)) (n := t213.length) (c := co253) ?_).2.2; exact (by exact (Kd.R_mono (Kd.R_far (p := ⟨gb217, 1, none⟩) (Kd.R_far (p := ⟨gb217, 0, none⟩) (Kd.R_types HO215.out BK217.out (by decide)) (fun _ hk => hk.2) (.int .i64 t212)) (fun _ hk => hk.2) (.slice Ao253 t213.length co253)) (fun _ h_ => h_.1)))); (case side2 => exact (Kd.R_reads' HO215.out).2.1); (case side3 => refine (Kd.R_reads' (e := 3) (base := w.heap.size) (ok := fun k_ => (nb (.slice Ao154 t184.length co154) k_ ∧ nb (.slice Ao253 t213.length co253) k_)) (n := t174.length) (c := co140) ?_).2.2; exact (by exact (Kd.R_mono (Kd.R_far (p := ⟨gb217, 1, none⟩) (Kd.R_far (p := ⟨gb217, 0, none⟩) (Kd.R_types HO_178001.out BK217.out (by decide)) (fun _ hk => hk.2) (.int .i64 t212)) (fun _ hk => hk.2) (.slice Ao253 t213.length co253)) (fun _ h_ => h_.1)))); (case side4 => exact (Kd.R_reads' HO_178001.out).2.1); rintro e w256 ⟨rfl, hb⟩; replace HO_189001 := Aside0.mk (Kd.R_below (by exact (Kd.R_mono (Kd.R_far (p := ⟨gb217, 1, none⟩) (Kd.R_far (p := ⟨gb217, 0, none⟩) (Kd.R_types HO_189001.out BK217.out (by decide)) (fun _ hk => hk.2) (.int .i64 t212)) (fun _ hk => hk.2) (.slice Ao253 t213.length co253)) (fun _ h_ => h_.1))) hb); replace BK188 := Aside0.mk (blk_below (g := gb188) (o := .cells #[.int .i64 t183, .slice Ao154 t184.length co154] 24 (0, 0)) (by refine blk_far ?_ NB188_217.out _; refine blk_far ?_ NB188_217.out _; exact BK188.out) hb); replace HB := Aside0.mk (below_step (by repeat (first | exact HB.out | apply ba | refine bs ?_ GE217.out)) hb); (try clear hb)) | go_values | go_skip | go_guarded | go_step | go_upon | go_back | ((with_reducible (show Go.Oper.upon _ _ _ _ _ _)); go_simp) | (go_ite <;> go_prune <;> try go_simp))
         go_ret
         exact ⟨fR, wB⟩
       subst c234
       replace H := iT H
       replace H := oB H
       obtain ⟨⟨t219, t220⟩, A2350, H⟩ := H
       (try dsimp only at H)
       have A235 := Aside0.mk A2350
       clear A2350
       replace H := ite_yes H
       obtain ⟨c236, H⟩ := H
       subst c236
       as_aux_lemma =>
        obtain rfl := Option.some.inj H
        go_upto_region 47 with (first | ((with_reducible refine gate_callee (f := 15) rfl ?_); refine gL 335 Tryz.func15 #[.string t178] ?_; (with_reducible refine (impl_ParseCommittee.calls kj183 t178 t212 t213 true _ A230.out (HZ.out.on HB.out)).mono ?_); rintro e w237 ⟨v214, rfl, ho0, hb⟩; refine ⟨_, rfl, ?_⟩; have HO215 := Aside0.mk (Kd.R_lower (Kd.R_new' (Kd.R_new' ho0 (Kd.R_lt HO_178001.out)) (Kd.R_lt HO_189001.out)) (below_size HB.out)); replace HO_178001 := rE HO_178001 (Kd.R_base ho0) hb; replace HO_189001 := rE HO_189001 (Kd.R_base ho0) hb; replace BK177 := bB BK177 hb; replace BK188 := bB BK188 hb; replace HB := sB HB hb; (try clear hb); (try clear ho0)) | ((with_reducible refine gate_dst (N := 49) rfl ?_); (try (refine gate_guard (by rfl) ?_; dsimp only)); refine xE (N := 49) (cs := #[.int .i64 0, .slice none 0 0]) (t := 24) ?_; intro gb217 hg w238 BK217 hb; have GE217 := gS hg HB; have NB177_217 := nL hg (blk_lt BK177.out); have NB217_177 := nG hg (blk_lt BK177.out); have NB188_217 := nL hg (blk_lt BK188.out); have NB217_188 := nG hg (blk_lt BK188.out); replace HO_178001 := rB HO_178001 hb; replace HO_189001 := rB HO_189001 hb; replace HO215 := rB HO215 hb; replace BK177 := bB BK177 hb; replace BK188 := bB BK188 hb; replace HB := sB HB hb; clear hb hg; have hnb239 := NB217_177.out; have hnc239 := NB177_217.out; have hnb240 := NB217_188.out; have hnc240 := NB188_217.out; obtain ⟨hcz241_0, hcz241_1, hfz241_0, hfz241_1⟩ := zZ BK217; obtain ⟨Ao242, co242, eo242⟩ := Kd.R_slice HO215.out; subst eo242; have hnb243 := NB177_188.out; have hnc243 := NB188_177.out; obtain ⟨hcz244_0, hcz244_1, hfz244_0, hfz244_1⟩ := zZ BK177) | go_values | go_skip | go_guarded | go_step | go_upon | go_back | ((with_reducible (show Go.Oper.upon _ _ _ _ _ _)); go_simp) | (go_ite <;> go_prune <;> try go_simp))
        go_upto_region 50 with (first | (go_at_call 7; (with_reducible refine (laws_mCommittee.calls kj183 t212 _ _ t213 t173 _ _ t174 true _ ?side1 ?side2 ?side3 ?side4 A232.out).mono ?_); (case side1 => refine (Kd.R_reads' (e := 3) (base := w.heap.size) (ok := fun k_ => ((True ∧ nb (.slice Ao140 t174.length co140) k_) ∧ nb (.slice Ao154 t184.length co154) k_)) (n := t213.length) (c := co242) ?_).2.2; exact (by exact (Kd.R_mono (Kd.R_far (p := ⟨gb217, 1, none⟩) (Kd.R_far (p := ⟨gb217, 0, none⟩) (Kd.R_types HO215.out BK217.out (by decide)) (fun _ hk => hk.2) (.int .i64 t212)) (fun _ hk => hk.2) (.slice Ao242 t213.length co242)) (fun _ h_ => h_.1)))); (case side2 => exact (Kd.R_reads' HO215.out).2.1); (case side3 => refine (Kd.R_reads' (e := 3) (base := w.heap.size) (ok := fun k_ => (nb (.slice Ao154 t184.length co154) k_ ∧ nb (.slice Ao242 t213.length co242) k_)) (n := t174.length) (c := co140) ?_).2.2; exact (by exact (Kd.R_mono (Kd.R_far (p := ⟨gb217, 1, none⟩) (Kd.R_far (p := ⟨gb217, 0, none⟩) (Kd.R_types HO_178001.out BK217.out (by decide)) (fun _ hk => hk.2) (.int .i64 t212)) (fun _ hk => hk.2) (.slice Ao242 t213.length co242)) (fun _ h_ => h_.1)))); (case side4 => exact (Kd.R_reads' HO_178001.out).2.1); rintro e w245 ⟨rfl, hb⟩; replace HO_178001 := Aside0.mk (Kd.R_below (by exact (Kd.R_mono (Kd.R_far (p := ⟨gb217, 1, none⟩) (Kd.R_far (p := ⟨gb217, 0, none⟩) (Kd.R_types HO_178001.out BK217.out (by decide)) (fun _ hk => hk.2) (.int .i64 t212)) (fun _ hk => hk.2) (.slice Ao242 t213.length co242)) (fun _ h_ => h_.1))) hb); replace HO_189001 := Aside0.mk (Kd.R_below (by exact (Kd.R_mono (Kd.R_far (p := ⟨gb217, 1, none⟩) (Kd.R_far (p := ⟨gb217, 0, none⟩) (Kd.R_types HO_189001.out BK217.out (by decide)) (fun _ hk => hk.2) (.int .i64 t212)) (fun _ hk => hk.2) (.slice Ao242 t213.length co242)) (fun _ h_ => h_.1))) hb); replace HO215 := Aside0.mk (Kd.R_below (by exact (Kd.R_mono (Kd.R_far (p := ⟨gb217, 1, none⟩) (Kd.R_far (p := ⟨gb217, 0, none⟩) (Kd.R_types HO215.out BK217.out (by decide)) (fun _ hk => hk.2) (.int .i64 t212)) (fun _ hk => hk.2) (.slice Ao242 t213.length co242)) (fun _ h_ => h_.1))) hb); replace BK177 := Aside0.mk (blk_below (g := gb177) (o := .cells #[.int .i64 t173, .slice Ao140 t174.length co140] 24 (0, 0)) (by refine blk_far ?_ NB177_217.out _; refine blk_far ?_ NB177_217.out _; exact BK177.out) hb); replace BK188 := Aside0.mk (blk_below (g := gb188) (o := .cells #[.int .i64 t183, .slice Ao154 t184.length co154] 24 (0, 0)) (by refine blk_far ?_ NB188_217.out _; refine blk_far ?_ NB188_217.out _; exact BK188.out) hb); replace BK217 := Aside0.mk (blk_below (g := gb217) (o := .cells #[.int .i64 t212, .slice Ao242 t213.length co242] 24 (0, 0)) (by refine blk_put (cs := #[.int .i64 t212, .slice none 0 0]) ?_ 1 _ rfl; refine blk_put (cs := #[.int .i64 0, .slice none 0 0]) ?_ 0 _ rfl; exact BK217.out) hb); replace HB := Aside0.mk (below_step (by repeat (first | exact HB.out | apply ba | refine bs ?_ GE217.out)) hb); (try clear hb); obtain ⟨hcz246_0, hcz246_1, hfz246_0, hfz246_1⟩ := zZ BK188) | go_values | go_skip | go_guarded | go_step | go_upon | go_back | ((with_reducible (show Go.Oper.upon _ _ _ _ _ _)); go_simp) | (go_ite <;> go_prune <;> try go_simp))
        go_upto_region 9999 with (first | ((with_reducible refine gate_callee (f := 13) rfl ?_); refine gL 349 Tryz.func13 #[.agg #[.int .i64 t183, .slice Ao154 t184.length co154]] ?_; (with_reducible refine (impl_CommitteeText.calls kj183 t183 _ _ t184 t219 true _ ?side1 ?side2 A235.out (HZ.out.on HB.out)).mono ?_); (case side1 => have hx_ := (Kd.R_reads' HO_189001.out).2.2; exact cC); (case side2 => exact (Kd.R_reads' HO_189001.out).2.1); rintro e w247 ⟨rfl, hb⟩; refine ⟨_, rfl, ?_⟩; replace HO_178001 := rB HO_178001 hb; replace HO_189001 := rB HO_189001 hb; replace HO215 := rB HO215 hb; replace BK177 := bB BK177 hb; replace BK188 := bB BK188 hb; replace BK217 := bB BK217 hb; replace HB := sB HB hb; (try clear hb)) | go_values | go_skip | go_guarded | go_step | go_upon | go_back | ((with_reducible (show Go.Oper.upon _ _ _ _ _ _)); go_simp) | (go_ite <;> go_prune <;> try go_simp))
        go_ret
        exact ⟨fR, wB⟩
end Go.Proofs.YtaambkdiokbdgacGreatDoor.Q
namespace Go.Proofs.YtaambkdiokbdgacGreatDoor.Q
open Go.RowKit Go.Proofs.YtaambkdiokbdgacGreatDoorW.PrintWords Go.Proofs.YtaambkdiokbdgacGreatDoorW.PrintLast Go.Proofs.YtaambkdiokbdgacGreatDoorW.PrintMore Go.Proofs.YtaambkdiokbdgacGreatDoorM
set_option linter.unusedVariables false
set_option linter.unusedSimpArgs false
theorem laws_big.cases (l0 l1 : List Int) : (∃ b, laws_big.f l0 l1 = some b ∧ b = true) ∨ (laws_big.f l0 l1 = some false ∧ l0.length ≤ 1048576 ∧ l1.length ≤ 1048576) := by
  unfold laws_big.f
  by_cases c : (l0.length : Int) > 1048576
  · rw [if_pos c]
    exact .inl ⟨_, rfl, rfl⟩
  · rw [if_neg c, w64 (by omega) (by omega)]
    by_cases c2 : (l1.length : Int) > 1048576 - (l0.length : Int)
    · rw [decide_eq_true c2]
      exact .inl ⟨_, rfl, rfl⟩
    · rw [decide_eq_false c2]
      exact .inr ⟨rfl, by omega, by omega⟩
theorem impl_votesOf.at_l (n N : Nat) (hN : N ≤ 1000000) (P : Int → Option Bool) (p : Nat → Bool) (hP : ∀ m, m < N → P (m : Int) = some (p m)) : ∀ (d m k : Nat) (acc : List Bool), m + d = N → d < k → acc.length = N → acc.take m = ((List.range N).map p).take m → impl_votesOf.l0 k P (N : Int) (m : Int) (n : Int) acc = some ((n : Int), (List.range N).map p) := by
  intro d
  induction d with
  | zero =>
    intro m k acc h hk hlen ht
    obtain ⟨k, rfl⟩ : ∃ j, k = j + 1 := ⟨k - 1, by omega⟩
    simp only [impl_votesOf.l0]
    rw [List.take_of_length_le (by omega), List.take_of_length_le (by simp; omega)] at ht
    rw [if_neg (by omega), ht]
  | succ d ih =>
    intro m k acc h hk hlen ht
    obtain ⟨k, rfl⟩ : ∃ j, k = j + 1 := ⟨k - 1, by omega⟩
    have hm : m < N := by omega
    simp only [impl_votesOf.l0]
    rw [if_pos (by omega), hP m hm, Option.bind_some, if_pos (by omega), if_pos (by omega), w64i (n := N) (by omega) (by omega) (by omega), Int.toNat_natCast]
    refine ih (m + 1) k (acc.set m (p m)) (by omega) (by omega) (by simpa using hlen) ?_
    rw [List.take_succ_eq_append_getElem (by simp; omega), List.take_succ_eq_append_getElem (by simp; omega), List.take_set_of_le (by omega), ht]
    simp
theorem impl_votesOf.ev (n : Nat) (hn : n ≤ 19) (g : Nat → Int → Option Bool) (p : Nat → Bool) (hg : ∀ m : Nat, m < 2 ^ n → Ev (fun k => g k (m : Int)) (p m)) : Ev (fun k => impl_votesOf.f k (n : Int) (g k)) ((n : Int), (List.range (2 ^ n)).map p) := by
  have hp : 2 ^ n ≤ 2 ^ 19 := Nat.pow_le_pow_right (by omega) hn
  have h0 : 0 < 2 ^ n := Nat.two_pow_pos n
  generalize hN : 2 ^ n = N at *
  obtain ⟨K, hK⟩ := ev_all N (fun k m => g k (m : Int)) p hg
  refine ⟨max K (N + 1), fun k hk => ?_⟩
  simp only [impl_votesOf.f]
  rw [if_pos (by omega), shl_one n (by omega), hN, if_pos (by omega), Int.toNat_natCast, if_pos (by omega), Option.bind_some, List.length_replicate]
  exact impl_votesOf.at_l n N (by omega) (g k) p (fun m hm => hK k (by omega) m hm) N 0 k _ (by omega) (by omega) (by simp) (by simp)
theorem impl_has.v (m i : Nat) (hm : m < 2 ^ 62) (hi : i ≤ 62) : impl_has.f (m : Int) (i : Int) = some (decide (m / 2 ^ i % 2 = 1)) := by
  unfold impl_has.f
  have hlt : m / 2 ^ i < 2 ^ 62 := Nat.lt_of_le_of_lt (Nat.div_le_self _ _) hm
  rw [if_pos (by omega), shr_nat m i (by omega), Go.Proofs.YtaambkdiokbdgacGreatDoorM.and_one _ hlt]
  congr 1
  by_cases h : m / 2 ^ i % 2 = 1
  · simp [h]
  · have : m / 2 ^ i % 2 = 0 := by omega
    simp [this]
theorem impl_Committee_weight.ev_l (q : Int) (ws : List Int) (m : Nat) (hm : m < 2 ^ 62) (hl : ws.length ≤ 60) (hw : ∀ x ∈ ws, 0 ≤ x ∧ x ≤ 1000000000) : ∀ (d i : Nat) (s : Int), i + d = ws.length → 0 ≤ s → s + wsum (ws.drop i) (m / 2 ^ i) ≤ 1000000000000 → Ev (fun k => impl_Committee_weight.l0 k (m : Int) s ws (ws.length : Int) (i : Int)) (s + wsum (ws.drop i) (m / 2 ^ i)) := by
  intro d
  induction d with
  | zero =>
    intro i s h _ _
    refine ev_step ?_
    simp only [impl_Committee_weight.l0]
    rw [ev_neg (by omega), ev_now, List.drop_of_length_le (by omega)]
    simp [wsum]
  | succ d ih =>
    intro i s h h0 h1
    refine ev_step ?_
    simp only [impl_Committee_weight.l0]
    have hi : i < ws.length := by omega
    have hx := hw ws[i] (List.getElem_mem hi)
    have hd : wsum (ws.drop i) (m / 2 ^ i) = (if m / 2 ^ i % 2 = 1 then ws[i] else 0) + wsum (ws.drop (i + 1)) (m / 2 ^ (i + 1)) := by
      rw [wsum_drop ws i _ hi, Nat.div_div_eq_div_mul, ← Nat.pow_succ]
    have hb := wsum_bounds (ws.drop (i + 1)) (fun x hx => (hw x (List.mem_of_mem_drop hx)).1) (m / 2 ^ (i + 1))
    rw [ev_pos (by omega), ev_pos (by omega), ev_pos (by omega), ev_bind (ev_of (impl_has.v m i hm (by omega))), w64i (n := ws.length) (by omega) (by omega) (by omega), rd_lt ws i hi, hd]
    rw [hd] at h1
    by_cases hbit : m / 2 ^ i % 2 = 1
    · rw [if_pos hbit] at h1 ⊢
      rw [ev_pos (by simpa using hbit), w64 (by omega) (by omega), ← Int.add_assoc]
      exact ih (i + 1) (s + ws[i]) (by omega) (by omega) (by omega)
    · rw [if_neg hbit] at h1 ⊢
      rw [ev_neg (by simpa using hbit), Int.zero_add]
      exact ih (i + 1) s (by omega) h0 (by omega)
theorem impl_Committee_weight.ev (q : Int) (ws : List Int) (m : Nat) (hm : m < 2 ^ 62) (hl : ws.length ≤ 60) (hw : ∀ x ∈ ws, 0 ≤ x ∧ x ≤ 1000000000) : Ev (fun k => impl_Committee_weight.f k q ws (m : Int)) (wsum ws m) := by
  have hb := wsum_bounds ws (fun x hx => (hw x hx).1) m
  have hs := sum_bounds ws 1000000000 hw
  have := impl_Committee_weight.ev_l q ws m hm hl hw ws.length 0 0 (by omega) (by omega) (by simp; omega)
  simpa [impl_Committee_weight.f] using this
theorem impl_Committee_votes.ev (q : Int) (ws : List Int) (hl : ws.length ≤ 9) (hw : ∀ x ∈ ws, 0 ≤ x ∧ x ≤ 1000000000) : Ev (fun k => impl_Committee_votes.f k q ws) ((ws.length : Int), winsL q ws) := by
  have hp : 2 ^ ws.length ≤ 2 ^ 9 := Nat.pow_le_pow_right (by omega) hl
  refine impl_votesOf.ev ws.length (by omega) (fun k => impl_Committee_votes_1.f k q ws) (fun m => decide (q ≤ wsum ws m)) (fun m hm => ?_)
  simp only [impl_Committee_votes_1.f]
  rw [ev_bind (impl_Committee_weight.ev q ws m (by omega) (by omega) hw), ev_now]
theorem impl_sumOf.ev_l (l : List Int) (hl : l.length ≤ 9223372036854775807) : ∀ (d i : Nat) (s : Int), i + d = l.length → Ev (fun k => impl_sumOf.l0 k s l (l.length : Int) (i : Int)) (wfold (l.drop i) s) := by
  intro d
  induction d with
  | zero =>
    intro i s h
    refine ev_step ?_
    simp only [impl_sumOf.l0]
    rw [ev_neg (by omega), ev_now, List.drop_of_length_le (by omega)]
    rfl
  | succ d ih =>
    intro i s h
    refine ev_step ?_
    simp only [impl_sumOf.l0]
    have hi : i < l.length := by omega
    rw [ev_pos (by omega), ev_pos (by omega), ev_pos (by omega), w64i (n := l.length) (by omega) (by omega) hl, rd_lt l i hi, wfold_take l i hi]
    exact ih (i + 1) _ (by omega)
theorem impl_sumOf.ev (l : List Int) (hl : l.length ≤ 9223372036854775807) : Ev (fun k => impl_sumOf.f k l) (wfold l 0) := impl_sumOf.ev_l l hl l.length 0 0 (by omega)
theorem impl_within.v (a b c : Int) : impl_within.f a b c = some (decide (b ≤ a) && decide (a ≤ c)) := by
  unfold impl_within.f
  by_cases h : b ≤ a
  · rw [if_pos h]; simp [h]
  · rw [if_neg h]; simp [h]
theorem impl_IsCommittee.ev (q : Int) (l : List Int) (hl : l.length ≤ 9223372036854775807) : Ev (fun k => impl_IsCommittee.f k q l) (goodB q l) := by
  simp only [impl_IsCommittee.f]
  unfold goodB
  by_cases h1 : 1 ≤ l.length
  · rw [ev_pos (by omega)]
    by_cases h2 : l.length ≤ 9
    · rw [ev_pos (by omega), ev_bind (ev_of (show impl_areIn.f l 0 1000 = some _ from rfl))]
      cases hb : (l.all fun x => decide (0 ≤ x) && decide (x ≤ 1000)) with
      | true =>
        rw [ev_pos rfl, ev_bind (impl_sumOf.ev l hl), ev_bind (ev_of (impl_within.v _ _ _)), ev_now, wfold_w l h2 hb]
        simp [h1, h2]
      | false =>
        rw [ev_neg (by simp), ev_now]
        simp
    · rw [ev_neg (by omega), ev_now]
      simp [h2]
  · rw [ev_neg (by omega), ev_now]
    simp [h1]
def cntW (W : List Bool) : Int := (W.count true : Nat)
theorem count_drop (W : List Bool) (i : Nat) (h : i < W.length) : (W.drop i).count true = (W.drop (i + 1)).count true + if W.getD i false = true then 1 else 0 := by
  rw [List.drop_eq_getElem_cons h, List.count_cons, List.getD_eq_getElem?_getD, List.getElem?_eq_getElem h, Option.getD_some]
  cases W[i] <;> rfl
theorem impl_votes_countWins.ev_l (W : List Bool) (hW : W.length ≤ 1000000) : ∀ (d i : Nat) (s : Int), i + d = W.length → 0 ≤ s → s + d ≤ 2000000 → Ev (fun k => impl_votes_countWins.l0 k s W (W.length : Int) (i : Int)) (s + ((W.drop i).count true : Nat)) := by
  intro d
  induction d with
  | zero =>
    intro i s h h0 h1
    refine ev_step ?_
    simp only [impl_votes_countWins.l0]
    rw [ev_neg (by omega), ev_now, List.drop_of_length_le (by omega)]
    simp
  | succ d ih =>
    intro i s h h0 h1
    refine ev_step ?_
    simp only [impl_votes_countWins.l0]
    have hi : i < W.length := by omega
    rw [ev_pos (by omega), ev_pos (by omega), ev_pos (by omega), rdOf_nat, w64i (i := (i : Int)) (n := W.length) (by omega) (by omega) (by omega), count_drop W i hi]
    cases hb : W.getD i false with
    | false =>
      rw [ev_neg (by decide), if_neg (by decide)]
      exact ih (i + 1) s (by omega) h0 (by omega)
    | true =>
      have := ih (i + 1) (s + 1) (by omega) (by omega) (by omega)
      rw [ev_pos rfl, if_pos rfl, w64 (by omega) (by omega)]
      rw [show s + (((W.drop (i + 1)).count true + 1 : Nat) : Int) = s + 1 + ((W.drop (i + 1)).count true : Nat) by omega]
      exact this
theorem impl_votes_countWins.ev (n : Int) (W : List Bool) (hW : W.length ≤ 1000000) : Ev (fun k => impl_votes_countWins.f k n W) (cntW W) := by
  have := impl_votes_countWins.ev_l W hW W.length 0 0 (by omega) (by omega) (by omega)
  rw [List.drop_zero, Int.zero_add] at this
  exact this
def cwV (q : Int) (ws : List Int) : Int × Bool := if goodB q ws = true then (cntW (winsL q ws), true) else (0, false)
theorem impl_CountWinning.ev (q : Int) (ws : List Int) (hl : ws.length ≤ 9223372036854775807) : Ev (fun k => impl_CountWinning.f k q ws) (cwV q ws) := by
  simp only [impl_CountWinning.f]
  rw [ev_bind (impl_IsCommittee.ev q ws hl)]
  unfold cwV
  cases hg : goodB q ws with
  | false => rw [ev_neg (by decide), ev_now, if_neg (by decide)]
  | true =>
    have hc := (good_iff q ws).1 hg
    have hp := hc.pow
    have hwl := winsL_length q ws
    rw [ev_pos rfl, if_pos rfl, ev_bind (impl_Committee_votes.ev q ws hc.l9 hc.wb), ev_bind (impl_votes_countWins.ev _ (winsL q ws) (by omega)), ev_now]
theorem cnt_range (W : List Bool) : ∀ N, N ≤ W.length → ((W.take N).count true) = ((List.range N).filter fun m => W.getD m false).length := by
  intro N
  induction N with
  | zero => intro _; simp
  | succ N ih =>
    intro h
    have hN : N < W.length := by omega
    rw [List.range_succ, List.filter_append, List.length_append, ← ih (by omega), List.take_succ_eq_append_getElem hN, List.count_append, List.filter_cons, List.getD_eq_getElem?_getD, List.getElem?_eq_getElem hN, Option.getD_some]
    cases W[N] <;> rfl
theorem cntW_range (W : List Bool) : cntW W = (((List.range W.length).filter fun m => W.getD m false).length : Nat) := by
  unfold cntW
  rw [← cnt_range W W.length (Nat.le_refl _), List.take_length]
def ifGood (q : Int) (l : List Int) : Int × List Int × Bool := if goodB q l = true then (q, l, true) else (0, [], false)
theorem impl_ifCommittee.ev (q : Int) (l : List Int) (hl : l.length ≤ 9223372036854775807) : Ev (fun k => impl_ifCommittee.f k q l) (ifGood q l) := by
  simp only [impl_ifCommittee.f]
  rw [ev_bind (impl_IsCommittee.ev q l hl)]
  unfold ifGood
  cases goodB q l with
  | true => rw [ev_pos rfl, ev_now, if_pos rfl]
  | false => rw [ev_neg (by simp), ev_now, if_neg (by simp)]
theorem impl_Clone.v (l : List Int) (h : l.length < 17592186044416) : slices_Clone_int_int.f l = some l := by
  simp [slices_Clone_int_int.f, h]
theorem spec_Own.v (l : List Int) (h : l.length < 17592186044416) : spec_l1Own.f l = some l := by
  simp [spec_l1Own.f, h]
theorem spec_voSum.ev_l (l : List Int) (hl : l.length ≤ 9223372036854775807) : ∀ (d i : Nat) (s : Int), i + d = l.length → Ev (fun k => spec_voSum.l0 k s l (l.length : Int) (i : Int)) (wfold (l.drop i) s) := by
  intro d
  induction d with
  | zero =>
    intro i s h
    refine ev_step ?_
    simp only [spec_voSum.l0]
    rw [ev_neg (by omega), ev_now, List.drop_of_length_le (by omega)]
    rfl
  | succ d ih =>
    intro i s h
    refine ev_step ?_
    simp only [spec_voSum.l0]
    have hi : i < l.length := by omega
    rw [ev_pos (by omega), ev_pos (by omega), ev_pos (by omega), w64i (n := l.length) (by omega) (by omega) hl, rd_lt l i hi, wfold_take l i hi]
    exact ih (i + 1) _ (by omega)
theorem spec_voSum.ev (l : List Int) (hl : l.length ≤ 9223372036854775807) : Ev (fun k => spec_voSum.f k l) (wfold l 0) := spec_voSum.ev_l l hl l.length 0 0 (by omega)
def ByteL (l : List Int) : Prop := l.length ≤ 1048576 ∧ ∀ x ∈ l, 0 ≤ x ∧ x ≤ 255
theorem ByteL.of {l : List Int} (h : OkBL l) (hl : l.length ≤ 1048576) : ByteL l := by
  refine ⟨hl, fun x hx => ?_⟩
  have h := h.2 x hx
  simp [OkB, Lit.wf, IntKind.min, IntKind.max, IntKind.bits, IntKind.signed] at h
  omega
theorem OkI.of {n : Int} (h0 : -9223372036854775808 ≤ n) (h1 : n ≤ 9223372036854775807) : OkI n := by
  simp [OkI, Lit.wf, IntKind.min, IntKind.max, IntKind.bits, IntKind.signed]
  omega
theorem wrap64_ok (x : Int) : OkI (wrap64 x) := by refine OkI.of ?_ ?_ <;> unfold wrap64 <;> omega
theorem and255 (x : Int) : 0 ≤ Go.bits .and .u64 (IntKind.u64.wrap x / 1099511627776) 255 ∧ Go.bits .and .u64 (IntKind.u64.wrap x / 1099511627776) 255 ≤ 255 := by
  have hx : 0 ≤ IntKind.u64.wrap x ∧ IntKind.u64.wrap x < 18446744073709551616 := by rw [IntKind.wrap_u64]; omega
  obtain ⟨n, hn⟩ : ∃ n : Nat, IntKind.u64.wrap x / 1099511627776 = (n : Int) := ⟨(IntKind.u64.wrap x / 1099511627776).toNat, by omega⟩
  have hb : n < 2 ^ 62 := by omega
  rw [hn, show (255 : Int) = ((255 : Nat) : Int) by rfl, (Go.bits_nat .u64 62 (by decide) (fun m h0 h1 => by rw [IntKind.wrap_u64]; omega) n 255 hb (by decide)).1]
  have := Nat.and_le_right (n := n) (m := 255)
  omega
theorem spec_l1Cur_next.ex {l : List Int} (hl : ByteL l) (p s : Int) (h0 : 0 ≤ p) (h1 : p ≤ 1000000) : ∃ b s', spec_l1Cur_next.f l p s = some (b, p + 1, s') ∧ 0 ≤ b ∧ b ≤ 255 := by
  have hll := hl.1
  unfold spec_l1Cur_next.f
  rw [w64 (x := p + 1) (by omega) (by omega)]
  by_cases c : p < (l.length : Int)
  · obtain ⟨i, rfl⟩ : ∃ i : Nat, p = (i : Int) := ⟨p.toNat, by omega⟩
    have hi : i < l.length := by omega
    have hb := hl.2 l[i] (List.getElem_mem hi)
    rw [if_pos c, if_pos h0, if_pos (by omega), rd_lt l i hi, w64 (by omega) (by omega)]
    exact ⟨_, _, rfl, hb⟩
  · rw [if_neg c, if_neg (by omega)]
    have := and255 ((IntKind.u64.wrap (IntKind.u64.wrap (s * 6364136223846793005))) + 1442695040888963407)
    rw [w64 (x := Go.bits .and .u64 _ 255) (by omega) (by omega)]
    exact ⟨_, _, rfl, this⟩
theorem spec_l1Cur_pick.ex {l : List Int} (hl : ByteL l) (p s a : Int) (h0 : 0 ≤ p) (h1 : p ≤ 900000) : ∃ x p' s', spec_l1Cur_pick.f l p s a = some (x, p', s') ∧ 0 ≤ x ∧ x < max a 1 ∧ True ∧ p ≤ p' ∧ p' ≤ p + 2 := by
  unfold spec_l1Cur_pick.f
  by_cases c : a ≤ 1
  · rw [if_pos c]
    exact ⟨_, _, _, rfl, by omega, by omega, trivial, by omega, by omega⟩
  · obtain ⟨b, s1, e, hb0, hb1⟩ := spec_l1Cur_next.ex hl p s h0 (by omega)
    rw [if_neg c, e, Option.bind_some]
    dsimp only
    by_cases c2 : a > 200
    · obtain ⟨b2, s2, e2, hc0, hc1⟩ := spec_l1Cur_next.ex hl (p + 1) s1 (by omega) (by omega)
      rw [if_pos c2, e2, Option.bind_some, if_neg (by omega)]
      dsimp only
      rw [w64 (x := b * 256) (by omega) (by omega), w64 (by omega) (by omega)]
      have h2 := Int.tmod_lt_of_pos (b * 256 + b2) (show 0 < a by omega)
      have h3 := Int.tmod_nonneg a (show 0 ≤ b * 256 + b2 by omega)
      exact ⟨_, _, _, rfl, h3, by omega, trivial, by omega, by omega⟩
    · rw [if_neg c2, if_neg (by omega)]
      have h2 := Int.tmod_lt_of_pos b (show 0 < a by omega)
      have h3 := Int.tmod_nonneg a hb0
      exact ⟨_, _, _, rfl, h3, by omega, trivial, by omega, by omega⟩
theorem spec_l1Cur_one.ex {l : List Int} (hl : ByteL l) (p s a : Int) (h0 : 0 ≤ p) (h1 : p ≤ 900000) : ∃ (b : Bool) (p' s' : Int), spec_l1Cur_one.f l p s a = some (b, p', s') ∧ p ≤ p' ∧ p' ≤ p + 2 := by
  obtain ⟨x, p1, s1, e, _, _, _, h4, h5⟩ := spec_l1Cur_pick.ex hl p s a h0 h1
  unfold spec_l1Cur_one.f
  rw [e, Option.bind_some]
  exact ⟨_, _, _, rfl, h4, h5⟩
theorem spec_l1Cur_among.ex {l : List Int} (hl : ByteL l) (p s : Int) (L : List Int) (hL : 1 ≤ L.length) (h0 : 0 ≤ p) (h1 : p ≤ 900000) : ∃ (x p' s' : Int), spec_l1Cur_among.f l p s L = some (x, p', s') ∧ x ∈ L ∧ p ≤ p' ∧ p' ≤ p + 2 := by
  obtain ⟨x, p1, s1, e, h2, h3, _, h4, h5⟩ := spec_l1Cur_pick.ex hl p s (L.length : Int) h0 h1
  obtain ⟨i, rfl⟩ : ∃ i : Nat, x = (i : Int) := ⟨x.toNat, by omega⟩
  have hi : i < L.length := by omega
  unfold spec_l1Cur_among.f
  rw [e, Option.bind_some]
  dsimp only
  rw [if_pos h2, if_pos (by omega), rd_lt L i hi]
  exact ⟨_, _, _, rfl, List.getElem_mem hi, h4, h5⟩
theorem wfold_ok (l : List Int) : ∀ s, OkI s → OkI (wfold l s) := by
  induction l with
  | nil => exact fun s h => h
  | cons x l ih => exact fun s _ => ih _ (wrap64_ok _)
/-- A committee's numbers, as draws make them: a whole number and a few of them. -/
structure DrawnC (q : Int) (ws : List Int) : Prop where
  l10 : ws.length ≤ 10
  q : OkI q
  w : ∀ x ∈ ws, OkI x
theorem ok_set {ws : List Int} (h : ∀ x ∈ ws, OkI x) (i : Nat) {v : Int} (hv : OkI v) : ∀ x ∈ ws.set i v, OkI x := fun x hx => by
  rcases List.mem_or_eq_of_mem_set hx with h1 | rfl
  · exact h x h1
  · exact hv
theorem ok_snoc {ws : List Int} (h : ∀ x ∈ ws, OkI x) {v : Int} (hv : OkI v) : ∀ x ∈ ws ++ [v], OkI x := fun x hx => by
  rcases List.mem_append.1 hx with h1 | h1
  · exact h x h1
  · rw [List.mem_singleton.1 h1]; exact hv
theorem spec_l1Cur_sureCommittee.ex_j1 {l : List Int} (hl : ByteL l) (p s q : Int) (ws : List Int) (hw : ∀ x ∈ ws, OkI x) (hn : 1 ≤ ws.length ∧ ws.length ≤ 9) (h0 : 0 ≤ p) (h1 : p ≤ 890000) : ∃ (q' : Int) (ws' : List Int) (p' s' : Int), Ev (fun k => spec_l1Cur_sureCommittee.j1 k l p s q ws) (q', ws', p', s') ∧ OkI q' ∧ (∀ x ∈ ws', OkI x) ∧ (1 ≤ ws'.length ∧ ws'.length ≤ 9) ∧ p ≤ p' ∧ p' ≤ p + 4 := by
  obtain ⟨b, p1, s1, e1, h2, h3⟩ := spec_l1Cur_one.ex hl p s 2 h0 (by omega)
  obtain ⟨x, p2, s2, e2, h4, _, h5, h6, h7⟩ := spec_l1Cur_pick.ex hl p1 s1 (wfold ws 0) (by omega) (by omega)
  have hs := spec_voSum.ev ws (by omega)
  cases b with
  | true =>
    refine ⟨wrap64 (1 + x), ws, p2, s2, ev_step ?_, wrap64_ok _, hw, hn, by omega, by omega⟩
    simp only [spec_l1Cur_sureCommittee.j1]
    rw [ev_bind hs, ev_bind (ev_of e1), ev_pos rfl, ev_bind (ev_of e2), ev_now]
  | false =>
    refine ⟨wrap64 (wrap64 (Int.tdiv (wfold ws 0) 2) + 1), ws, p1, s1, ev_step ?_, wrap64_ok _, hw, hn, by omega, by omega⟩
    simp only [spec_l1Cur_sureCommittee.j1]
    rw [ev_bind hs, ev_bind (ev_of e1), ev_neg (by simp), ev_now]
theorem spec_l1Cur_sureCommittee.ex_l0 {l : List Int} (hl : ByteL l) (q : Int) : ∀ (d : Nat) (p s : Int) (ws : List Int), (∀ x ∈ ws, OkI x) → ws.length + d ≤ 9 → 1 ≤ ws.length + d → 0 ≤ p → p + 2 * d ≤ 880000 → ∃ (q' : Int) (ws' : List Int) (p' s' : Int), Ev (fun k => spec_l1Cur_sureCommittee.l0 k (d : Int) l p s q ws) (q', ws', p', s') ∧ OkI q' ∧ (∀ x ∈ ws', OkI x) ∧ (1 ≤ ws'.length ∧ ws'.length ≤ 9) ∧ p ≤ p' ∧ p' ≤ p + 2 * d + 4 := by
  intro d
  induction d with
  | zero =>
    intro p s ws hw h9 hn h0 h1
    have hs := spec_voSum.ev ws (by omega)
    by_cases c : wfold ws 0 = 0
    · obtain ⟨q', ws', p', s', hj, r⟩ := spec_l1Cur_sureCommittee.ex_j1 hl p s q (ws.set 0 1) (ok_set hw 0 (OkI.of (by decide) (by decide))) (by rw [List.length_set]; omega) h0 (by omega)
      refine ⟨q', ws', p', s', ev_step ?_, r.1, r.2.1, r.2.2.1, r.2.2.2.1, by omega⟩
      simp only [spec_l1Cur_sureCommittee.l0]
      rw [ev_neg (by omega), ev_bind hs, ev_pos c, ev_pos (by omega)]
      exact hj
    · obtain ⟨q', ws', p', s', hj, r⟩ := spec_l1Cur_sureCommittee.ex_j1 hl p s q ws hw (by omega) h0 (by omega)
      refine ⟨q', ws', p', s', ev_step ?_, r.1, r.2.1, r.2.2.1, r.2.2.2.1, by omega⟩
      simp only [spec_l1Cur_sureCommittee.l0]
      rw [ev_neg (by omega), ev_bind hs, ev_neg c]
      exact hj
  | succ d ih =>
    intro p s ws hw h9 hn h0 h1
    obtain ⟨x, p1, s1, e, h2, h3, h5, h6, h7⟩ := spec_l1Cur_pick.ex hl p s 7 h0 (by omega)
    obtain ⟨q', ws', p', s', hj, r⟩ := ih p1 s1 (ws ++ [x]) (ok_snoc hw (OkI.of (by omega) (by omega))) (by rw [List.length_append, List.length_singleton]; omega) (by rw [List.length_append, List.length_singleton]; omega) (by omega) (by omega)
    refine ⟨q', ws', p', s', ev_step ?_, r.1, r.2.1, r.2.2.1, by omega, by omega⟩
    simp only [spec_l1Cur_sureCommittee.l0]
    rw [ev_pos (by omega), ev_bind (ev_of e), ev_pos (by omega), show wrap64 (((d + 1 : Nat) : Int) - 1) = (d : Int) by rw [w64 (by omega) (by omega)]; omega]
    exact hj
theorem spec_l1Cur_sureCommittee.ex {l : List Int} (hl : ByteL l) (p s a : Int) (ha : 1 ≤ a ∧ a ≤ 9) (h0 : 0 ≤ p) (h1 : p ≤ 800000) : ∃ (q' : Int) (ws' : List Int) (p' s' : Int), Ev (fun k => spec_l1Cur_sureCommittee.f k l p s a) (q', ws', p', s') ∧ OkI q' ∧ (∀ x ∈ ws', OkI x) ∧ (1 ≤ ws'.length ∧ ws'.length ≤ 9) ∧ p ≤ p' ∧ p' ≤ p + 30 := by
  obtain ⟨x, p1, s1, e, h2, h3, h5, h6, h7⟩ := spec_l1Cur_pick.ex hl p s a h0 (by omega)
  obtain ⟨q', ws', p', s', hj, r⟩ := spec_l1Cur_sureCommittee.ex_l0 hl 0 (x + 1).toNat p1 s1 [] (by simp) (by simp; omega) (by simp; omega) (by omega) (by omega)
  refine ⟨q', ws', p', s', ?_, r.1, r.2.1, r.2.2.1, by omega, by omega⟩
  simp only [spec_l1Cur_sureCommittee.f]
  rw [ev_bind (ev_of e), show wrap64 (1 + x) = ((x + 1).toNat : Int) by rw [w64 (by omega) (by omega)]; omega]
  exact hj
theorem spec_l1Cur_committee.ex_l0 {l : List Int} (hl : ByteL l) (q : Int) (hq : OkI q) : ∀ (d : Nat) (p s : Int) (ws : List Int), (∀ x ∈ ws, OkI x) → ws.length + d = 10 → 0 ≤ p → p + 2 * d ≤ 800000 → ∃ (ws' : List Int) (p' s' : Int), Ev (fun k => spec_l1Cur_committee.l0 k l p s q ws) (q, ws', p', s') ∧ (∀ x ∈ ws', OkI x) ∧ ws'.length ≤ 10 ∧ p ≤ p' ∧ p' ≤ p + 2 * d + 2 := by
  intro d
  induction d with
  | zero =>
    intro p s ws hw h9 h0 h1
    obtain ⟨x, p1, s1, e, h2, h3, h5, h6, h7⟩ := spec_l1Cur_pick.ex hl p s 2 h0 (by omega)
    refine ⟨ws, p1, s1, ev_step ?_, hw, by omega, by omega, by omega⟩
    simp only [spec_l1Cur_committee.l0]
    rw [ev_bind (ev_of e), w64 (by omega) (by omega), ev_neg (by dsimp only; omega), ev_now]
  | succ d ih =>
    intro p s ws hw h9 h0 h1
    obtain ⟨x, p1, s1, e, h2, h3, h5, h6, h7⟩ := spec_l1Cur_pick.ex hl p s 2 h0 (by omega)
    by_cases c : (ws.length : Int) < 9 + x
    · obtain ⟨ws', p', s', hj, r⟩ := ih p1 s1 (ws ++ [1]) (ok_snoc hw (OkI.of (by decide) (by decide))) (by rw [List.length_append, List.length_singleton]; omega) (by omega) (by omega)
      refine ⟨ws', p', s', ev_step ?_, r.1, r.2.1, by omega, by omega⟩
      simp only [spec_l1Cur_committee.l0]
      rw [ev_bind (ev_of e), w64 (by omega) (by omega), ev_pos (by exact c), ev_pos (by omega)]
      exact hj
    · refine ⟨ws, p1, s1, ev_step ?_, hw, by omega, by omega, by omega⟩
      simp only [spec_l1Cur_committee.l0]
      rw [ev_bind (ev_of e), w64 (by omega) (by omega), ev_neg (by exact c), ev_now]
theorem spec_l1Cur_committee.ex {l : List Int} (hl : ByteL l) (p s a : Int) (ha : 1 ≤ a ∧ a ≤ 9) (h0 : 0 ≤ p) (h1 : p ≤ 700000) : ∃ (q' : Int) (ws' : List Int) (p' s' : Int), Ev (fun k => spec_l1Cur_committee.f k l p s a) (q', ws', p', s') ∧ DrawnC q' ws' ∧ p ≤ p' ∧ p' ≤ p + 100 := by
  obtain ⟨q, ws, p1, s1, e, hq, hw, hn, h2, h3⟩ := spec_l1Cur_sureCommittee.ex hl p s a ha h0 (by omega)
  obtain ⟨x, p2, s2, e2, h4, h5, _, h6, h7⟩ := spec_l1Cur_pick.ex hl p1 s1 16 (by omega) (by omega)
  have hs := spec_voSum.ev ws (by omega)
  have hso := wfold_ok ws 0 (OkI.of (by decide) (by decide))
  by_cases c0 : x = 0
  · obtain ⟨y, p3, s3, e3, hy, h8, h9⟩ := spec_l1Cur_among.ex hl p2 s2 ([(-1), 0, 1, wfold ws 0, wrap64 (wfold ws 0 + 1), 4611686018427387904] : List Int) (by simp) (by omega) (by omega)
    have hyo : OkI y := by
      simp only [List.mem_cons, List.not_mem_nil, or_false] at hy
      rcases hy with rfl | rfl | rfl | rfl | rfl | rfl
      · exact OkI.of (by decide) (by decide)
      · exact OkI.of (by decide) (by decide)
      · exact OkI.of (by decide) (by decide)
      · exact hso
      · exact wrap64_ok _
      · exact OkI.of (by decide) (by decide)
    refine ⟨y, ws, p3, s3, ?_, ⟨by omega, hyo, hw⟩, by omega, by omega⟩
    simp only [spec_l1Cur_committee.f]
    rw [ev_bind e, ev_bind (ev_of e2), ev_pos c0, ev_bind hs, ev_bind hs, ev_bind (ev_of e3), ev_now]
  by_cases c1 : x = 1
  · obtain ⟨y, p3, s3, e3, hy, h8, h9⟩ := spec_l1Cur_among.ex hl p2 s2 ([(-1), 0, 1000, 1001, 4611686018427387904] : List Int) (by simp) (by omega) (by omega)
    have hyo : OkI y := by
      simp only [List.mem_cons, List.not_mem_nil, or_false] at hy
      rcases hy with rfl | rfl | rfl | rfl | rfl <;> exact OkI.of (by decide) (by decide)
    refine ⟨q, ws.set 0 y, p3, s3, ?_, ⟨by rw [List.length_set]; omega, hq, ok_set hw 0 hyo⟩, by omega, by omega⟩
    simp only [spec_l1Cur_committee.f]
    rw [ev_bind e, ev_bind (ev_of e2), ev_neg c0, ev_pos c1, ev_bind (ev_of e3), ev_pos (by dsimp only; omega), ev_now]
    rfl
  by_cases c2 : x = 2
  · obtain ⟨ws', p', s', hj, r⟩ := spec_l1Cur_committee.ex_l0 hl q hq (10 - ws.length) p2 s2 ws hw (by omega) (by omega) (by omega)
    refine ⟨q, ws', p', s', ?_, ⟨r.2.1, hq, r.1⟩, by omega, by omega⟩
    simp only [spec_l1Cur_committee.f]
    rw [ev_bind e, ev_bind (ev_of e2), ev_neg c0, ev_neg c1, ev_pos c2]
    exact hj
  by_cases c3 : x = 3
  · refine ⟨1, [], p2, s2, ?_, ⟨by simp, OkI.of (by decide) (by decide), by simp⟩, by omega, by omega⟩
    simp only [spec_l1Cur_committee.f]
    rw [ev_bind e, ev_bind (ev_of e2), ev_neg c0, ev_neg c1, ev_neg c2, ev_pos c3, ev_now]
  · refine ⟨q, ws, p2, s2, ?_, ⟨by omega, hq, hw⟩, by omega, by omega⟩
    simp only [spec_l1Cur_committee.f]
    rw [ev_bind e, ev_bind (ev_of e2), ev_neg c0, ev_neg c1, ev_neg c2, ev_neg c3, ev_now]
theorem spec_DrawIsCommittee.ex {l : List Int} (hl : ByteL l) : ∃ (q : Int) (ws : List Int), Ev (fun k => spec_DrawIsCommittee.f k l) (q, ws) ∧ DrawnC q ws := by
  obtain ⟨q, ws, p, s, e, h, _⟩ := spec_l1Cur_committee.ex hl 0 0 6 (by decide) (by decide) (by decide)
  refine ⟨q, ws, ?_, h⟩
  simp only [spec_DrawIsCommittee.f]
  rw [ev_bind e, ev_now]
def bitB (m i : Nat) : Bool := decide (m / 2 ^ i % 2 = 1)
def setN (m : Nat) : List Int := ((List.range 62).filter (bitB m)).map fun (i : Nat) => (i : Int)
def setTo (m i : Nat) : List Int := ((List.range i).filter (bitB m)).map fun (i : Nat) => (i : Int)
theorem bitB_high {m i j : Nat} (h : m / 2 ^ i = 0) (hij : i ≤ j) : bitB m j = false := by
  unfold bitB
  have : m < 2 ^ i := by
    rcases Nat.lt_or_ge m (2 ^ i) with h1 | h1
    · exact h1
    · have := Nat.div_pos h1 (Nat.two_pow_pos i)
      omega
  have h2 : 2 ^ i ≤ 2 ^ j := Nat.pow_le_pow_right (by omega) hij
  rw [Nat.div_eq_of_lt (by omega)]
  rfl
theorem setTo_done {m i : Nat} (h : m / 2 ^ i = 0) (hi : i ≤ 62) : setTo m i = setN m := by
  unfold setTo setN
  rw [show List.range 62 = List.range i ++ (List.range (62 - i)).map (i + ·) by rw [← List.range_add]; congr 1; omega, List.filter_append]
  have : ((List.range (62 - i)).map (i + ·)).filter (bitB m) = [] := by
    rw [List.filter_eq_nil_iff]
    intro j hj
    obtain ⟨a, _, rfl⟩ := List.mem_map.1 hj
    rw [bitB_high h (by omega)]
    decide
  rw [this, List.append_nil]
theorem setTo_succ (m i : Nat) : setTo m (i + 1) = if bitB m i = true then setTo m i ++ [(i : Int)] else setTo m i := by
  unfold setTo
  rw [List.range_succ, List.filter_append, List.map_append]
  by_cases h : bitB m i = true
  · rw [if_pos h]
    simp [h]
  · rw [if_neg h]
    simp [h]
theorem setTo_len (m i : Nat) : (setTo m i).length ≤ i := by
  unfold setTo
  rw [List.length_map]
  have := List.length_filter_le (bitB m) (List.range i)
  rw [List.length_range] at this
  exact this
theorem setN_to {m n : Nat} (h : m < 2 ^ n) (hn : n ≤ 62) : setN m = setTo m n := (setTo_done (Nat.div_eq_of_lt h) hn).symm
theorem setTo_in {m n : Nat} : ∀ x ∈ setTo m n, 0 ≤ x ∧ x < (n : Int) ∧ bitB m x.toNat = true := by
  intro x hx
  obtain ⟨i, hi, rfl⟩ := List.mem_map.1 hx
  rw [List.mem_filter, List.mem_range] at hi
  exact ⟨by omega, by omega, by rw [Int.toNat_natCast]; exact hi.2⟩
def leastB (W : List Bool) (n m : Nat) : Bool := W.getD m false && (List.range n).all fun i => !(bitB m i) || !(W.getD (m - 2 ^ i) false)
def takeL (P : Nat → Bool) (i : Nat) : List (List Int) := ((List.range i).filter P).map setN
theorem takeL_succ (P : Nat → Bool) (i : Nat) : takeL P (i + 1) = if P i = true then takeL P i ++ [setN i] else takeL P i := by
  unfold takeL
  rw [List.range_succ, List.filter_append, List.map_append]
  by_cases h : P i = true
  · rw [if_pos h]
    simp [h]
  · rw [if_neg h]
    simp [h]
theorem takeL_len (P : Nat → Bool) (i : Nat) : (takeL P i).length ≤ i := by
  unfold takeL
  rw [List.length_map]
  have := List.length_filter_le P (List.range i)
  rw [List.length_range] at this
  exact this
theorem takeL_mem {P : Nat → Bool} {i : Nat} : ∀ x ∈ takeL P i, ∃ m, m < i ∧ P m = true ∧ x = setN m := by
  intro x hx
  obtain ⟨m, hm, rfl⟩ := List.mem_map.1 hx
  rw [List.mem_filter, List.mem_range] at hm
  exact ⟨m, hm.1, hm.2, rfl⟩
theorem nodup_le : ∀ (n : Nat) (l : List Nat), l.Nodup → (∀ x ∈ l, x < n) → l.length ≤ n
  | 0, l, _, h => by
    cases l with
    | nil => exact Nat.le_refl _
    | cons x l => exact absurd (h x List.mem_cons_self) (Nat.not_lt_zero _)
  | n + 1, l, hd, h => by
    have h1 := nodup_le n (l.erase n) (hd.erase n) (fun x hx => by
      have h2 := (hd.mem_erase_iff.1 hx)
      have := h x h2.2
      omega)
    rw [List.length_erase] at h1
    split at h1 <;> omega
def incB : List Int → Bool
  | a :: b :: l => decide (a < b) && incB (b :: l)
  | _ => true
def setB (n : Int) (l : List Int) : Bool := (l.all fun x => decide (0 ≤ x) && decide (x ≤ n - 1)) && incB l
def orBits (m : Nat) (l : List Int) : Nat := l.foldl (fun m x => m ||| 2 ^ x.toNat) m
def maskN (l : List Int) : Nat := orBits 0 l
theorem orBits_lt (n : Nat) : ∀ (l : List Int) (m : Nat), m < 2 ^ n → (∀ x ∈ l, 0 ≤ x ∧ x < (n : Int)) → orBits m l < 2 ^ n
  | [], m, h, _ => h
  | a :: l, m, h, hb => by
    have h1 := hb a List.mem_cons_self
    refine orBits_lt n l (m ||| 2 ^ a.toNat) (Nat.or_lt_two_pow h (Nat.pow_lt_pow_right (by omega) (by omega))) (fun x hx => hb x (List.mem_cons_of_mem _ hx))
theorem maskN_lt (n : Nat) (l : List Int) (hb : ∀ x ∈ l, 0 ≤ x ∧ x < (n : Int)) : maskN l < 2 ^ n := orBits_lt n l 0 (Nat.two_pow_pos n) hb
def mAt (l : List (List Int)) (i : Nat) : Nat := maskN (l.getD i [])
def gOrd (l : List (List Int)) (i : Nat) : Bool := decide (i = 0) || decide (cmpL (l.getD (i - 1) []) (l.getD i []) < 0)
def gInS (l : List (List Int)) (i j : Nat) : Bool := !(decide (mAt l i &&& mAt l j = mAt l i)) && !(decide (mAt l i &&& mAt l j = mAt l j))
def gS (l : List (List Int)) (i : Nat) : Bool := gOrd l i && (List.range' 0 i).all (gInS l i)
structure GoodG (n : Int) (l : List (List Int)) : Prop where
  n1 : 1 ≤ n
  n9 : n ≤ 9
  ne : l.length ≠ 0
  sets : ∀ x ∈ l, x.length ≠ 0 ∧ setB n x = true
  gs : ∀ i, i < l.length → gS l i = true
theorem bitB_test (m i : Nat) : bitB m i = m.testBit i := by rw [bitB, Nat.testBit_eq_decide_div_mod_eq]
theorem orBits_test : ∀ (x : List Int) (m i : Nat), (∀ y ∈ x, 0 ≤ y) → (orBits m x).testBit i = (m.testBit i || x.contains (i : Int))
  | [], m, i, _ => by simp [orBits]
  | y :: x, m, i, h => by
    have hy := h y List.mem_cons_self
    have ih := orBits_test x (m ||| 2 ^ y.toNat) i (fun z hz => h z (List.mem_cons_of_mem _ hz))
    show (orBits (m ||| 2 ^ y.toNat) x).testBit i = _
    rw [ih, Nat.testBit_or, Nat.testBit_two_pow, List.contains_cons, Bool.or_assoc]
    congr 2
    by_cases e : y.toNat = i
    · rw [decide_eq_true e, beq_iff_eq.2 (show (i : Int) = y by omega)]
    · rw [decide_eq_false e, beq_eq_false_iff_ne.2 (show (i : Int) ≠ y by omega)]
theorem maskN_test (x : List Int) (i : Nat) (h : ∀ y ∈ x, 0 ≤ y) : (maskN x).testBit i = x.contains (i : Int) := by
  rw [maskN, orBits_test x 0 i h]
  simp
theorem sub_pow_test (m i j : Nat) (h : m.testBit i = true) : (m - 2 ^ i).testBit j = (m.testBit j && !(decide (j = i))) := by
  have hb : m / 2 ^ i % 2 = 1 := by rw [Nat.testBit_eq_decide_div_mod_eq] at h; simpa using h
  have hge : 2 ^ i ≤ m := by
    rcases Nat.lt_or_ge m (2 ^ i) with h1 | h1
    · rw [Nat.div_eq_of_lt h1] at hb; omega
    · exact h1
  have h0 : (m - 2 ^ i) / 2 ^ i % 2 = 0 := by
    have e : m = (m - 2 ^ i) + 2 ^ i := by omega
    have e2 : m / 2 ^ i = (m - 2 ^ i) / 2 ^ i + 1 := by
      conv => lhs; rw [e]
      exact Nat.add_div_right _ (Nat.two_pow_pos i)
    omega
  have hor := or_pow i (m - 2 ^ i) h0
  rw [Nat.sub_add_cancel hge] at hor
  have hmj : m.testBit j = ((m - 2 ^ i).testBit j || (2 ^ i).testBit j) := by rw [← Nat.testBit_or, hor]
  by_cases e : j = i
  · subst e
    rw [decide_eq_true rfl, Bool.not_true, Bool.and_false, Nat.testBit_eq_decide_div_mod_eq, h0]
    rfl
  · rw [hmj, Nat.testBit_two_pow_of_ne (fun h => e h.symm), decide_eq_false e]
    simp
theorem setN_contains (m i : Nat) (hi : i < 62) : (setN m).contains (i : Int) = m.testBit i := by
  rw [← bitB_test, Bool.eq_iff_iff, List.contains_iff_mem, setN, List.mem_map]
  constructor
  · rintro ⟨j, hj, e⟩
    rw [List.mem_filter] at hj
    rw [← show j = i by omega]
    exact hj.2
  · intro h
    exact ⟨i, List.mem_filter.2 ⟨List.mem_range.2 hi, h⟩, rfl⟩
theorem andNot_pow (m i : Nat) (hm : m < 2 ^ 62) (hi : i ≤ 61) (h : bitB m i = true) : Go.bits .andNot .i64 (m : Int) ((2 ^ i : Nat) : Int) = ((m - 2 ^ i : Nat) : Int) := by
  have hp : 2 ^ i ≤ 2 ^ 61 := Nat.pow_le_pow_right (by omega) hi
  have hb : m / 2 ^ i % 2 = 1 := by simpa [bitB] using h
  have hmi : m - 2 ^ i < 2 ^ 62 := Nat.lt_of_le_of_lt (Nat.sub_le _ _) hm
  have key : m &&& (2 ^ 64 - 1 - 2 ^ i) = m - 2 ^ i := by
    have hge : 2 ^ i ≤ m := by
      rcases Nat.lt_or_ge m (2 ^ i) with h1 | h1
      · rw [Nat.div_eq_of_lt h1] at hb; omega
      · exact h1
    have h0 : (m - 2 ^ i) / 2 ^ i % 2 = 0 := by
      have e : m = (m - 2 ^ i) + 2 ^ i := by omega
      have e2 : m / 2 ^ i = (m - 2 ^ i) / 2 ^ i + 1 := by
        conv => lhs; rw [e]
        exact Nat.add_div_right _ (Nat.two_pow_pos i)
      omega
    have hor := or_pow i (m - 2 ^ i) h0
    rw [Nat.sub_add_cancel hge] at hor
    apply Nat.eq_of_testBit_eq
    intro j
    rw [Nat.testBit_and, show 2 ^ 64 - 1 - 2 ^ i = 2 ^ 64 - (2 ^ i + 1) by omega, Nat.testBit_two_pow_sub_succ (by omega : 2 ^ i < 2 ^ 64)]
    have hmj : m.testBit j = ((m - 2 ^ i).testBit j || (2 ^ i).testBit j) := by rw [← Nat.testBit_or, hor]
    by_cases e : j = i
    · subst e
      have : (m - 2 ^ j).testBit j = false := by
        rw [Nat.testBit_eq_decide_div_mod_eq, h0]
        rfl
      rw [this, Nat.testBit_two_pow_self]
      simp
    · have h2 : (2 ^ i).testBit j = false := Nat.testBit_two_pow_of_ne (fun h => e h.symm)
      rw [hmj, h2]
      by_cases hj : j < 64
      · simp [hj]
      · have : (m - 2 ^ i).testBit j = false := Nat.testBit_lt_two_pow (Nat.lt_of_lt_of_le hmi (Nat.pow_le_pow_right (by omega) (by omega)))
        rw [this]
        simp
  have hbv : ((BitVec.ofInt 64 (m : Int)) &&& ~~~(BitVec.ofInt 64 ((2 ^ i : Nat) : Int))).toNat = m - 2 ^ i := by
    rw [BitVec.toNat_and, BitVec.toNat_not, BitVec.ofInt_natCast, BitVec.ofInt_natCast, BitVec.toNat_ofNat, BitVec.toNat_ofNat, Nat.mod_eq_of_lt (by omega : m < 2 ^ 64), Nat.mod_eq_of_lt (by omega : 2 ^ i < 2 ^ 64)]
    exact key
  show IntKind.i64.wrap (((BitVec.ofInt 64 (m : Int)) &&& ~~~(BitVec.ofInt 64 ((2 ^ i : Nat) : Int))).toNat : Int) = _
  rw [hbv]
  exact (fun (x : Nat) (hx : x < 2 ^ 62) => i64_wrap (x := (x : Int)) (by omega) (by omega)) (m - 2 ^ i) hmi
theorem impl_setOf.ev_l (m : Nat) (hm : m < 2 ^ 62) : ∀ (d i : Nat), i + d = 62 → Ev (fun k => impl_setOf.l0 k (m : Int) (setTo m i) (i : Int)) (setN m) := by
  intro d
  induction d with
  | zero =>
    intro i h
    refine ev_step ?_
    simp only [impl_setOf.l0]
    have e : m / 2 ^ i = 0 := by rw [show i = 62 by omega]; exact Nat.div_eq_of_lt hm
    rw [ev_pos (by omega), shr_nat m i (by omega), e, ev_neg (by omega), ev_now, setTo_done e (by omega)]
  | succ d ih =>
    intro i h
    refine ev_step ?_
    simp only [impl_setOf.l0]
    have hlt : m / 2 ^ i < 2 ^ 62 := Nat.lt_of_le_of_lt (Nat.div_le_self _ _) hm
    have hl := setTo_len m i
    rw [ev_pos (by omega), shr_nat m i (by omega), w64 (by omega) (by omega)]
    by_cases e : m / 2 ^ i = 0
    · rw [ev_neg (by omega), ev_now, setTo_done e (by omega)]
    · rw [ev_pos (Int.natCast_pos.2 (Nat.pos_of_ne_zero e)), Go.Proofs.YtaambkdiokbdgacGreatDoorM.and_one _ hlt]
      have := ih (i + 1) (by omega)
      rw [setTo_succ] at this
      by_cases hb : m / 2 ^ i % 2 = 1
      · rw [if_pos (by simp [bitB, hb])] at this
        rw [ev_pos (by rw [hb]; rfl), ev_pos (by omega)]
        exact this
      · rw [if_neg (by simp [bitB]; omega)] at this
        rw [ev_neg (c := ((m / 2 ^ i % 2 : Nat) : Int) = 1) (fun h_ => hb (Int.ofNat_inj.1 h_))]
        exact this
theorem impl_setOf.ev (m : Nat) (hm : m < 2 ^ 62) : Ev (fun k => impl_setOf.f k (m : Int)) (setN m) := impl_setOf.ev_l m hm 62 0 (by omega)
theorem impl_votes_isLeast.ev_l (W : List Bool) (n m : Nat) (hW : W.length = 2 ^ n) (hn : n ≤ 18) (hm : m < 2 ^ n) : ∀ (d i : Nat), i + d = n → Ev (fun k => impl_votes_isLeast.l0 k (m : Int) (n : Int) (i : Int) (n : Int) W) ((List.range' i d).all fun i => !(bitB m i) || !(W.getD (m - 2 ^ i) false)) := by
  have hp : 2 ^ n ≤ 2 ^ 18 := Nat.pow_le_pow_right (by omega) hn
  intro d
  induction d with
  | zero =>
    intro i h
    refine ev_step ?_
    simp only [impl_votes_isLeast.l0]
    rw [ev_neg (by omega), ev_now]
    rfl
  | succ d ih =>
    intro i h
    refine ev_step ?_
    simp only [impl_votes_isLeast.l0]
    have hih := ih (i + 1) (by omega)
    rw [ev_pos (by omega), ev_bind (ev_of (show impl_has.f (m : Int) (i : Int) = some (bitB m i) from impl_has.v m i (by omega) (by omega))), w64 (by omega) (by omega), List.range'_succ, List.all_cons]
    by_cases hb : bitB m i = true
    · have hpi : 2 ^ i ≤ 2 ^ n := Nat.pow_le_pow_right (by omega) (by omega)
      have hsub : m - 2 ^ i < W.length := by rw [hW]; exact Nat.lt_of_le_of_lt (Nat.sub_le _ _) hm
      rw [ev_pos hb, ev_pos (by omega), shl_one i (by omega), andNot_pow m i (by omega) (by omega) hb, ev_pos (Int.natCast_nonneg _), ev_pos (Int.ofNat_lt.2 hsub), rdOf_nat, hb]
      cases hw : W.getD (m - 2 ^ i) false with
      | true =>
        rw [ev_pos rfl, ev_now]
        rfl
      | false =>
        rw [ev_neg (by decide)]
        exact hih
    · rw [ev_neg hb, Bool.eq_false_iff.2 hb]
      exact hih
theorem impl_votes_isLeast.ev (W : List Bool) (n m : Nat) (hW : W.length = 2 ^ n) (hn : n ≤ 18) (hm : m < 2 ^ n) : Ev (fun k => impl_votes_isLeast.f k (n : Int) W (m : Int)) (leastB W n m) := by
  simp only [impl_votes_isLeast.f]
  rw [ev_pos (by omega), ev_pos (by omega), rdOf_nat, leastB]
  cases hw : W.getD m false with
  | true =>
    rw [ev_pos rfl, Bool.true_and, List.range_eq_range']
    exact impl_votes_isLeast.ev_l W n m hW hn hm n 0 (by omega)
  | false =>
    rw [ev_neg (by decide), ev_now]
    rfl
theorem impl_votes_sets.at_l (W : List Bool) (hW : W.length ≤ 1000000) (P : Int → Option Bool) (p : Nat → Bool) (K : Nat) (hP : ∀ m, m < W.length → P (m : Int) = some (p m)) (hS : ∀ k, K ≤ k → ∀ m, m < W.length → impl_setOf.f k (m : Int) = some (setN m)) : ∀ (d i k : Nat), i + d = W.length → K + d < k → impl_votes_sets.l0 k P W (takeL p i) (i : Int) = some (takeL p W.length) := by
  intro d
  induction d with
  | zero =>
    intro i k h hk
    obtain ⟨k, rfl⟩ : ∃ j, k = j + 1 := ⟨k - 1, by omega⟩
    simp only [impl_votes_sets.l0]
    rw [if_neg (by omega), show i = W.length by omega]
  | succ d ih =>
    intro i k h hk
    obtain ⟨k, rfl⟩ : ∃ j, k = j + 1 := ⟨k - 1, by omega⟩
    have hi : i < W.length := by omega
    have hl := takeL_len p i
    have hih := ih (i + 1) k (by omega) (by omega)
    rw [takeL_succ] at hih
    simp only [impl_votes_sets.l0]
    rw [if_pos (by omega), hP i hi, Option.bind_some, w64 (by omega) (by omega), hS k (by omega) i hi, Option.bind_some]
    cases hp : p i with
    | true =>
      rw [hp, if_pos rfl] at hih
      rw [if_pos rfl, if_pos (by omega)]
      exact hih
    | false =>
      rw [hp, if_neg (by decide)] at hih
      rw [if_neg (by decide)]
      exact hih
theorem impl_votes_sets.ev (W : List Bool) (hW : W.length ≤ 1000000) (P : Nat → Int → Option Bool) (p : Nat → Bool) (hP : ∀ m, m < W.length → Ev (fun k => P k (m : Int)) (p m)) : Ev (fun k => impl_votes_sets.g k W (P k)) (Go.Proofs.YtaambkdiokbdgacGreatDoorS.sortL (takeL p W.length)) := by
  obtain ⟨K1, h1⟩ := ev_all W.length (fun k m => P k (m : Int)) p hP
  obtain ⟨K2, h2⟩ := ev_all W.length (fun k m => impl_setOf.f k (m : Int)) setN (fun m hm => impl_setOf.ev m (by omega))
  refine ⟨max K1 (K2 + W.length + 1), fun k hk => ?_⟩
  have hl := takeL_len p W.length
  simp only [impl_votes_sets.g]
  rw [show impl_votes_sets.l0 k (P k) W [] 0 = some (takeL p W.length) from impl_votes_sets.at_l W hW (P k) p K2 (fun m hm => h1 k (by omega) m hm) h2 W.length 0 k (by omega) (by omega), Option.bind_some, if_pos (by omega)]
theorem impl_votes_least.ev (W : List Bool) (n : Nat) (hW : W.length = 2 ^ n) (hn : n ≤ 18) : Ev (fun k => impl_votes_least.f k (n : Int) W) (Go.Proofs.YtaambkdiokbdgacGreatDoorS.sortL (takeL (leastB W n) W.length)) := by
  have hp : 2 ^ n ≤ 2 ^ 18 := Nat.pow_le_pow_right (by omega) hn
  exact impl_votes_sets.ev W (by omega) (fun k x => impl_votes_isLeast.f k (n : Int) W x) (leastB W n) (fun m hm => impl_votes_isLeast.ev W n m hW hn (by omega))
theorem sortL_in {P : Nat → Bool} {n N : Nat} (hN : N ≤ 2 ^ n) (hn : n ≤ 62) : ∀ x ∈ Go.Proofs.YtaambkdiokbdgacGreatDoorS.sortL (takeL P N), x.length ≤ n ∧ ∀ y ∈ x, 0 ≤ y ∧ y < (n : Int) := by
  intro x hx
  obtain ⟨a, ha, _, rfl⟩ := takeL_mem x ((Go.Proofs.YtaambkdiokbdgacGreatDoorS.sortL_perm _).mem_iff.1 hx)
  rw [setN_to (m := a) (n := n) (by omega) hn]
  exact ⟨setTo_len a n, fun y hy => by have := setTo_in y hy; omega⟩
theorem sortL_len (xs : List (List Int)) : (Go.Proofs.YtaambkdiokbdgacGreatDoorS.sortL xs).length = xs.length := (Go.Proofs.YtaambkdiokbdgacGreatDoorS.sortL_perm xs).length_eq
theorem wfold_counts {l : List Int} (hl : l.length ≤ 9) (hx : ∀ x ∈ l, 0 ≤ x ∧ x ≤ 5000) : wfold l 0 = l.sum := by
  rw [wfold_sum l 0 (fun x h => by have := hx x h; omega) (by omega) (by omega), Int.zero_add]
def dgt (n : Nat) : List UInt8 := if n < 10 then [UInt8.ofNat (48 + n)] else if n < 100 then [UInt8.ofNat (48 + n / 10), UInt8.ofNat (48 + n % 10)] else if n < 1000 then [UInt8.ofNat (48 + n / 100), UInt8.ofNat (48 + n / 10 % 10), UInt8.ofNat (48 + n % 10)] else [UInt8.ofNat (48 + n / 1000), UInt8.ofNat (48 + n / 100 % 10), UInt8.ofNat (48 + n / 10 % 10), UInt8.ofNat (48 + n % 10)]
theorem dgt_eq {n : Nat} (h : n < 10000) : Go.Lib.decDigits n = dgt n := by
  unfold dgt
  split
  · next h1 => exact Go.Lib.decDigits_one h1
  · next h1 =>
    split
    · next h2 => exact Go.Lib.decDigits_two h1 h2
    · next h2 =>
      split
      · next h3 =>
        rw [Go.Lib.decDigits, dif_neg h1, Go.Lib.decDigits_two (by omega) (by omega), Nat.div_div_eq_div_mul]
        rfl
      · next h3 =>
        rw [Go.Lib.decDigits, dif_neg h1, Go.Lib.decDigits, dif_neg (by omega), Go.Lib.decDigits_two (by omega) (by omega)]
        simp only [Nat.div_div_eq_div_mul, List.cons_append, List.nil_append]
def okB (n : Nat) : Bool := match Go.Lib.atoiAll (dgt n) with | .ok v => decide (v = (n : Int)) | _ => false
set_option maxRecDepth 100000 in
theorem atoi_dgt_all : ((List.range 9001).all okB) = true := by decide +kernel
def txb (l : List UInt8) : ByteArray := ⟨l.toArray⟩
theorem txb_data (l : List UInt8) : (txb l).data.toList = l := rfl
theorem txb_app (a b : List UInt8) : txb a ++ txb b = txb (a ++ b) := by
  apply ByteArray.ext
  rw [ByteArray.data_append]
  simp [txb]
theorem txb_size (l : List UInt8) : (txb l).size = l.length := by simp [txb, ByteArray.size]
theorem txb_of (a : ByteArray) : a = txb a.data.toList := by
  apply ByteArray.ext
  simp [txb]
theorem tjoin_succ (xs : List (List UInt8)) (sep : List UInt8) (i : Nat) (h : i < xs.length) : Go.Lib.join (xs.take (i + 1)) sep = if i = 0 then xs[i] else Go.Lib.join (xs.take i) sep ++ sep ++ xs[i] := by
  cases xs with
  | nil => simp at h
  | cons y r =>
    rw [List.take_succ_cons, Go.Lib.join_cons]
    cases i with
    | zero => simp [Go.Lib.joinTail]
    | succ i =>
      have hi : i < r.length := by simpa using h
      rw [if_neg (by omega), List.take_succ_cons, Go.Lib.join_cons, Go.Lib.joinTail_take_succ sep r i r[i] (List.getElem?_eq_getElem hi), List.getElem_cons_succ, List.append_assoc, List.append_assoc, List.append_assoc]
theorem tjoin_len (xs : List (List UInt8)) (sep : List UInt8) (m : Nat) (hs : sep.length = 1) (hx : ∀ x ∈ xs, x.length ≤ m) : ∀ i, i ≤ xs.length → (Go.Lib.join (xs.take i) sep).length ≤ i * (m + 1) := by
  intro i
  induction i with
  | zero => intro _; simp [Go.Lib.join_nil]
  | succ i ih =>
    intro h
    have hi : i < xs.length := by omega
    have h1 := hx _ (List.getElem_mem hi)
    have h2 := ih (by omega)
    rw [tjoin_succ xs sep i hi, Nat.add_mul, Nat.one_mul]
    split
    · omega
    · simp only [List.length_append, hs]
      omega
theorem strings_Join.v (L : List (List UInt8)) (sep : List UInt8) (h0 : 0 < L.length) (h1 : L.length ≤ 1000000) (h2 : (Go.Lib.join L sep).length ≤ 140737488355328) : strings_Join.f (L.map txb) (txb sep) = some (txb (Go.Lib.join L sep)) := by
  have hm : (L.map txb).map (fun z : ByteArray => z.data.toList) = L := by
    rw [List.map_map]
    exact List.map_id L
  unfold strings_Join.f
  rw [hm, if_pos ⟨by rw [List.length_map]; omega, by rw [List.length_map]; omega, h2⟩]
  rfl
theorem spec_l1In.v (a b c : Int) : spec_l1In.f a b c = some (decide (b ≤ a) && decide (a ≤ c)) := by
  unfold spec_l1In.f
  by_cases h : b ≤ a
  · rw [if_pos h]; simp [h]
  · rw [if_neg h]; simp [h]
theorem spec_l1All.ev_l (l : List Int) (lo hi : Int) (hl : l.length ≤ 9223372036854775807) : ∀ (d i : Nat), i + d = l.length → Ev (fun k => spec_l1All.l0 k lo hi l (l.length : Int) (i : Int)) ((l.drop i).all fun x => decide (lo ≤ x) && decide (x ≤ hi)) := by
  intro d
  induction d with
  | zero =>
    intro i h
    refine ev_step ?_
    simp only [spec_l1All.l0]
    rw [ev_neg (by omega), ev_now, List.drop_of_length_le (by omega)]
    rfl
  | succ d ih =>
    intro i h
    refine ev_step ?_
    simp only [spec_l1All.l0]
    have hi' : i < l.length := by omega
    rw [ev_pos (by omega), ev_pos (by omega), ev_pos (by omega), w64i (n := l.length) (by omega) (by omega) hl, rd_lt l i hi', List.drop_eq_getElem_cons hi', List.all_cons, ev_bind (ev_of (spec_l1In.v _ _ _))]
    cases hb : (decide (lo ≤ l[i]) && decide (l[i] ≤ hi)) with
    | true =>
      rw [ev_pos rfl, Bool.true_and]
      exact ih (i + 1) (by omega)
    | false =>
      rw [ev_neg (by decide), ev_now]
      rfl
theorem spec_l1All.ev (l : List Int) (lo hi : Int) (hl : l.length ≤ 9223372036854775807) : Ev (fun k => spec_l1All.f k l lo hi) (l.all fun x => decide (lo ≤ x) && decide (x ≤ hi)) := spec_l1All.ev_l l lo hi hl l.length 0 (by omega)
theorem spec_voGood.ev (q : Int) (l : List Int) (hl : l.length ≤ 9223372036854775807) : Ev (fun k => spec_voGood.f k q l) (goodB q l) := by
  simp only [spec_voGood.f]
  rw [ev_bind (ev_of (spec_l1In.v _ _ _))]
  unfold goodB
  by_cases h1 : 1 ≤ (l.length : Int) ∧ (l.length : Int) ≤ 9
  · rw [ev_pos (by simp [h1]), ev_bind (spec_l1All.ev l 0 1000 hl)]
    refine ev_step ?_
    simp only [spec_voGood.j0]
    cases hb : (l.all fun x => decide (0 ≤ x) && decide (x ≤ 1000)) with
    | true =>
      rw [ev_neg (by simp), ev_bind (spec_voSum.ev l hl), ev_bind (ev_of (spec_l1In.v _ _ _)), ev_now, wfold_w l (by omega) hb]
      have e1 : 1 ≤ l.length := by omega
      have e2 : l.length ≤ 9 := by omega
      simp [e1, e2]
    | false =>
      rw [ev_pos (by simp), ev_now]
      simp
  · rw [ev_neg (by simpa using h1)]
    refine ev_step ?_
    simp only [spec_voGood.j0]
    rw [ev_pos (by simp), ev_now]
    have : ¬ (1 ≤ l.length ∧ l.length ≤ 9) := by omega
    by_cases e1 : 1 ≤ l.length
    · have e2 : ¬ l.length ≤ 9 := by omega
      simp [e2]
    · simp [e1]
theorem dg_byte (d : Nat) (h : d < 10) : (UInt8.ofNat (48 + d)).toNat = 48 + d := by
  simp only [UInt8.toNat_ofNat']
  omega
theorem dgt_facts {n : Nat} (h : n < 10000) : 1 ≤ (dgt n).length ∧ (dgt n).length ≤ 4 ∧ ∀ b ∈ dgt n, 48 ≤ b.toNat ∧ b.toNat ≤ 57 := by
  have hb : ∀ d, d < 10 → 48 ≤ (UInt8.ofNat (48 + d)).toNat ∧ (UInt8.ofNat (48 + d)).toNat ≤ 57 := fun d hd => by rw [dg_byte d hd]; omega
  unfold dgt
  split
  · exact ⟨by simp, by simp, fun b hb' => by rw [List.mem_singleton.1 hb']; exact hb n (by omega)⟩
  · split
    · refine ⟨by simp, by simp, fun b hb' => ?_⟩
      simp only [List.mem_cons, List.not_mem_nil, or_false] at hb'
      rcases hb' with rfl | rfl
      · exact hb _ (by omega)
      · exact hb _ (by omega)
    · split
      · refine ⟨by simp, by simp, fun b hb' => ?_⟩
        simp only [List.mem_cons, List.not_mem_nil, or_false] at hb'
        rcases hb' with rfl | rfl | rfl <;> exact hb _ (by omega)
      · refine ⟨by simp, by simp, fun b hb' => ?_⟩
        simp only [List.mem_cons, List.not_mem_nil, or_false] at hb'
        rcases hb' with rfl | rfl | rfl | rfl <;> exact hb _ (by omega)
theorem strconv_Itoa.vd {n : Int} (h0 : 0 ≤ n) (h : n < 10000) : strconv_Itoa.f n = some (txb (dgt n.toNat)) := by
  unfold strconv_Itoa.f
  rw [if_pos ⟨h0, h⟩, dgt_eq (by omega)]
  rfl
theorem spec_l1Num.ev_d : ∀ (d n : Nat), n < 10 ^ d → 1 ≤ d → d ≤ 9 → Ev (fun k => spec_l1Num.f k (n : Int)) (txb (Go.Lib.decDigits n)) ∧ (Go.Lib.decDigits n).length ≤ d := by
  intro d
  induction d with
  | zero => intro n _ h; omega
  | succ d ih =>
    intro n hn _ hd
    by_cases c : n < 10
    · rw [Go.Lib.decDigits_one c]
      refine ⟨ev_step ?_, by simp⟩
      simp only [spec_l1Num.f]
      rw [ev_pos (by omega), ev_now, w64 (by omega) (by omega), show (48 + (n : Int)) % 256 = ((48 + n : Nat) : Int) by omega]
      rfl
    · have hp : 10 ^ (d + 1) = 10 ^ d * 10 := Nat.pow_succ 10 d
      have hd1 : 1 ≤ d := by
        rcases Nat.eq_zero_or_pos d with h | h
        · subst h; simp at hn; omega
        · exact h
      have hp9 : 10 ^ (d + 1) ≤ 10 ^ 9 := Nat.pow_le_pow_right (by omega) hd
      obtain ⟨h1, h2⟩ := ih (n / 10) (by omega) hd1 (by omega)
      have e1 : Int.tdiv (n : Int) 10 = ((n / 10 : Nat) : Int) := (Int.ofNat_tdiv n 10).symm
      have e2 : Int.tmod (n : Int) 10 = ((n % 10 : Nat) : Int) := (Int.ofNat_tmod n 10).symm
      have e3 : Go.Lib.decDigits n = Go.Lib.decDigits (n / 10) ++ [UInt8.ofNat (48 + n % 10)] := by rw [Go.Lib.decDigits, dif_neg c]
      have e4 : strOfNums [(wrap64 (48 + ((n % 10 : Nat) : Int))) % 256] = txb [UInt8.ofNat (48 + n % 10)] := by
        rw [w64 (by omega) (by omega), show (48 + ((n % 10 : Nat) : Int)) % 256 = ((48 + n % 10 : Nat) : Int) by omega]
        rfl
      rw [e3]
      refine ⟨ev_step ?_, by rw [List.length_append, List.length_singleton]; omega⟩
      simp only [spec_l1Num.f, Option.bind_some]
      rw [ev_neg (by omega), e1, w64 (x := ((n / 10 : Nat) : Int)) (by omega) (by omega), ev_bind h1, e2, e4, ev_pos (by rw [txb_size, txb_size, List.length_singleton]; omega), ev_now, txb_app]
theorem spec_l1Num.ev {n : Int} (h0 : 0 ≤ n) (h : n < 10000) : Ev (fun k => spec_l1Num.f k n) (txb (dgt n.toNat)) := by
  have h1 := (spec_l1Num.ev_d 4 n.toNat (by omega) (by omega) (by omega)).1
  rw [dgt_eq (by omega), show ((n.toNat : Nat) : Int) = n by omega] at h1
  exact h1
def nmL (ws : List Int) : List (List UInt8) := ws.map fun w => dgt w.toNat
def cmT (q : Int) (ws : List Int) : List UInt8 := dgt q.toNat ++ 58 :: Go.Lib.join (nmL ws) [44]
theorem nmL_len (ws : List Int) : (nmL ws).length = ws.length := by simp [nmL]
theorem nmL_in {ws : List Int} (h : ∀ w ∈ ws, 0 ≤ w ∧ w ≤ 1000) : ∀ x ∈ nmL ws, 1 ≤ x.length ∧ x.length ≤ 4 ∧ ∀ b ∈ x, 48 ≤ b.toNat ∧ b.toNat ≤ 57 := fun x hx => by
  obtain ⟨w, hw, rfl⟩ := List.mem_map.1 hx
  have := h w hw
  exact dgt_facts (by omega)
theorem nmL_join {ws : List Int} (h : ∀ w ∈ ws, 0 ≤ w ∧ w ≤ 1000) (h9 : ws.length ≤ 9) (i : Nat) (hi : i ≤ ws.length) : (Go.Lib.join ((nmL ws).take i) [44]).length ≤ 45 := by
  have h1 := tjoin_len (nmL ws) [44] 4 rfl (fun x hx => (nmL_in h x hx).2.1) i (by rw [nmL_len]; exact hi)
  omega
theorem impl_numbersText.ev {ws : List Int} (h : ∀ w ∈ ws, 0 ≤ w ∧ w ≤ 1000) (h9 : ws.length ≤ 9) (h1 : 1 ≤ ws.length) : Ev (fun k => impl_numbersText.f k ws) (txb (Go.Lib.join (nmL ws) [44])) := by
  have key : ∀ (d i : Nat), i + d = ws.length → Ev (fun k => impl_numbersText.l0 k (((nmL ws).take i).map txb) ws (ws.length : Int) (i : Int)) (txb (Go.Lib.join (nmL ws) [44])) := by
    intro d
    induction d with
    | zero =>
      intro i hi
      refine ev_step ?_
      simp only [impl_numbersText.l0]
      have hj := nmL_join h h9 ws.length (Nat.le_refl _)
      have hl := nmL_len ws
      rw [List.take_of_length_le (by omega)] at hj ⊢
      rw [ev_neg (by omega), ev_bind (ev_of (show strings_Join.f ((nmL ws).map txb) (⟨#[44]⟩ : ByteArray) = _ from strings_Join.v (nmL ws) [44] (by omega) (by omega) (by omega))), ev_now]
    | succ d ih =>
      intro i hi
      refine ev_step ?_
      simp only [impl_numbersText.l0]
      have hil : i < ws.length := by omega
      have hx := h ws[i] (List.getElem_mem hil)
      have hih := ih (i + 1) (by omega)
      have e : (nmL ws)[i]'(by rw [nmL_len]; exact hil) = dgt (ws[i]).toNat := by simp [nmL]
      rw [List.take_succ_eq_append_getElem (by rw [nmL_len]; exact hil), e, List.map_append, List.map_singleton, show ((i + 1 : Nat) : Int) = (i : Int) + 1 by omega] at hih
      rw [ev_pos (by omega), ev_pos (by omega), ev_pos (by omega), rd_lt ws i hil, ev_bind (ev_of (strconv_Itoa.vd hx.1 (by omega))), ev_pos (by rw [List.length_map, List.length_take]; omega), w64 (by omega) (by omega)]
      exact hih
  exact key ws.length 0 (Nat.zero_add _)
theorem spec_voText.ev {q : Int} {ws : List Int} (hq : 0 ≤ q ∧ q ≤ 9000) (h : ∀ w ∈ ws, 0 ≤ w ∧ w ≤ 1000) (h9 : ws.length ≤ 9) : Ev (fun k => spec_voText.f k q ws) (txb (cmT q ws)) := by
  have hdq := dgt_facts (n := q.toNat) (by omega)
  have hnl := nmL_len ws
  have key : ∀ (d i : Nat), i + d = ws.length → Ev (fun k => spec_voText.l0 k (txb (dgt q.toNat ++ 58 :: Go.Lib.join ((nmL ws).take i) [44])) ws (ws.length : Int) (i : Int)) (txb (cmT q ws)) := by
    intro d
    induction d with
    | zero =>
      intro i hi
      refine ev_step ?_
      simp only [spec_voText.l0]
      rw [ev_neg (by omega), ev_now, List.take_of_length_le (by omega)]
      rfl
    | succ d ih =>
      intro i hi
      refine ev_step ?_
      simp only [spec_voText.l0]
      have hil : i < ws.length := by omega
      have hx := h ws[i] (List.getElem_mem hil)
      have hdx := dgt_facts (n := ws[i].toNat) (by omega)
      have hj := nmL_join h h9 i (by omega)
      have hih := ih (i + 1) (by omega)
      have e : (nmL ws)[i]'(by omega) = dgt (ws[i]).toNat := by simp [nmL]
      rw [tjoin_succ (nmL ws) [44] i (by omega), e, show ((i + 1 : Nat) : Int) = (i : Int) + 1 by omega] at hih
      rw [ev_pos (by omega), ev_pos (by omega), ev_pos (by omega), rd_lt ws i hil]
      by_cases c : (i : Int) > 0
      · rw [if_neg (by omega)] at hih
        have e2 : txb (dgt q.toNat ++ 58 :: Go.Lib.join ((nmL ws).take i) [44]) ++ (⟨#[44]⟩ : ByteArray) = txb (dgt q.toNat ++ 58 :: Go.Lib.join ((nmL ws).take i) [44] ++ [44]) := txb_app _ [44]
        rw [ev_pos c, ev_pos (by rw [txb_size, List.length_append, List.length_cons]; omega), ev_bind (spec_l1Num.ev hx.1 (by omega)), e2, ev_pos (by rw [txb_size, txb_size, List.length_append, List.length_append, List.length_cons, List.length_singleton]; omega), txb_app, w64 (by omega) (by omega)]
        have e3 : dgt q.toNat ++ 58 :: Go.Lib.join ((nmL ws).take i) [44] ++ [44] ++ dgt ws[i].toNat = dgt q.toNat ++ 58 :: (Go.Lib.join ((nmL ws).take i) [44] ++ [44] ++ dgt ws[i].toNat) := by simp
        rw [e3]
        exact hih
      · have hi0 : i = 0 := by omega
        subst hi0
        rw [if_pos rfl] at hih
        rw [ev_neg c, ev_bind (spec_l1Num.ev hx.1 (by omega)), ev_pos (by rw [txb_size, txb_size, List.length_append, List.length_cons]; omega), txb_app, w64 (by omega) (by omega)]
        have e3 : dgt q.toNat ++ 58 :: Go.Lib.join ((nmL ws).take 0) [44] ++ dgt ws[0].toNat = dgt q.toNat ++ 58 :: dgt ws[0].toNat := by simp [Go.Lib.join_nil]
        rw [e3]
        exact hih
  simp only [spec_voText.f]
  have e0 : txb (dgt q.toNat) ++ (⟨#[58]⟩ : ByteArray) = txb (dgt q.toNat ++ 58 :: Go.Lib.join ((nmL ws).take 0) [44]) := by
    rw [List.take_zero, Go.Lib.join_nil]
    exact txb_app _ [58]
  rw [ev_bind (spec_l1Num.ev hq.1 (by omega)), ev_pos (by rw [txb_size]; omega), e0]
  exact key ws.length 0 (Nat.zero_add _)
def ctV (q : Int) (ws : List Int) : ByteArray × Bool := if goodB q ws = true then (txb (cmT q ws), true) else (txb [], false)
theorem cmT_len {q : Int} {ws : List Int} (hc : GoodC q ws) : (cmT q ws).length ≤ 60 := by
  have hs := hc.sum
  have hq := hc.qs
  have h1 := hc.q1
  have hd := dgt_facts (n := q.toNat) (by omega)
  have hj := nmL_join hc.w hc.l9 ws.length (Nat.le_refl _)
  rw [List.take_of_length_le (by rw [nmL_len]; exact Nat.le_refl _)] at hj
  unfold cmT
  rw [List.length_append, List.length_cons]
  omega
theorem impl_CommitteeText.ev (q : Int) (ws : List Int) (hl : ws.length ≤ 9223372036854775807) : Ev (fun k => impl_CommitteeText.f k q ws) (ctV q ws) := by
  simp only [impl_CommitteeText.f]
  rw [ev_bind (impl_IsCommittee.ev q ws hl)]
  unfold ctV
  cases hg : goodB q ws with
  | false => rw [ev_neg (by decide), ev_now]; rfl
  | true =>
    have hc := (good_iff q ws).1 hg
    have hs := hc.sum
    have hq := hc.qs
    have h1 := hc.q1
    have hd := dgt_facts (n := q.toNat) (by omega)
    have hj := nmL_join hc.w hc.l9 ws.length (Nat.le_refl _)
    rw [List.take_of_length_le (by rw [nmL_len]; exact Nat.le_refl _)] at hj
    have e0 : txb (dgt q.toNat) ++ (⟨#[58]⟩ : ByteArray) = txb (dgt q.toNat ++ [58]) := txb_app _ [58]
    rw [ev_pos rfl, ev_bind (ev_of (strconv_Itoa.vd (n := q) (by omega) (by omega))), ev_pos (by rw [txb_size]; omega), ev_bind (impl_numbersText.ev hc.w hc.l9 hc.l1), e0, ev_pos (by rw [txb_size, txb_size, List.length_append, List.length_singleton]; omega), ev_now, txb_app, if_pos rfl]
    simp [cmT]
theorem spec_CommitteeText.ev (q : Int) (ws : List Int) (hl : ws.length ≤ 9223372036854775807) : Ev (fun k => spec_CommitteeText.f k q ws) (ctV q ws) := by
  simp only [spec_CommitteeText.f]
  rw [ev_bind (spec_voGood.ev q ws hl)]
  unfold ctV
  cases hg : goodB q ws with
  | false => rw [ev_neg (by decide), ev_now]; rfl
  | true =>
    have hc := (good_iff q ws).1 hg
    have hs := hc.sum
    have hq := hc.qs
    have h1 := hc.q1
    rw [ev_pos rfl, ev_bind (spec_voText.ev ⟨by omega, by omega⟩ hc.w hc.l9), ev_now, if_pos rfl]
theorem spec_l1Cur_sureCommittee.exb_j1 {l : List Int} (hl : ByteL l) (p s q : Int) (ws : List Int) (hw : ∀ x ∈ ws, 0 ≤ x ∧ x ≤ 7) (hn : 1 ≤ ws.length ∧ ws.length ≤ 9) (h0 : 0 ≤ p) (h1 : p ≤ 890000) : ∃ (q' : Int) (ws' : List Int) (p' s' : Int), Ev (fun k => spec_l1Cur_sureCommittee.j1 k l p s q ws) (q', ws', p', s') ∧ (0 ≤ q' ∧ q' ≤ 9000) ∧ (∀ x ∈ ws', 0 ≤ x ∧ x ≤ 7) ∧ (1 ≤ ws'.length ∧ ws'.length ≤ 9) ∧ p ≤ p' ∧ p' ≤ p + 8 := by
  obtain ⟨b, p1, s1, e1, h2, h3⟩ := spec_l1Cur_one.ex hl p s 2 h0 (by omega)
  obtain ⟨x, p2, s2, e2, h4, h4b, h5, h6, h7⟩ := spec_l1Cur_pick.ex hl p1 s1 (wfold ws 0) (by omega) (by omega)
  have hs := spec_voSum.ev ws (by omega)
  have hb := sum_bounds ws 7 hw
  have hf := wfold_counts hn.2 (fun x hx => by have := hw x hx; omega)
  cases b with
  | true =>
    refine ⟨wrap64 (1 + x), ws, p2, s2, ev_step ?_, by rw [w64 (by omega) (by omega)]; omega, hw, hn, by omega, by omega⟩
    simp only [spec_l1Cur_sureCommittee.j1]
    rw [ev_bind hs, ev_bind (ev_of e1), ev_pos rfl, ev_bind (ev_of e2), ev_now]
  | false =>
    refine ⟨wrap64 (wrap64 (Int.tdiv (wfold ws 0) 2) + 1), ws, p1, s1, ev_step ?_, by rw [Int.tdiv_eq_ediv_of_nonneg (by omega), w64 (x := wfold ws 0 / 2) (by omega) (by omega), w64 (by omega) (by omega)]; omega, hw, hn, by omega, by omega⟩
    simp only [spec_l1Cur_sureCommittee.j1]
    rw [ev_bind hs, ev_bind (ev_of e1), ev_neg (by simp), ev_now]
theorem in_set {ws : List Int} (h : ∀ x ∈ ws, 0 ≤ x ∧ x ≤ (7 : Int)) : ∀ x ∈ ws.set 0 1, 0 ≤ x ∧ x ≤ (7 : Int) := fun x hx => by
  rcases List.mem_or_eq_of_mem_set hx with h1 | rfl
  · exact h x h1
  · omega
theorem spec_l1Cur_sureCommittee.exb_l0 {l : List Int} (hl : ByteL l) (q : Int) : ∀ (d : Nat) (p s : Int) (ws : List Int), (∀ x ∈ ws, 0 ≤ x ∧ x ≤ 7) → ws.length + d ≤ 9 → 1 ≤ ws.length + d → 0 ≤ p → p + 2 * d ≤ 880000 → ∃ (q' : Int) (ws' : List Int) (p' s' : Int), Ev (fun k => spec_l1Cur_sureCommittee.l0 k (d : Int) l p s q ws) (q', ws', p', s') ∧ (0 ≤ q' ∧ q' ≤ 9000) ∧ (∀ x ∈ ws', 0 ≤ x ∧ x ≤ 7) ∧ (1 ≤ ws'.length ∧ ws'.length ≤ 9) ∧ p ≤ p' ∧ p' ≤ p + 2 * d + 8 := by
  intro d
  induction d with
  | zero =>
    intro p s ws hw h9 hn h0 h1
    have hs := spec_voSum.ev ws (by omega)
    by_cases c : wfold ws 0 = 0
    · obtain ⟨q', ws', p', s', hj, r⟩ := spec_l1Cur_sureCommittee.exb_j1 hl p s q (ws.set 0 1) (in_set hw) (by rw [List.length_set]; omega) h0 (by omega)
      refine ⟨q', ws', p', s', ev_step ?_, r.1, r.2.1, r.2.2.1, r.2.2.2.1, by omega⟩
      simp only [spec_l1Cur_sureCommittee.l0]
      rw [ev_neg (by omega), ev_bind hs, ev_pos c, ev_pos (by omega)]
      exact hj
    · obtain ⟨q', ws', p', s', hj, r⟩ := spec_l1Cur_sureCommittee.exb_j1 hl p s q ws hw (by omega) h0 (by omega)
      refine ⟨q', ws', p', s', ev_step ?_, r.1, r.2.1, r.2.2.1, r.2.2.2.1, by omega⟩
      simp only [spec_l1Cur_sureCommittee.l0]
      rw [ev_neg (by omega), ev_bind hs, ev_neg c]
      exact hj
  | succ d ih =>
    intro p s ws hw h9 hn h0 h1
    obtain ⟨x, p1, s1, e, h2, h3, h5, h6, h7⟩ := spec_l1Cur_pick.ex hl p s 7 h0 (by omega)
    obtain ⟨q', ws', p', s', hj, r⟩ := ih p1 s1 (ws ++ [x]) (fun y hy => by
      rcases List.mem_append.1 hy with h8 | h8
      · exact hw y h8
      · rw [List.mem_singleton.1 h8]; omega) (by rw [List.length_append, List.length_singleton]; omega) (by rw [List.length_append, List.length_singleton]; omega) (by omega) (by omega)
    refine ⟨q', ws', p', s', ev_step ?_, r.1, r.2.1, r.2.2.1, by omega, by omega⟩
    simp only [spec_l1Cur_sureCommittee.l0]
    rw [ev_pos (by omega), ev_bind (ev_of e), ev_pos (by omega), show wrap64 (((d + 1 : Nat) : Int) - 1) = (d : Int) by rw [w64 (by omega) (by omega)]; omega]
    exact hj
theorem spec_l1Cur_sureCommittee.exb {l : List Int} (hl : ByteL l) (p s a : Int) (ha : 1 ≤ a ∧ a ≤ 9) (h0 : 0 ≤ p) (h1 : p ≤ 800000) : ∃ (q' : Int) (ws' : List Int) (p' s' : Int), Ev (fun k => spec_l1Cur_sureCommittee.f k l p s a) (q', ws', p', s') ∧ (0 ≤ q' ∧ q' ≤ 9000) ∧ (∀ x ∈ ws', 0 ≤ x ∧ x ≤ 7) ∧ (1 ≤ ws'.length ∧ ws'.length ≤ 9) ∧ p ≤ p' ∧ p' ≤ p + 30 := by
  obtain ⟨x, p1, s1, e, h2, h3, h5, h6, h7⟩ := spec_l1Cur_pick.ex hl p s a h0 (by omega)
  obtain ⟨q', ws', p', s', hj, r⟩ := spec_l1Cur_sureCommittee.exb_l0 hl 0 (x + 1).toNat p1 s1 [] (by simp) (by simp; omega) (by simp; omega) (by omega) (by omega)
  refine ⟨q', ws', p', s', ?_, r.1, r.2.1, r.2.2.1, by omega, by omega⟩
  simp only [spec_l1Cur_sureCommittee.f]
  rw [ev_bind (ev_of e), show wrap64 (1 + x) = ((x + 1).toNat : Int) by rw [w64 (by omega) (by omega)]; omega]
  exact hj
theorem spec_l1Cur_someOrder.ex_l0 {l : List Int} (hl : ByteL l) (n : Nat) (hn : n ≤ 10) : ∀ (d i : Nat) (p s : Int) (out : List Int), i + d = n → out.length = i → 0 ≤ p → p + 2 * d ≤ 800000 → ∃ (out' : List Int) (p' s' : Int), Ev (fun k => spec_l1Cur_someOrder.l0 k (n : Int) out (i : Int) l p s) (out', p', s') ∧ out'.length ≤ 10 := by
  intro d
  induction d with
  | zero =>
    intro i p s out h ho h0 h1
    obtain ⟨b, p1, s1, e1, h2, h3⟩ := spec_l1Cur_one.ex hl p s 14 h0 (by omega)
    cases b with
    | true =>
      by_cases c : (n : Int) > 0
      · obtain ⟨y, p2, s2, e2, hy, h8, h9⟩ := spec_l1Cur_among.ex hl p1 s1 ([(-1), 0, (n : Int), 4611686018427387904] : List Int) (by simp) (by omega) (by omega)
        refine ⟨out.set (0 : Int).toNat y, p2, s2, ev_step ?_, by rw [List.length_set]; omega⟩
        simp only [spec_l1Cur_someOrder.l0]
        rw [ev_neg (by omega), ev_bind (ev_of e1), ev_pos rfl, ev_pos c, ev_bind (ev_of e2), ev_pos (by omega), ev_now]
      · refine ⟨out, p1, s1, ev_step ?_, by omega⟩
        simp only [spec_l1Cur_someOrder.l0]
        rw [ev_neg (by omega), ev_bind (ev_of e1), ev_pos rfl, ev_neg c, ev_now]
    | false =>
      refine ⟨out, p1, s1, ev_step ?_, by omega⟩
      simp only [spec_l1Cur_someOrder.l0]
      rw [ev_neg (by omega), ev_bind (ev_of e1), ev_neg (by simp), ev_now]
  | succ d ih =>
    intro i p s out h ho h0 h1
    have ew : wrap64 ((out.length : Int) + 1) = (out.length : Int) + 1 := w64 (by omega) (by omega)
    obtain ⟨x, p1, s1, e1, h2, h3, h5, h6, h7⟩ := spec_l1Cur_pick.ex hl p s (wrap64 ((out.length : Int) + 1)) h0 (by omega)
    have ei : wrap64 ((i : Int) + 1) = ((i + 1 : Nat) : Int) := by rw [w64 (by omega) (by omega)]; omega
    have hx : x ≤ (out.length : Int) := by rw [ew] at h3; omega
    have ht : (out.take x.toNat).length = x.toNat := by rw [List.length_take]; omega
    have hd : (out.drop x.toNat).length = out.length - x.toNat := List.length_drop
    obtain ⟨out', p', s', hj, r⟩ := ih (i + 1) p1 s1 ((out.take x.toNat ++ [(i : Int)]) ++ out.drop x.toNat) (by omega) (by rw [List.length_append, List.length_append, List.length_singleton, ht, hd]; omega) (by omega) (by omega)
    refine ⟨out', p', s', ev_step ?_, r⟩
    simp only [spec_l1Cur_someOrder.l0, Option.bind_some]
    rw [ev_pos (by omega), ev_bind (ev_of e1)]
    dsimp only
    rw [ev_pos (by omega), ev_pos hx, ev_bind (ev_of (spec_Own.v _ (by omega))), ev_pos (by omega), ev_pos (by rw [List.length_append, List.length_singleton, ht, hd]; omega), ei]
    exact hj
theorem spec_DrawRenameCommittee.ex {l : List Int} (hl : ByteL l) : ∃ (q : Int) (ws o : List Int), Ev (fun k => spec_DrawRenameCommittee.f k l) (q, ws, o) ∧ DrawnC q ws ∧ o.length ≤ 10 := by
  obtain ⟨q, ws, p, s, e, h, h2, h3⟩ := spec_l1Cur_committee.ex hl 0 0 6 (by decide) (by decide) (by decide)
  have h10 := h.l10
  obtain ⟨o, p1, s1, e1, h4⟩ := spec_l1Cur_someOrder.ex_l0 hl ws.length h10 ws.length 0 p s [] (by omega) rfl (by omega) (by omega)
  rw [show ((0 : Nat) : Int) = 0 from rfl] at e1
  refine ⟨q, ws, o, ?_, h, h4⟩
  simp only [spec_DrawRenameCommittee.f, spec_l1Cur_someOrder.f]
  rw [ev_bind e]
  dsimp only
  rw [ev_bind e1, ev_now]
theorem spec_DrawDropMember.ex {l : List Int} (hl : ByteL l) : ∃ (q : Int) (ws : List Int) (a : Int), Ev (fun k => spec_DrawDropMember.f k l) (q, ws, a) ∧ DrawnC q ws := by
  obtain ⟨q, ws, p, s, e, h, h2, h3⟩ := spec_l1Cur_committee.ex hl 0 0 6 (by decide) (by decide) (by decide)
  obtain ⟨x, p1, s1, e1, _, _, _, h4, h5⟩ := spec_l1Cur_pick.ex hl p s 7 (by omega) (by omega)
  obtain ⟨y, p2, s2, e2, _⟩ := spec_l1Cur_pick.ex hl p1 s1 9 (by omega) (by omega)
  refine ⟨q, ws, wrap64 (x - wrap64 (Int.tdiv y 8)), ?_, h⟩
  simp only [spec_DrawDropMember.f]
  rw [ev_bind e, ev_bind (ev_of e1), ev_bind (ev_of e2), ev_now]
theorem spec_DrawCommitteeText.ex {l : List Int} (hl : ByteL l) : ∃ (q : Int) (ws : List Int), Ev (fun k => spec_DrawCommitteeText.f k l) (q, ws) ∧ DrawnC q ws := by
  obtain ⟨q, ws, e, h⟩ := spec_DrawIsCommittee.ex hl
  refine ⟨q, ws, ?_, h⟩
  simp only [spec_DrawCommitteeText.f]
  rw [ev_bind e, ev_now]
theorem spec_DrawAreSameVotes.ex_l0 (q : Int) (ws : List Int) (hw : ws.length ≤ 10) (q' : Int) : ∀ (d i : Nat) (out : List Int), i + d = ws.length → out.length ≤ i → ∃ out' : List Int, Ev (fun k => spec_DrawAreSameVotes.l0 k ws (ws.length : Int) (i : Int) q ws q' out) (q, ws, q', out') ∧ out'.length ≤ 10 := by
  intro d
  induction d with
  | zero =>
    intro i out h ho
    refine ⟨out, ev_step ?_, by omega⟩
    simp only [spec_DrawAreSameVotes.l0]
    rw [ev_neg (by omega), ev_now]
  | succ d ih =>
    intro i out h ho
    have ei : wrap64 ((i : Int) + 1) = ((i + 1 : Nat) : Int) := by rw [w64 (by omega) (by omega)]; omega
    obtain ⟨out', hj, r⟩ := ih (i + 1) (out ++ [wrap64 (2 * rd ws (i : Int))]) (by omega) (by rw [List.length_append, List.length_singleton]; omega)
    refine ⟨out', ev_step ?_, r⟩
    simp only [spec_DrawAreSameVotes.l0]
    rw [ev_pos (by omega), ev_pos (by omega), ev_pos (by omega), ev_pos (by omega), ei]
    exact hj
theorem spec_DrawAreSameVotes.ex {l : List Int} (hl : ByteL l) : ∃ (q : Int) (ws : List Int) (q' : Int) (ws' : List Int), Ev (fun k => spec_DrawAreSameVotes.f k l) (q, ws, q', ws') ∧ ws.length ≤ 10 ∧ ws'.length ≤ 10 := by
  obtain ⟨q, ws, p, s, e, h, h2, h3⟩ := spec_l1Cur_committee.ex hl 0 0 4 (by decide) (by decide) (by decide)
  have h10 := h.l10
  obtain ⟨b, p1, s1, e1, h4, h5⟩ := spec_l1Cur_one.ex hl p s 2 (by omega) (by omega)
  obtain ⟨qb, wb, p2, s2, e2, h6, _⟩ := spec_l1Cur_committee.ex hl p1 s1 4 (by decide) (by omega) (by omega)
  obtain ⟨out, e3, h7⟩ := spec_DrawAreSameVotes.ex_l0 q ws h10 (wrap64 (2 * q)) ws.length 0 [] (by omega) (by simp)
  have hj : ∀ c : Bool, ∃ (q' : Int) (ws' : List Int), Ev (fun k => spec_DrawAreSameVotes.j0 k c l p1 s1 q ws) (q, ws, q', ws') ∧ ws'.length ≤ 10 := fun c => by
    cases c with
    | true =>
      refine ⟨wrap64 (2 * q), out, ev_step ?_, h7⟩
      simp only [spec_DrawAreSameVotes.j0]
      rw [ev_pos trivial]
      exact e3
    | false =>
      refine ⟨qb, wb, ev_step ?_, h6.l10⟩
      simp only [spec_DrawAreSameVotes.j0]
      rw [ev_neg (by simp), ev_bind e2, ev_now]
  cases b with
  | true =>
    obtain ⟨q', ws', e4, h8⟩ := hj (goodB q ws)
    refine ⟨q, ws, q', ws', ?_, h10, h8⟩
    simp only [spec_DrawAreSameVotes.f]
    rw [ev_bind e, ev_bind (ev_of e1), ev_pos rfl, ev_bind (spec_voGood.ev q ws (by omega))]
    exact e4
  | false =>
    obtain ⟨q', ws', e4, h8⟩ := hj false
    refine ⟨q, ws, q', ws', ?_, h10, h8⟩
    simp only [spec_DrawAreSameVotes.f]
    rw [ev_bind e, ev_bind (ev_of e1), ev_neg (by simp)]
    exact e4
theorem num1_size (x : Int) : (strOfNums [x]).size = 1 := by simp [strOfNums, ByteArray.size]
theorem spec_l1Cur_spoilt.ex_l0 {l : List Int} (hl : ByteL l) (A : ByteArray) (hA : 1 ≤ A.size ∧ A.size ≤ 1000) : ∀ (d : Nat) (p s : Int) (t : ByteArray), t.size + d ≤ 1000 → 0 ≤ p → p + 8 * d ≤ 800000 → ∃ (t' : ByteArray) (p' s' : Int), Ev (fun k => spec_l1Cur_spoilt.l0 k t A (d : Int) l p s) (t', p', s') ∧ t'.size ≤ 1000 := by
  intro d
  induction d with
  | zero =>
    intro p s t ht h0 h1
    refine ⟨t, p, s, ev_step ?_, by omega⟩
    simp only [spec_l1Cur_spoilt.l0]
    rw [ev_neg (by omega)]
    refine ev_step ?_
    simp only [spec_l1Cur_spoilt.j1]
    rw [ev_neg (by decide), ev_now]
  | succ d ih =>
    intro p s t ht h0 h1
    by_cases c : (t.size : Int) > 0
    · obtain ⟨i, p1, s1, e1, a1, a2, _, a3, a4⟩ := spec_l1Cur_pick.ex hl p s (t.size : Int) h0 (by omega)
      obtain ⟨b, p2, s2, e2, b1, b2, _, b3, b4⟩ := spec_l1Cur_pick.ex hl p1 s1 (A.size : Int) (by omega) (by omega)
      obtain ⟨m, p3, s3, e3, c1, c2, _, c3, c4⟩ := spec_l1Cur_pick.ex hl p2 s2 3 (by omega) (by omega)
      have ew : wrap64 (((d + 1 : Nat) : Int) - 1) = (d : Int) := by rw [w64 (by omega) (by omega)]; omega
      have ei : wrap64 (i + 1) = i + 1 := w64 (by omega) (by omega)
      have hn := num1_size (bt A b)
      have z1 : (t.extract 0 i.toNat).size = i.toNat := by rw [ByteArray.size_extract]; omega
      have z2 : (t.extract i.toNat t.size).size = t.size - i.toNat := by rw [ByteArray.size_extract]; omega
      have z3 : (t.extract (i + 1).toNat t.size).size = t.size - (i + 1).toNat := by rw [ByteArray.size_extract]; omega
      by_cases m0 : m = 0
      · obtain ⟨t', p', s', hj, r⟩ := ih p3 s3 ((t.extract 0 i.toNat ++ strOfNums [bt A b]) ++ t.extract i.toNat t.size) (by rw [ByteArray.size_append, ByteArray.size_append, z1, z2, hn]; omega) (by omega) (by omega)
        refine ⟨t', p', s', ev_step ?_, r⟩
        simp only [spec_l1Cur_spoilt.l0]
        rw [ev_pos (by omega)]
        refine ev_step ?_
        simp only [spec_l1Cur_spoilt.j1, Option.bind_some]
        rw [ev_pos (decide_eq_true c), ev_bind (ev_of e1), ev_bind (ev_of e2)]
        dsimp only
        rw [ev_pos (by omega), ev_pos (by omega), ev_bind (ev_of e3)]
        dsimp only
        rw [ev_pos m0, ev_pos (by omega), ev_pos (by omega), ev_pos (by rw [z1, hn]; omega), ev_pos (by rw [ByteArray.size_append, z1, z2, hn]; omega), ew]
        exact hj
      · by_cases m1 : m = 1
        · obtain ⟨t', p', s', hj, r⟩ := ih p3 s3 ((t.extract 0 i.toNat ++ strOfNums [bt A b]) ++ t.extract (i + 1).toNat t.size) (by rw [ByteArray.size_append, ByteArray.size_append, z1, z3, hn]; omega) (by omega) (by omega)
          refine ⟨t', p', s', ev_step ?_, r⟩
          simp only [spec_l1Cur_spoilt.l0]
          rw [ev_pos (by omega)]
          refine ev_step ?_
          simp only [spec_l1Cur_spoilt.j1, Option.bind_some]
          rw [ev_pos (decide_eq_true c), ev_bind (ev_of e1), ev_bind (ev_of e2)]
          dsimp only
          rw [ev_pos (by omega), ev_pos (by omega), ev_bind (ev_of e3)]
          dsimp only
          rw [ev_neg m0, ev_pos m1, ei, ev_pos (by omega), ev_pos (by omega), ev_pos (by rw [z1, hn]; omega), ev_pos (by omega), ev_pos (by omega), ev_pos (by rw [ByteArray.size_append, z1, z3, hn]; omega), ew]
          exact hj
        · obtain ⟨t', p', s', hj, r⟩ := ih p3 s3 (t.extract 0 i.toNat ++ t.extract (i + 1).toNat t.size) (by rw [ByteArray.size_append, z1, z3]; omega) (by omega) (by omega)
          refine ⟨t', p', s', ev_step ?_, r⟩
          simp only [spec_l1Cur_spoilt.l0]
          rw [ev_pos (by omega)]
          refine ev_step ?_
          simp only [spec_l1Cur_spoilt.j1, Option.bind_some]
          rw [ev_pos (decide_eq_true c), ev_bind (ev_of e1), ev_bind (ev_of e2)]
          dsimp only
          rw [ev_pos (by omega), ev_pos (by omega), ev_bind (ev_of e3)]
          dsimp only
          rw [ev_neg m0, ev_neg m1, ei, ev_pos (by omega), ev_pos (by omega), ev_pos (by omega), ev_pos (by omega), ev_pos (by rw [z1, z3]; omega), ew]
          exact hj
    · refine ⟨t, p, s, ev_step ?_, by omega⟩
      simp only [spec_l1Cur_spoilt.l0]
      rw [ev_pos (by omega)]
      refine ev_step ?_
      simp only [spec_l1Cur_spoilt.j1]
      rw [ev_neg (by rw [decide_eq_false c]; decide), ev_now]
theorem cmT_few {q : Int} {ws : List Int} (hq : 0 ≤ q ∧ q ≤ 9000) (h : ∀ w ∈ ws, 0 ≤ w ∧ w ≤ 1000) (h9 : ws.length ≤ 9) : (cmT q ws).length ≤ 60 := by
  have h1 := (dgt_facts (n := q.toNat) (by omega)).2.1
  have h2 := nmL_join h h9 ws.length (Nat.le_refl _)
  rw [List.take_of_length_le (by rw [nmL_len]; omega)] at h2
  unfold cmT
  rw [List.length_append, List.length_cons]
  omega
theorem spec_DrawParseCommittee.ex {l : List Int} (hl : ByteL l) : ∃ t : ByteArray, Ev (fun k => spec_DrawParseCommittee.f k l) t ∧ t.size ≤ 1000 := by
  obtain ⟨q, ws, p, s, e, hq, hw, hn, h2, h3⟩ := spec_l1Cur_sureCommittee.exb hl 0 0 6 (by decide) (by decide) (by decide)
  have hw2 : ∀ w ∈ ws, 0 ≤ w ∧ w ≤ 1000 := fun w h => by have := hw w h; omega
  have ht := spec_voText.ev hq hw2 hn.2
  have hs := txb_size (cmT q ws)
  have hf := cmT_few hq hw2 hn.2
  obtain ⟨b, p1, s1, e1, h4, h5⟩ := spec_l1Cur_one.ex hl p s 3 (by omega) (by omega)
  cases b with
  | true =>
    obtain ⟨x, p2, s2, e2, a1, a2, _, a3, a4⟩ := spec_l1Cur_pick.ex hl p1 s1 2 (by omega) (by omega)
    obtain ⟨t', p', s', hj, r⟩ := spec_l1Cur_spoilt.ex_l0 hl (⟨#[48, 49, 50, 51, 52, 53, 54, 58, 44]⟩ : ByteArray) (by decide) (1 + x).toNat p2 s2 (txb (cmT q ws)) (by omega) (by omega) (by omega)
    rw [show (((1 + x).toNat : Nat) : Int) = 1 + x by omega] at hj
    refine ⟨t', ?_, r⟩
    simp only [spec_DrawParseCommittee.f, spec_l1Cur_spoilt.f]
    rw [ev_bind e, ev_bind ht, ev_bind (ev_of e1), ev_pos rfl]
    dsimp only
    have hsp : Ev (fun k => (spec_l1Cur_pick.f l p1 s1 2).bind fun bt101 => spec_l1Cur_spoilt.l0 k (txb (cmT q ws)) (⟨#[48, 49, 50, 51, 52, 53, 54, 58, 44]⟩ : ByteArray) (wrap64 (1 + bt101.1)) l bt101.2.1 bt101.2.2) (t', p', s') := by
      rw [ev_bind (ev_of e2)]
      dsimp only
      rw [w64 (by omega) (by omega)]
      exact hj
    rw [ev_bind hsp, ev_now]
  | false =>
    refine ⟨txb (cmT q ws), ?_, by omega⟩
    simp only [spec_DrawParseCommittee.f]
    rw [ev_bind e, ev_bind ht, ev_bind (ev_of e1), ev_neg (by simp), ev_now]
theorem sortL_few {P : Nat → Bool} {q : Int} {ws : List Int} (h : GoodC q ws) {N : Nat} (hN : N = 2 ^ ws.length) : (Go.Proofs.YtaambkdiokbdgacGreatDoorS.sortL (takeL P N)).length ≤ 512 ∧ ∀ s ∈ Go.Proofs.YtaambkdiokbdgacGreatDoorS.sortL (takeL P N), s.length ≤ 9 := by
  have hp := h.pow
  have h9 := h.l9
  have hlen := takeL_len P N
  exact ⟨by rw [sortL_len]; omega, fun s hs => by have := (sortL_in (n := ws.length) (by omega) (by omega) s hs).1; omega⟩
def lwV (q : Int) (ws : List Int) : List (List Int) × Bool := if goodB q ws = true then (Go.Proofs.YtaambkdiokbdgacGreatDoorS.sortL (takeL (leastB (winsL q ws) ws.length) (winsL q ws).length), true) else ([], false)
theorem impl_LeastWinning.ev (q : Int) (ws : List Int) (hl : ws.length ≤ 9223372036854775807) : Ev (fun k => impl_LeastWinning.f k q ws) (lwV q ws) := by
  simp only [impl_LeastWinning.f]
  rw [ev_bind (impl_IsCommittee.ev q ws hl)]
  unfold lwV
  cases hg : goodB q ws with
  | false => rw [ev_neg (by decide), ev_now, if_neg (by decide)]
  | true =>
    have hc := (good_iff q ws).1 hg
    have h9 := hc.l9
    have hwl := winsL_length q ws
    rw [ev_pos rfl, if_pos rfl, ev_bind (impl_Committee_votes.ev q ws h9 hc.wb), ev_bind (impl_votes_least.ev (winsL q ws) ws.length hwl (by omega)), ev_now]
theorem lwV_few (q : Int) (ws : List Int) : (lwV q ws).1.length ≤ 512 ∧ ∀ s ∈ (lwV q ws).1, s.length ≤ 9 := by
  unfold lwV
  split
  · next h => exact sortL_few ((good_iff q ws).1 h) (winsL_length q ws)
  · simp
theorem laws_mSum.ev_l (l : List Int) (hl : l.length ≤ 9223372036854775807) : ∀ (d i : Nat) (s : Int), i + d = l.length → Ev (fun k => laws_mSum.l0 k s l (l.length : Int) (i : Int)) (wfold (l.drop i) s) := by
  intro d
  induction d with
  | zero =>
    intro i s h
    refine ev_step ?_
    simp only [laws_mSum.l0]
    rw [ev_neg (by omega), ev_now, List.drop_of_length_le (by omega)]
    rfl
  | succ d ih =>
    intro i s h
    refine ev_step ?_
    simp only [laws_mSum.l0]
    have hi : i < l.length := by omega
    rw [ev_pos (by omega), ev_pos (by omega), ev_pos (by omega), rd_lt l i hi, w64i (n := l.length) (by omega) (by omega) hl, wfold_take l i hi]
    exact ih (i + 1) _ (by omega)
theorem laws_mSum.ev (l : List Int) (hl : l.length ≤ 9223372036854775807) : Ev (fun k => laws_mSum.f k l) (wfold l 0) := laws_mSum.ev_l l hl l.length 0 0 (by omega)
theorem laws_mSame.ev_l (a b : List Int) (hl : a.length ≤ 9223372036854775807) (hab : a.length = b.length) : ∀ (d i : Nat), i + d = a.length → Ev (fun k => laws_mSame.l0 k a b (a.length : Int) (i : Int)) (decide (a.drop i = b.drop i)) := by
  intro d
  induction d with
  | zero =>
    intro i h
    refine ev_step ?_
    simp only [laws_mSame.l0]
    rw [ev_neg (by omega), ev_now, List.drop_of_length_le (by omega), List.drop_of_length_le (by omega)]
    rfl
  | succ d ih =>
    intro i h
    refine ev_step ?_
    simp only [laws_mSame.l0]
    have hi : i < a.length := by omega
    have hib : i < b.length := by omega
    have e : decide (a.drop i = b.drop i) = (decide (a[i] = b[i]) && decide (a.drop (i + 1) = b.drop (i + 1))) := by
      rw [List.drop_eq_getElem_cons hi, List.drop_eq_getElem_cons hib, Bool.eq_iff_iff]
      simp only [Bool.and_eq_true, decide_eq_true_eq, List.cons.injEq]
    rw [ev_pos (by omega), ev_pos (by omega), ev_pos (by omega), ev_pos (by omega), rd_lt a i hi, rd_lt b i hib, w64i (n := a.length) (by omega) (by omega) hl, e]
    by_cases c : a[i] = b[i]
    · rw [ev_pos c, decide_eq_true c, Bool.true_and]
      exact ih (i + 1) (by omega)
    · rw [ev_neg c, ev_now, decide_eq_false c]
      rfl
theorem laws_mSame.ev (a b : List Int) (hl : a.length ≤ 9223372036854775807) : Ev (fun k => laws_mSame.f k a b) (decide (a = b)) := by
  simp only [laws_mSame.f]
  by_cases c : (a.length : Int) = (b.length : Int)
  · rw [ev_pos c]
    exact laws_mSame.ev_l a b hl (by omega) a.length 0 (by omega)
  · rw [ev_neg c, ev_now, decide_eq_false (fun h => c (by rw [h]))]
theorem rd_L2_lt (l : List (List Int)) (i : Nat) (h : i < l.length) : rd_L2 l (i : Int) = l[i] := by simp [rd_L2, h]
theorem laws_mSets.ev_l (a b : List (List Int)) (hl : a.length ≤ 9223372036854775807) (ha : ∀ x ∈ a, x.length ≤ 9223372036854775807) (hab : a.length = b.length) : ∀ (d i : Nat), i + d = a.length → Ev (fun k => laws_mSets.l0 k a b (a.length : Int) (i : Int)) (decide (a.drop i = b.drop i)) := by
  intro d
  induction d with
  | zero =>
    intro i h
    refine ev_step ?_
    simp only [laws_mSets.l0]
    rw [ev_neg (by omega), ev_now, List.drop_of_length_le (by omega), List.drop_of_length_le (by omega)]
    rfl
  | succ d ih =>
    intro i h
    refine ev_step ?_
    simp only [laws_mSets.l0]
    have hi : i < a.length := by omega
    have hib : i < b.length := by omega
    have e : decide (a.drop i = b.drop i) = (decide (a[i] = b[i]) && decide (a.drop (i + 1) = b.drop (i + 1))) := by
      rw [List.drop_eq_getElem_cons hi, List.drop_eq_getElem_cons hib, Bool.eq_iff_iff]
      simp only [Bool.and_eq_true, decide_eq_true_eq, List.cons.injEq]
    rw [ev_pos (by omega), ev_pos (by omega), ev_pos (by omega), ev_pos (by omega), rd_L2_lt a i hi, rd_L2_lt b i hib, ev_bind (laws_mSame.ev a[i] b[i] (ha _ (List.getElem_mem hi))), w64i (n := a.length) (by omega) (by omega) hl, e]
    cases c : decide (a[i] = b[i]) with
    | true =>
      rw [ev_pos rfl, Bool.true_and]
      exact ih (i + 1) (by omega)
    | false => rw [ev_neg (by decide), ev_now, Bool.false_and]
theorem laws_mSets.ev (a b : List (List Int)) (hl : a.length ≤ 9223372036854775807) (ha : ∀ x ∈ a, x.length ≤ 9223372036854775807) : Ev (fun k => laws_mSets.f k a b) (decide (a = b)) := by
  simp only [laws_mSets.f]
  by_cases c : (a.length : Int) = (b.length : Int)
  · rw [ev_pos c]
    exact laws_mSets.ev_l a b hl ha (by omega) a.length 0 (by omega)
  · rw [ev_neg c, ev_now, decide_eq_false (fun h => c (by rw [h]))]
theorem laws_mCommittee.ev_same (q : Int) (ws : List Int) (hl : ws.length ≤ 9223372036854775807) : Ev (fun k => laws_mCommittee.f k q ws q ws) true := by
  have h := laws_mSame.ev ws ws hl
  rw [decide_eq_true rfl] at h
  show Ev (fun k => if q = q then (laws_mSame.f k ws ws).bind fun t => some t else some false) true
  rw [ev_pos rfl, ev_bind h, ev_now]
theorem impl_maskOf.ev_l (l : List Int) (hl : l.length ≤ 9223372036854775807) (hx : ∀ x ∈ l, 0 ≤ x ∧ x ≤ 60) : ∀ (d i m : Nat), i + d = l.length → m < 2 ^ 61 → Ev (fun k => impl_maskOf.l0 k (m : Int) l (l.length : Int) (i : Int)) ((orBits m (l.drop i) : Nat) : Int) := by
  intro d
  induction d with
  | zero =>
    intro i m h hm
    refine ev_step ?_
    simp only [impl_maskOf.l0]
    rw [ev_neg (by omega), ev_now, List.drop_of_length_le (by omega)]
    rfl
  | succ d ih =>
    intro i m h hm
    refine ev_step ?_
    simp only [impl_maskOf.l0]
    have hi : i < l.length := by omega
    have hxi := hx l[i] (List.getElem_mem hi)
    obtain ⟨c, hc⟩ := Int.eq_ofNat_of_zero_le hxi.1
    have hp : 2 ^ c ≤ 2 ^ 60 := Nat.pow_le_pow_right (by omega) (by omega)
    have ho : m ||| 2 ^ c < 2 ^ 61 := Nat.or_lt_two_pow hm (by omega)
    rw [ev_pos (by omega), ev_pos (by omega), ev_pos (by omega), rd_lt l i hi, hc, ev_pos (by omega), w64i (n := l.length) (by omega) (by omega) hl, shl_one c (by omega), or_nat m (2 ^ c) (by omega) (by omega)]
    have := ih (i + 1) (m ||| 2 ^ c) (by omega) ho
    rw [List.drop_eq_getElem_cons hi]
    show Ev _ ((orBits (m ||| 2 ^ l[i].toNat) (l.drop (i + 1)) : Nat) : Int)
    rw [hc]
    exact this
theorem impl_maskOf.ev (l : List Int) (hl : l.length ≤ 9223372036854775807) (hx : ∀ x ∈ l, 0 ≤ x ∧ x ≤ 60) : Ev (fun k => impl_maskOf.f k l) ((maskN l : Nat) : Int) := impl_maskOf.ev_l l hl hx l.length 0 0 (by omega) (by omega)
def popN (m : Nat) : Nat := ((List.range 9).filter (bitB m)).length
theorem popN_or_all : ((List.range 512).all fun m => (List.range 9).all fun x => decide (popN (m ||| 2 ^ x) = popN m + if bitB m x = true then 0 else 1)) = true := by decide +kernel
theorem impl_count_all : ((List.range 512).all fun m => decide (impl_count.f (m : Int) = some ((popN m : Nat) : Int))) = true := by decide +kernel
theorem popN_or {m x : Nat} (hm : m < 512) (hx : x < 9) : popN (m ||| 2 ^ x) = popN m + if bitB m x = true then 0 else 1 := by
  have h := List.all_eq_true.1 popN_or_all m (List.mem_range.2 hm)
  exact of_decide_eq_true (List.all_eq_true.1 h x (List.mem_range.2 hx))
theorem impl_count.v {m : Nat} (hm : m < 512) : impl_count.f (m : Int) = some ((popN m : Nat) : Int) := of_decide_eq_true (List.all_eq_true.1 impl_count_all m (List.mem_range.2 hm))
def newAt (l : List Int) (j : Nat) : Bool := !((l.take j).contains (l.getD j 0))
def orderB (n : Int) (l : List Int) : Bool := decide ((l.length : Int) = n) && ((l.all fun x => decide (0 ≤ x) && decide (x ≤ n - 1)) && (List.range' 0 l.length).all (newAt l))
theorem popN_take (l : List Int) (hx : ∀ x ∈ l, 0 ≤ x ∧ x ≤ 8) : ∀ i, i ≤ l.length → popN (maskN (l.take i)) ≤ i ∧ (popN (maskN (l.take i)) = i ↔ (List.range' 0 i).all (newAt l) = true) := by
  intro i
  induction i with
  | zero => intro _; rw [List.take_zero]; exact ⟨Nat.le_refl 0, by simp [show popN (maskN []) = 0 from rfl]⟩
  | succ i ih =>
    intro h
    obtain ⟨h1, h2⟩ := ih (by omega)
    have hi : i < l.length := by omega
    have hxi := hx l[i] (List.getElem_mem hi)
    have ht : ∀ y ∈ l.take i, 0 ≤ y ∧ y ≤ 8 := fun y hy => hx y (List.mem_of_mem_take hy)
    have hm : maskN (l.take i) < 512 := maskN_lt 9 (l.take i) (fun y hy => by have := ht y hy; omega)
    have e : maskN (l.take (i + 1)) = maskN (l.take i) ||| 2 ^ (l[i]).toNat := by
      rw [List.take_succ_eq_append_getElem hi]
      unfold maskN orBits
      rw [List.foldl_append]
      rfl
    have hb : bitB (maskN (l.take i)) (l[i]).toNat = (l.take i).contains l[i] := by
      rw [bitB_test, maskN_test _ _ (fun y hy => (ht y hy).1), show (((l[i]).toNat : Nat) : Int) = l[i] by omega]
    have hn : newAt l i = !((l.take i).contains l[i]) := by
      unfold newAt
      rw [List.getD_eq_getElem?_getD, List.getElem?_eq_getElem hi, Option.getD_some]
    rw [e, popN_or hm (by omega), hb, List.range'_1_concat, List.all_append, Nat.zero_add, Bool.and_eq_true]
    simp only [List.all_cons, List.all_nil, Bool.and_true, hn]
    generalize popN (maskN (l.take i)) = p at *
    cases (l.take i).contains l[i] with
    | true => simp; omega
    | false =>
      simp only [Bool.not_false, and_true, Bool.false_eq_true, if_false]
      exact ⟨by omega, by rw [← h2]; omega⟩
theorem impl_isOrder.ev (l : List Int) (n : Int) (h1 : 1 ≤ n) (h9 : n ≤ 9) (hl : l.length ≤ 9223372036854775807) : Ev (fun k => impl_isOrder.f k l n) (orderB n l) := by
  simp only [impl_isOrder.f]
  unfold orderB
  by_cases c : (l.length : Int) = n
  · rw [ev_pos c, decide_eq_true c, Bool.true_and, w64 (by omega) (by omega), ev_bind (ev_of (show impl_areIn.f l 0 (n - 1) = some _ from rfl))]
    cases hb : (l.all fun x => decide (0 ≤ x) && decide (x ≤ n - 1)) with
    | false => rw [ev_neg (by decide), ev_now, Bool.false_and]
    | true =>
      have hx : ∀ x ∈ l, 0 ≤ x ∧ x ≤ 8 := fun x h => by
        have := List.all_eq_true.1 hb x h
        simp only [Bool.and_eq_true, decide_eq_true_eq] at this
        omega
      have hm : maskN l < 512 := maskN_lt 9 l (fun y hy => by have := hx y hy; omega)
      obtain ⟨-, h2⟩ := popN_take l hx l.length (Nat.le_refl _)
      rw [List.take_length] at h2
      rw [ev_pos rfl, ev_bind (impl_maskOf.ev l hl (fun x h => by have := hx x h; omega)), ev_bind (ev_of (impl_count.v hm)), ev_now, Bool.true_and, Bool.eq_iff_iff, ← h2, beq_iff_eq]
      omega
  · rw [ev_neg c, ev_now, decide_eq_false c, Bool.false_and]
theorem spec_l1Has.ev_l (l : List Int) (a : Int) (hl : l.length ≤ 9223372036854775807) : ∀ (d i : Nat), i + d = l.length → Ev (fun k => spec_l1Has.l0 k a l (l.length : Int) (i : Int)) ((l.drop i).contains a) := by
  intro d
  induction d with
  | zero =>
    intro i h
    refine ev_step ?_
    simp only [spec_l1Has.l0]
    rw [ev_neg (by omega), ev_now, List.drop_of_length_le (by omega)]
    rfl
  | succ d ih =>
    intro i h
    refine ev_step ?_
    simp only [spec_l1Has.l0]
    have hi : i < l.length := by omega
    rw [ev_pos (by omega), ev_pos (by omega), ev_pos (by omega), rd_lt l i hi, w64i (n := l.length) (by omega) (by omega) hl, List.drop_eq_getElem_cons hi, List.contains_cons]
    by_cases c : l[i] = a
    · rw [ev_pos c, ev_now, c, beq_self_eq_true, Bool.true_or]
    · rw [ev_neg c, beq_eq_false_iff_ne.2 (fun h => c h.symm), Bool.false_or]
      exact ih (i + 1) (by omega)
theorem spec_l1Has.ev (l : List Int) (a : Int) (hl : l.length ≤ 9223372036854775807) : Ev (fun k => spec_l1Has.f k l a) (l.contains a) := spec_l1Has.ev_l l a hl l.length 0 (by omega)
theorem spec_voOrder.ev_l (l : List Int) (hl : l.length ≤ 9223372036854775807) : ∀ (d i : Nat), i + d = l.length → Ev (fun k => spec_voOrder.l0 k l l (l.length : Int) (i : Int)) ((List.range' i d).all (newAt l)) := by
  intro d
  induction d with
  | zero =>
    intro i h
    refine ev_step ?_
    simp only [spec_voOrder.l0]
    rw [ev_neg (by omega), ev_now]
    rfl
  | succ d ih =>
    intro i h
    refine ev_step ?_
    simp only [spec_voOrder.l0]
    have hi : i < l.length := by omega
    have hn : newAt l i = !((l.take i).contains l[i]) := by
      unfold newAt
      rw [List.getD_eq_getElem?_getD, List.getElem?_eq_getElem hi, Option.getD_some]
    rw [ev_pos (by omega), ev_pos (by omega), ev_pos (by omega), ev_pos (by omega), rd_lt l i hi, w64i (n := l.length) (by omega) (by omega) hl, Int.toNat_natCast, ev_bind (spec_l1Has.ev (l.take i) l[i] (by rw [List.length_take]; omega)), List.range'_succ, List.all_cons, hn]
    cases (l.take i).contains l[i] with
    | true => rw [ev_pos rfl, ev_now]; rfl
    | false =>
      rw [ev_neg (by decide)]
      exact ih (i + 1) (by omega)
theorem spec_voOrder.ev (n : Int) (l : List Int) (h1 : 1 ≤ n) (h9 : n ≤ 9) (hl : l.length ≤ 9223372036854775807) : Ev (fun k => spec_voOrder.f k n l) (orderB n l) := by
  have hz : Ev (fun k => spec_voOrder.j0 k l true) false := by
    refine ev_step ?_
    simp only [spec_voOrder.j0]
    rw [ev_pos trivial, ev_now]
  simp only [spec_voOrder.f]
  unfold orderB
  by_cases c : (l.length : Int) = n
  · rw [ev_pos c, decide_eq_true c, Bool.true_and, w64 (by omega) (by omega), ev_bind (spec_l1All.ev l 0 (n - 1) hl)]
    cases hb : (l.all fun x => decide (0 ≤ x) && decide (x ≤ n - 1)) with
    | false => exact hz
    | true =>
      refine ev_step ?_
      simp only [spec_voOrder.j0]
      rw [ev_neg (by decide), Bool.true_and]
      exact spec_voOrder.ev_l l hl l.length 0 (by omega)
  · rw [ev_neg c, decide_eq_false c, Bool.false_and]
    exact hz
theorem nodup_range : ∀ (n : Nat) (l : List Nat), l.Nodup → (∀ x ∈ l, x < n) → l.length = n → l.Perm (List.range n)
  | 0, l, _, _, h => by
    have : l = [] := List.eq_nil_of_length_eq_zero h
    subst this
    exact List.Perm.refl _
  | n + 1, l, hd, hl, h => by
    by_cases hm : n ∈ l
    · have hp := List.perm_cons_erase hm
      have hlen : (l.erase n).length = n := by rw [List.length_erase_of_mem hm]; omega
      have ih := nodup_range n (l.erase n) (hd.erase n) (fun x hx => by
        have h2 := hd.mem_erase_iff.1 hx
        have := hl x h2.2
        omega) hlen
      rw [List.range_succ]
      exact hp.trans ((ih.cons n).trans (List.perm_append_singleton n (List.range n)).symm)
    · exfalso
      have := nodup_le n l hd (fun x hx => by
        have h2 := hl x hx
        have h3 : x ≠ n := fun e => hm (e ▸ hx)
        omega)
      omega
theorem order_facts {n : Nat} {l : List Int} (h : orderB (n : Int) l = true) : l.length = n ∧ (∀ x ∈ l, 0 ≤ x ∧ x < (n : Int)) ∧ (l.map Int.toNat).Nodup ∧ (l.map Int.toNat).Perm (List.range n) := by
  simp only [orderB, Bool.and_eq_true, decide_eq_true_eq] at h
  obtain ⟨h1, h2, h3⟩ := h
  have hin : ∀ x ∈ l, 0 ≤ x ∧ x < (n : Int) := fun x hx => by
    have := List.all_eq_true.1 h2 x hx
    simp only [Bool.and_eq_true, decide_eq_true_eq] at this
    omega
  have hnd : (l.map Int.toNat).Nodup := by
    rw [List.Nodup, List.pairwise_map, List.pairwise_iff_getElem]
    intro i j hi hj hij e
    have h4 := List.all_eq_true.1 h3 j (by rw [List.mem_range'_1]; omega)
    unfold newAt at h4
    rw [List.getD_eq_getElem?_getD, List.getElem?_eq_getElem hj, Option.getD_some, Bool.not_eq_true', List.contains_eq_mem, decide_eq_false_iff_not] at h4
    refine h4 ?_
    have h5 := hin l[i] (List.getElem_mem hi)
    have h6 := hin l[j] (List.getElem_mem hj)
    have h7 : l[i] = l[j] := by omega
    rw [← h7]
    exact List.mem_take_iff_getElem.2 ⟨i, by omega, rfl⟩
  refine ⟨by omega, hin, hnd, nodup_range n _ hnd (fun x hx => ?_) (by rw [List.length_map]; omega)⟩
  obtain ⟨y, hy, rfl⟩ := List.mem_map.1 hx
  have := hin y hy
  omega
theorem order_perm {ws l : List Int} (h : orderB (ws.length : Int) l = true) : (l.map fun i => ws.getD i.toNat 0).Perm ws := by
  obtain ⟨_, _, _, hp⟩ := order_facts h
  have h1 := hp.map (fun i => ws.getD i 0)
  rw [List.map_map] at h1
  have h2 : (List.range ws.length).map (fun i => ws.getD i 0) = ws := by
    refine List.ext_getElem (by simp) (fun i h3 h4 => ?_)
    simp [List.getD_eq_getElem?_getD, h4]
  rw [h2] at h1
  exact h1
theorem bt_txb (l : List UInt8) (i : Nat) (h : i < l.length) : bt (txb l) (i : Int) = ((l[i].toNat : Nat) : Int) := by
  unfold bt
  rw [dif_pos (by rw [txb_size, Int.toNat_natCast]; exact h)]
  simp only [Int.toNat_natCast]
  rfl
theorem txb_inj {a b : List UInt8} (h : txb a = txb b) : a = b := by
  have := congrArg (fun z : ByteArray => z.data.toList) h
  exact this
theorem txb_toList (a b : ByteArray) : a.toList = b.toList ↔ a = b := by
  constructor
  · intro h
    rw [Go.Lib.toList_data, Go.Lib.toList_data] at h
    rw [txb_of a, txb_of b, h]
  · rintro rfl; rfl
theorem txb_extract (l : List UInt8) (a b : Nat) : (txb l).extract a b = txb ((l.drop a).take (b - a)) := by
  rw [txb_of ((txb l).extract a b), Go.Lib.extract_data, txb_data]
theorem rd_txb (L : List (List UInt8)) (j : Nat) (h : j < L.length) : rdOf ByteArray.empty (L.map txb) (j : Int) = txb L[j] := by
  unfold rdOf
  simp [h]
theorem atoi_dgt {n : Nat} (h : n ≤ 9000) : Go.Lib.atoiAll (dgt n) = .ok (n : Int) := by
  have h1 := List.all_eq_true.1 atoi_dgt_all n (List.mem_range.2 (by omega))
  unfold okB at h1
  split at h1
  · next v hv => rw [hv, of_decide_eq_true h1]
  · cases h1
theorem impl_readNumber.hit {n m : Int} (h0 : 0 ≤ n) (h1 : n ≤ m) (hm : m ≤ 9000) : impl_readNumber.f (txb (dgt n.toNat)) m = some (n, true) := by
  have hd := dgt_facts (n := n.toNat) (by omega)
  unfold impl_readNumber.f
  rw [if_pos ⟨by rw [txb_size]; omega, by omega⟩, txb_data, atoi_dgt (by omega)]
  simp only
  rw [if_pos ⟨by omega, by omega⟩, show (((n.toNat : Nat) : Int)).toNat = n.toNat from Int.toNat_natCast _, dgt_eq (by omega)]
  rw [show ((n.toNat : Nat) : Int) = n by omega]
  exact congrArg some (if_pos rfl)
theorem impl_readNumber.is {s : List UInt8} {m : Int} (hs : s.length ≤ 1048576) (hm : m ≤ 9000) : ∃ n ok, impl_readNumber.f (txb s) m = some (n, ok) ∧ (ok = true → 0 ≤ n ∧ n ≤ m ∧ s = dgt n.toNat) := by
  unfold impl_readNumber.f
  rw [if_pos ⟨by rw [txb_size]; exact hs, by omega⟩]
  refine ⟨_, _, rfl, ?_⟩
  split
  · next v hv =>
    split
    · next hv2 =>
      split
      · next ht =>
        intro _
        refine ⟨hv2.1, hv2.2, ?_⟩
        rw [txb_toList] at ht
        rw [dgt_eq (by omega)] at ht
        exact (txb_inj ht).symm
      · intro h; cases h
    · intro h; cases h
  · intro h; cases h
def numN (l : List UInt8) (s : Nat) : Nat := l.foldl (fun s b => 10 * s + (b.toNat - 48)) s
theorem spec_l1Read.ev_l (l : List UInt8) (hl : l.length ≤ 6) (hd : ∀ b ∈ l, 48 ≤ b.toNat ∧ b.toNat ≤ 57) : ∀ (d i s : Nat), i + d = l.length → s < 10 ^ i → Ev (fun k => spec_l1Read.l0 k (txb l) (s : Int) (i : Int)) ((numN (l.drop i) s : Nat) : Int) := by
  have hs := txb_size l
  intro d
  induction d with
  | zero =>
    intro i s h hb
    refine ev_step ?_
    simp only [spec_l1Read.l0]
    rw [ev_neg (by omega), ev_now, List.drop_of_length_le (by omega)]
    rfl
  | succ d ih =>
    intro i s h hb
    refine ev_step ?_
    simp only [spec_l1Read.l0]
    have hi : i < l.length := by omega
    have hx := hd _ (List.getElem_mem hi)
    have hp : 10 ^ (i + 1) = 10 ^ i * 10 := Nat.pow_succ 10 i
    have hp6 : 10 ^ i ≤ 10 ^ 6 := Nat.pow_le_pow_right (by omega) (by omega)
    have hih := ih (i + 1) (10 * s + (l[i].toNat - 48)) (by omega) (by omega)
    have e1 : ((((l[i].toNat : Nat) : Int) - 48) % 256) = ((l[i].toNat - 48 : Nat) : Int) := by omega
    rw [ev_pos (by omega), ev_pos (by omega), bt_txb l i hi, ev_neg (by omega), ev_neg (by omega), e1, w64 (x := 10 * (s : Int)) (by omega) (by omega), w64 (x := (i : Int) + 1) (by omega) (by omega), w64 (by omega) (by omega), List.drop_eq_getElem_cons hi, show 10 * (s : Int) + ((l[i].toNat - 48 : Nat) : Int) = ((10 * s + (l[i].toNat - 48) : Nat) : Int) by omega]
    exact hih
theorem spec_l1Read.ex_l (l : List UInt8) (hl : l.length ≤ 6) : ∀ (d i : Nat) (s : Int), i + d = l.length → ∃ v, Ev (fun k => spec_l1Read.l0 k (txb l) s (i : Int)) v := by
  have hs := txb_size l
  intro d
  induction d with
  | zero =>
    intro i s h
    refine ⟨s, ev_step ?_⟩
    simp only [spec_l1Read.l0]
    rw [ev_neg (by omega), ev_now]
  | succ d ih =>
    intro i s h
    have hi : i < l.length := by omega
    by_cases c1 : bt (txb l) (i : Int) < 48
    · refine ⟨-1, ev_step ?_⟩
      simp only [spec_l1Read.l0]
      rw [ev_pos (by omega), ev_pos (by omega), ev_pos c1, ev_now]
    · by_cases c2 : bt (txb l) (i : Int) > 57
      · refine ⟨-1, ev_step ?_⟩
        simp only [spec_l1Read.l0]
        rw [ev_pos (by omega), ev_pos (by omega), ev_neg c1, ev_pos c2, ev_now]
      · obtain ⟨v, hv⟩ := ih (i + 1) (wrap64 ((wrap64 (10 * s)) + (((bt (txb l) (i : Int)) - 48) % 256))) (by omega)
        refine ⟨v, ev_step ?_⟩
        simp only [spec_l1Read.l0]
        rw [ev_pos (by omega), ev_pos (by omega), ev_neg c1, ev_neg c2, w64 (x := (i : Int) + 1) (by omega) (by omega)]
        exact hv
theorem spec_l1Read.ex (l : List UInt8) : ∃ v, Ev (fun k => spec_l1Read.f k (txb l)) v := by
  have hs := txb_size l
  have hin : spec_l1In.f ((txb l).size : Int) 1 6 = some (decide (1 ≤ l.length) && decide (l.length ≤ 6)) := by
    rw [spec_l1In.v, hs]
    congr 1
    rw [Bool.eq_iff_iff]
    simp only [Bool.and_eq_true, decide_eq_true_eq]
    omega
  simp only [spec_l1Read.f]
  by_cases c : 1 ≤ l.length ∧ l.length ≤ 6
  · have e : (decide (1 ≤ l.length) && decide (l.length ≤ 6)) = true := by rw [decide_eq_true c.1, decide_eq_true c.2]; rfl
    have hj : ∀ b : Bool, ∃ v, Ev (fun k => spec_l1Read.j0 k (txb l) b) v := by
      intro b
      cases b with
      | true =>
        refine ⟨-1, ev_step ?_⟩
        simp only [spec_l1Read.j0]
        rw [ev_pos trivial, ev_now]
      | false =>
        obtain ⟨v, hv⟩ := spec_l1Read.ex_l l c.2 l.length 0 0 (Nat.zero_add _)
        refine ⟨v, ev_step ?_⟩
        simp only [spec_l1Read.j0]
        rw [ev_neg (by decide)]
        exact hv
    by_cases c0 : bt (txb l) 0 = 48
    · obtain ⟨v, hv⟩ := hj (decide (((txb l).size : Int) > 1))
      refine ⟨v, ?_⟩
      rw [ev_bind (ev_of hin), e, ev_pos rfl, ev_pos (by omega), ev_pos c0]
      exact hv
    · obtain ⟨v, hv⟩ := hj false
      refine ⟨v, ?_⟩
      rw [ev_bind (ev_of hin), e, ev_pos rfl, ev_pos (by omega), ev_neg c0]
      exact hv
  · refine ⟨-1, ?_⟩
    have e : (decide (1 ≤ l.length) && decide (l.length ≤ 6)) = false := by
      rw [Bool.eq_false_iff]
      simp only [ne_eq, Bool.and_eq_true, decide_eq_true_eq]
      exact c
    rw [ev_bind (ev_of hin), e, ev_neg (by decide)]
    refine ev_step ?_
    simp only [spec_l1Read.j0]
    rw [ev_pos trivial, ev_now]
def numB (n : Nat) : Bool := decide (numN (dgt n) 0 = n) && (decide ((dgt n).length = 1) || !(decide (((dgt n).getD 0 0).toNat = 48)))
set_option maxRecDepth 100000 in
theorem num_dgt_all : ((List.range 9001).all numB) = true := by decide +kernel
theorem spec_l1Read.hit {n : Int} (h0 : 0 ≤ n) (h : n ≤ 9000) : Ev (fun k => spec_l1Read.f k (txb (dgt n.toNat))) n := by
  obtain ⟨d1, d2, d3⟩ := dgt_facts (n := n.toNat) (by omega)
  have hb := List.all_eq_true.1 num_dgt_all n.toNat (List.mem_range.2 (by omega))
  simp only [numB, Bool.and_eq_true, Bool.or_eq_true, decide_eq_true_eq, Bool.not_eq_true', decide_eq_false_iff_not] at hb
  have hs := txb_size (dgt n.toNat)
  have hin : spec_l1In.f ((txb (dgt n.toNat)).size : Int) 1 6 = some true := by
    rw [spec_l1In.v, hs]
    congr 1
    simp only [Bool.and_eq_true, decide_eq_true_eq]
    omega
  have hl := spec_l1Read.ev_l (dgt n.toNat) (by omega) d3 (dgt n.toNat).length 0 0 (Nat.zero_add _) (by simp)
  rw [List.drop_zero, hb.1, show ((n.toNat : Nat) : Int) = n by omega] at hl
  have hj : Ev (fun k => spec_l1Read.j0 k (txb (dgt n.toNat)) false) n := by
    refine ev_step ?_
    simp only [spec_l1Read.j0]
    rw [ev_neg (by decide)]
    exact hl
  have b0 := bt_txb (dgt n.toNat) 0 (by omega)
  have e0 : (dgt n.toNat).getD 0 0 = (dgt n.toNat)[0]'(by omega) := by
    rw [List.getD_eq_getElem?_getD, List.getElem?_eq_getElem (by omega), Option.getD_some]
  simp only [spec_l1Read.f]
  rw [ev_bind (ev_of hin), ev_pos rfl, ev_pos (by omega), show bt (txb (dgt n.toNat)) 0 = _ from b0]
  by_cases c : (((dgt n.toNat)[0]'(by omega)).toNat : Int) = 48
  · rcases hb.2 with h1 | h1
    · rw [ev_pos c, decide_eq_false (by omega)]
      exact hj
    · rw [e0] at h1
      omega
  · rw [ev_neg c]
    exact hj
def spc (c : UInt8) : List UInt8 → List (List UInt8)
  | [] => [[]]
  | b :: t => if b = c then [] :: spc c t else match spc c t with
    | x :: r => (b :: x) :: r
    | [] => [[b]]
theorem spc_cons (c : UInt8) (l : List UInt8) : ∃ x r, spc c l = x :: r := by
  cases l with
  | nil => exact ⟨_, _, rfl⟩
  | cons b t =>
    unfold spc
    by_cases h : b = c
    · rw [if_pos h]; exact ⟨_, _, rfl⟩
    · rw [if_neg h]
      cases spc c t with
      | nil => exact ⟨_, _, rfl⟩
      | cons x r => exact ⟨_, _, rfl⟩
theorem spc_dot (c : UInt8) (t : List UInt8) : spc c (c :: t) = [] :: spc c t := by rw [spc, if_pos rfl]
theorem spc_else {c b : UInt8} {t x : List UInt8} {r : List (List UInt8)} (h : b ≠ c) (e : spc c t = x :: r) : spc c (b :: t) = (b :: x) :: r := by rw [spc, if_neg h, e]
theorem join_spc (c : UInt8) : ∀ l : List UInt8, Go.Lib.join (spc c l) [c] = l
  | [] => by rw [spc, Go.Lib.join_one]
  | b :: t => by
    obtain ⟨x, r, e⟩ := spc_cons c t
    have ih := join_spc c t
    rw [e, Go.Lib.join_cons] at ih
    by_cases h : b = c
    · subst h
      rw [spc_dot, Go.Lib.join_cons, e, List.nil_append, ← ih]
      simp [Go.Lib.joinTail]
    · rw [spc_else h e, Go.Lib.join_cons, ← ih]
      rfl
theorem spc_one (c : UInt8) : ∀ p : List UInt8, (∀ b ∈ p, b ≠ c) → spc c p = [p]
  | [], _ => rfl
  | b :: p, h => spc_else (h b (List.mem_cons_self ..)) (spc_one c p (fun z hz => h z (List.mem_cons_of_mem _ hz)))
theorem spc_app (c : UInt8) : ∀ (p t : List UInt8), (∀ b ∈ p, b ≠ c) → spc c (p ++ c :: t) = p :: spc c t
  | [], t, _ => spc_dot c t
  | b :: p, t, h => spc_else (h b (List.mem_cons_self ..)) (spc_app c p t (fun z hz => h z (List.mem_cons_of_mem _ hz)))
theorem spc_join (c : UInt8) : ∀ (ps : List (List UInt8)), ps ≠ [] → (∀ p ∈ ps, ∀ b ∈ p, b ≠ c) → spc c (Go.Lib.join ps [c]) = ps
  | [], h, _ => absurd rfl h
  | [p], _, h => by rw [Go.Lib.join_one]; exact spc_one c p (h p (List.mem_cons_self ..))
  | p :: q :: r, _, h => by
    have ih := spc_join c (q :: r) (by simp) (fun x hx => h x (List.mem_cons_of_mem _ hx))
    have e : Go.Lib.join (p :: q :: r) [c] = p ++ c :: Go.Lib.join (q :: r) [c] := by
      rw [Go.Lib.join_cons, Go.Lib.join_cons]
      simp [Go.Lib.joinTail]
    rw [e, spc_app c p _ (h p (List.mem_cons_self ..)), ih]
theorem splitK_spc (c : UInt8) : ∀ l : List UInt8, Go.Lib.splitK [c] 0 (Go.Lib.count l [c]) l = spc c l
  | [] => by rw [Go.Lib.count_one]; rfl
  | b :: t => by
    have ih := splitK_spc c t
    by_cases h : b = c
    · subst h
      have hix : Go.Lib.index (b :: t) [b] = ((0 : Nat) : Int) := by rw [Go.Lib.index]; simp [List.isPrefixOf]
      rw [Go.Lib.count_cons_eq, Nat.add_comm, Go.Lib.splitK, hix, spc_dot]
      simp only [Int.toNat_natCast]
      rw [if_neg (by decide)]
      simp only [Nat.add_zero, List.take_zero, Nat.zero_add, List.length_singleton, List.drop_succ_cons, List.drop_zero, ih]
    · have hp : ([c] : List UInt8).isPrefixOf (b :: t) = false := by simp [List.isPrefixOf, Ne.symm h]
      have hix : Go.Lib.index (b :: t) [c] = if Go.Lib.index t [c] == -1 then -1 else Go.Lib.index t [c] + 1 := by rw [Go.Lib.index, hp]; simp
      rw [Go.Lib.count_cons_ne b c t h]
      by_cases hm : Go.Lib.index t [c] = -1
      · rw [Go.Lib.count_miss hm] at ih ⊢
        have e : spc c t = [t] := by rw [← ih]; rfl
        rw [spc_else h e]
        rfl
      · have hge := Go.Lib.index_ge t [c]
        obtain ⟨j, hj⟩ : ∃ j : Nat, Go.Lib.index t [c] = j := ⟨(Go.Lib.index t [c]).toNat, by omega⟩
        have hix' : Go.Lib.index (b :: t) [c] = ((j + 1 : Nat) : Int) := by rw [hix, if_neg (fun e => hm (beq_iff_eq.1 e)), hj]; omega
        have hc := Go.Lib.count_hit (by simp) hj
        obtain ⟨n, hn⟩ : ∃ n, Go.Lib.count t [c] = n + 1 := ⟨_, by rw [hc, Nat.add_comm]⟩
        rw [hn] at ih ⊢
        rw [Go.Lib.splitK, hj, if_neg (by rw [beq_iff_eq]; omega)] at ih
        rw [Go.Lib.splitK, hix', if_neg (by rw [beq_iff_eq]; omega)]
        simp only [Int.toNat_natCast, Nat.add_zero, List.length_singleton] at ih ⊢
        rw [spc_else h ih.symm]
        simp
theorem strings_Split.vc (c : UInt8) (l : List UInt8) (h : l.length ≤ 1048576) : strings_Split.f (txb l) (txb [c]) = some ((spc c l).map txb) := by
  unfold strings_Split.f
  rw [if_pos ⟨by rw [txb_size]; exact h, by rw [txb_size]; exact Nat.le_refl _⟩]
  congr 1
  have e := Go.Lib.splitB_data (txb [c]) 0 (Go.Lib.countB (txb l) (txb [c])) (txb l)
  have e2 : Go.Lib.splitK (txb [c]).data.toList 0 (Go.Lib.countB (txb l) (txb [c])) (txb l).data.toList = spc c l := splitK_spc c l
  rw [e2] at e
  rw [← e, List.map_map]
  conv => lhs; rw [← List.map_id (Go.Lib.splitB (txb [c]) 0 (Go.Lib.countB (txb l) (txb [c])) (txb l))]
  exact List.map_congr_left (fun a _ => txb_of a)
theorem spec_l1Split.evc_l (c : UInt8) (l : List UInt8) (hl : l.length ≤ 1048576) : ∀ (d i j : Nat) (out x : List (List UInt8)) (y : List UInt8) (r : List (List UInt8)), i + d = l.length → j ≤ i → out.length ≤ i → spc c (l.drop i) = y :: r → Ev (fun k => spec_l1Split.l0 k (txb l) ((c.toNat : Nat) : Int) (out.map txb) (j : Int) (i : Int)) ((out ++ (((l.drop j).take (i - j) ++ y) :: r)).map txb) := by
  have hs := txb_size l
  intro d
  induction d with
  | zero =>
    intro i j out x y r h hj ho he
    refine ev_step ?_
    simp only [spec_l1Split.l0]
    rw [List.drop_of_length_le (by omega)] at he
    simp only [spc, List.cons.injEq] at he
    obtain ⟨rfl, rfl⟩ := he
    rw [ev_neg (by omega), ev_pos (by omega), ev_pos (by omega), ev_pos (by rw [List.length_map]; omega), ev_now, Int.toNat_natCast, txb_extract, hs, List.append_nil, List.map_append, List.map_singleton, show i - j = l.length - j by omega]
  | succ d ih =>
    intro i j out x y r h hj ho he
    refine ev_step ?_
    simp only [spec_l1Split.l0]
    have hi : i < l.length := by omega
    have hb := l[i].toNat_lt
    rw [List.drop_eq_getElem_cons hi] at he
    obtain ⟨y', r', e'⟩ := spc_cons c (l.drop (i + 1))
    rw [ev_pos (by omega), ev_pos (by omega), bt_txb l i hi]
    by_cases hcc : l[i] = c
    · rw [hcc, spc_dot, e'] at he
      obtain ⟨rfl, rfl⟩ := List.cons.inj he
      have hih := ih (i + 1) (i + 1) (out ++ [(l.drop j).take (i - j)]) x y' r' (by omega) (Nat.le_refl _) (by rw [List.length_append, List.length_singleton]; omega) e'
      rw [Nat.sub_self, List.take_zero, List.nil_append, List.append_assoc, List.singleton_append, List.map_append, List.map_singleton] at hih
      rw [ev_pos (by rw [hcc]), ev_pos (by omega), ev_pos (by omega), ev_pos (by omega), ev_pos (by rw [List.length_map]; omega), Int.toNat_natCast, Int.toNat_natCast, txb_extract, w64 (x := (i : Int) + 1) (by omega) (by omega), List.append_nil]
      exact hih
    · rw [spc_else hcc e'] at he
      obtain ⟨rfl, rfl⟩ := List.cons.inj he
      have hih := ih (i + 1) j out x y' r' (by omega) (by omega) (by omega) e'
      have e3 : (l.drop j).take (i + 1 - j) = (l.drop j).take (i - j) ++ [l[i]] := by
        rw [show i + 1 - j = (i - j) + 1 by omega, List.take_succ_eq_append_getElem (by rw [List.length_drop]; omega), List.getElem_drop]
        congr 2
        congr 1
        omega
      rw [e3, List.append_assoc, List.singleton_append] at hih
      have c46 : ¬ ((l[i].toNat : Nat) : Int) = ((c.toNat : Nat) : Int) := fun h => hcc (by
        have h2 : l[i].toNat = c.toNat := by omega
        exact UInt8.toNat.inj h2)
      rw [ev_neg c46, w64 (x := (i : Int) + 1) (by omega) (by omega)]
      exact hih
theorem spec_l1Split.evc (c : UInt8) (l : List UInt8) (hl : l.length ≤ 1048576) : Ev (fun k => spec_l1Split.f k (txb l) ((c.toNat : Nat) : Int)) ((spc c l).map txb) := by
  obtain ⟨y, r, e⟩ := spc_cons c l
  have h := spec_l1Split.evc_l c l hl l.length 0 0 [] [] y r (Nat.zero_add _) (Nat.le_refl _) (Nat.le_refl _) e
  simp only [List.drop_zero, Nat.sub_self, List.take_zero, List.nil_append, List.map_nil] at h
  rw [e]
  exact h
end Go.Proofs.YtaambkdiokbdgacGreatDoor.Q
