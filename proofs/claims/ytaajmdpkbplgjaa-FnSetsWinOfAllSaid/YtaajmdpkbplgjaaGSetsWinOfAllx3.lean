/- Printed functions, their contracts and plain facts on them: QLawsFnSetsWinOfAll; PSetN; PAndNot; PVotesOf; PHas; PWeight; PCommitteeVotes; PSumOf; PWithin; PIsCommittee; PSperner; PSetFacts; PMasks; POneOf; PL1In; PVoSum. Conditions: as each theorem states. -/
import Derived.Test.YtaajmdpkbplgjaaGSetsWinOfAllx0
import Derived.Test.YtaajmdpkbplgjaaGSetsWinOfAllx1
import Derived.Test.YtaajmdpkbplgjaaGSetsWinOfAllx2
namespace Go.Proofs.Ytaajmdpkbplgjaa.Q
open Go.RowKit Go.Proofs.YtaajmdpkbplgjaaX Go.Proofs.YtaajmdpkbplgjaaX Go.Proofs.YtaajmdpkbplgjaaW.PrintWords Go.Proofs.YtaajmdpkbplgjaaW.PrintLast Go.Proofs.YtaajmdpkbplgjaaW.PrintMore
attribute [local go_sem] max2_int min2_int max_two min_two max_three min_three max_four min_four   -- for this text's walks alone
set_option linter.unusedVariables false
set_option linter.unusedSimpArgs false
set_option maxHeartbeats 8000000 in
set_option maxRecDepth 100000 in
theorem laws_FnSetsWinOfAll.calls (k : Nat) (a0_0 : Int) (A0_1 : Option Addr) (c0_1 : Nat) (l0_1 : List Int) (A1 : Option Addr) (c1 : Nat) (l1 : List Int) (a2_0 : Int) (A2_1 : Option Addr) (c2_1 : Nat) (l2_1 : List Int) (r : Bool) (w : World) (hr0_1 : Kd.C (Kd.int .i64) w A0_1 l0_1.length l0_1) (hc0_1 : l0_1.length ≤ c0_1) (hr1 : Kd.C (Kd.int .i64) w A1 l1.length l1) (hc1 : l1.length ≤ c1) (hr2_1 : Kd.C (Kd.int .i64) w A2_1 l2_1.length l2_1) (hc2_1 : l2_1.length ≤ c2_1) (h : laws_FnSetsWinOfAll.f k a0_0 l0_1 l1 a2_0 l2_1 = some r) :
  Calls Try.prog 4 #[.agg #[.int .i64 a0_0, .slice A0_1 l0_1.length c0_1], .slice A1 l1.length c1, .agg #[.int .i64 a2_0, .slice A2_1 l2_1.length c2_1]] w fun e w' => e = .returned (.bool r) ∧ Below w.heap.size w w' := by
 have hu38 := Try.underlying38
 have HR0_1 := Aside0.mk hr0_1
 have HC0_1 := Aside0.mk hc0_1
 clear hr0_1 hc0_1
 have HR1 := Aside0.mk hr1
 have HC1 := Aside0.mk hc1
 clear hr1 hc1
 have HR2_1 := Aside0.mk hr2_1
 have HC2_1 := Aside0.mk hc2_1
 clear hr2_1 hc2_1
 have HB := Aside0.mk (Below.refl w.heap.size w)
 have H : (if (l1.length : Int) > 10000 then (some true) else ((impl_IsWinning.f k a0_0 l0_1 l1).bind fun bt103 => ((spec_IsWinning.f k a0_0 l0_1 l1).bind fun bt105 => ((impl_IsBlocking.f k a0_0 l0_1 l1).bind fun bt107 => ((spec_IsBlocking.f k a0_0 l0_1 l1).bind fun bt109 => ((impl_WeightOfSet.f k a0_0 l0_1 l1).bind fun bt111 => ((spec_WeightOfSet.f k a0_0 l0_1 l1).bind fun bt113 => ((impl_TotalWeight.f k a0_0 l0_1).bind fun bt115 => ((spec_TotalWeight.f k a0_0 l0_1).bind fun bt117 => (if (bt103.2 != bt105.2) = true then (none) else (if (bt103.1 != bt105.1) = true then (none) else (if (bt107.2 != bt109.2) = true then (none) else (if (bt107.1 != bt109.1) = true then (none) else (if (bt111.2 != bt113.2) = true then (none) else (if bt111.1 = bt113.1 then (if (bt115.2 != bt117.2) = true then (none) else (if bt115.1 = bt117.1 then (if (bt107.2 != bt103.2) = true then (none) else (if (bt111.2 != bt103.2) = true then (none) else (if bt103.2 = true then (if bt115.2 = true then ((impl_IsCommittee.f k a0_0 l0_1).bind fun t119 => (if (bt115.2 != t119) = true then (none) else ((impl_IsCommittee.f k a0_0 l0_1).bind fun t120 => ((spec_IsCommittee.f k a0_0 l0_1).bind fun t121 => (laws_FnSetsWinOfAll.j0 k l1 bt103.1 bt103.2 bt107.1 bt111.1 bt115.1 (t120 != t121) a0_0 l0_1 a2_0 l2_1))))) else (none)) else ((impl_IsCommittee.f k a0_0 l0_1).bind fun t122 => (if (bt115.2 != t122) = true then (none) else ((impl_IsCommittee.f k a0_0 l0_1).bind fun t123 => ((spec_IsCommittee.f k a0_0 l0_1).bind fun t124 => (laws_FnSetsWinOfAll.j0 k l1 bt103.1 bt103.2 bt107.1 bt111.1 bt115.1 (t123 != t124) a0_0 l0_1 a2_0 l2_1)))))))) else (none))) else (none)))))))))))))))) = some r := h
 clear h
 by_cases c4 : (l1.length : Int) > 10000
 ·rw [if_pos c4] at H
  have c4b0 : decide (10000 < (l1.length : Int)) = true := decide_eq_true c4
  have c4b1 : decide (10000 < l1.length) = true := decide_eq_true (by omega)
  clear c4
  as_aux_lemma =>
   obtain rfl := Option.some.inj H
   go_enter Try.func4, Try.ntmps4
   go_wp2_with (first | ((with_reducible refine gate_dst (N := 3) rfl ?_); (try (refine gate_guard (by rfl) ?_; dsimp only)); refine box_event ?hg (N := 3) ?hd (cs := #[.int .i64 a0_0, .slice A0_1 l0_1.length c0_1]) (t := 38) ?hr ?_; (case hd => rfl); (case hg => rfl); (case hr => first | (go_simp; done) | (go_simp; rfl)); intro gb101 hg w5 hbox hb; have BK101 := Aside0.mk (hbox); have GW101 := Aside0.mk ((by rw [hg]; exact (below_size HB.out) : w.heap.size ≤ gb101)); have GE101 := Aside0.mk ((by rw [hg]; exact (below_size HB.out) : w.heap.size ≤ gb101)); replace HB := Aside0.mk (below_step HB.out hb); clear hb hbox hg) | ((with_reducible refine gate_dst (N := 5) rfl ?_); (try (refine gate_guard (by rfl) ?_; dsimp only)); refine box_event ?hg (N := 5) ?hd (cs := #[.int .i64 a2_0, .slice A2_1 l2_1.length c2_1]) (t := 38) ?hr ?_; (case hd => rfl); (case hg => rfl); (case hr => first | (go_simp; done) | (go_simp; rfl)); intro gb102 hg w6 hbox hb; have BK102 := Aside0.mk (hbox); have GW102 := Aside0.mk ((by rw [hg]; exact (below_size HB.out) : w.heap.size ≤ gb102)); have GE102 := Aside0.mk ((by rw [hg]; exact (below_size HB.out) : w.heap.size ≤ gb102)); have NB101_102 := Aside0.mk ((by rw [hg]; exact Nat.ne_of_lt (blk_lt BK101.out) : gb101 ≠ gb102)); have NB102_101 := Aside0.mk ((by rw [hg]; exact Nat.ne_of_gt (blk_lt BK101.out) : gb102 ≠ gb101)); replace BK101 := Aside0.mk (blk_below BK101.out hb); replace HB := Aside0.mk (below_step HB.out hb); clear hb hbox hg))
   go_ret
   exact ⟨by first | rfl | (simp <;> rfl) | (simp [*] <;> rfl), by repeat (first | (with_reducible first | exact HB.out | apply ba | apply bd | apply be | refine bs ?_ GE101.out | refine bs ?_ GE102.out) | exact HB.out)⟩
 ·rw [if_neg c4] at H
  have c4b0 : decide (10000 < (l1.length : Int)) = false := decide_eq_false c4
  have c4b1 : decide (10000 < l1.length) = false := decide_eq_false (by omega)
  clear c4
  replace H := oB H
  obtain ⟨⟨t103, t104⟩, A70, H⟩ := H
  (try dsimp only at H)
  have A7 := Aside0.mk A70
  clear A70
  replace H := oB H
  obtain ⟨⟨t105, t106⟩, A80, H⟩ := H
  (try dsimp only at H)
  have A8 := Aside0.mk A80
  clear A80
  replace H := oB H
  obtain ⟨⟨t107, t108⟩, A90, H⟩ := H
  (try dsimp only at H)
  have A9 := Aside0.mk A90
  clear A90
  replace H := oB H
  obtain ⟨⟨t109, t110⟩, A100, H⟩ := H
  (try dsimp only at H)
  have A10 := Aside0.mk A100
  clear A100
  replace H := oB H
  obtain ⟨⟨t111, t112⟩, A110, H⟩ := H
  (try dsimp only at H)
  have A11 := Aside0.mk A110
  clear A110
  replace H := oB H
  obtain ⟨⟨t113, t114⟩, A120, H⟩ := H
  (try dsimp only at H)
  have A12 := Aside0.mk A120
  clear A120
  replace H := oB H
  obtain ⟨⟨t115, t116⟩, A130, H⟩ := H
  (try dsimp only at H)
  have A13 := Aside0.mk A130
  clear A130
  replace H := oB H
  obtain ⟨⟨t117, t118⟩, A140, H⟩ := H
  (try dsimp only at H)
  have A14 := Aside0.mk A140
  clear A140
  have HC15 := Aside0.mk H
  clear H
  go_enter Try.func4, Try.ntmps4
  go_upto_region 3 with (first | ((with_reducible refine gate_dst (N := 3) rfl ?_); (try (refine gate_guard (by rfl) ?_; dsimp only)); refine box_event ?hg (N := 3) ?hd (cs := #[.int .i64 a0_0, .slice A0_1 l0_1.length c0_1]) (t := 38) ?hr ?_; (case hd => rfl); (case hg => rfl); (case hr => first | (go_simp; done) | (go_simp; rfl)); intro gb101 hg w16 hbox hb; have BK101 := Aside0.mk (hbox); have GW101 := Aside0.mk ((by rw [hg]; exact (below_size HB.out) : w.heap.size ≤ gb101)); have GE101 := Aside0.mk ((by rw [hg]; exact (below_size HB.out) : w.heap.size ≤ gb101)); replace HB := Aside0.mk (below_step HB.out hb); clear hb hbox hg) | ((with_reducible refine gate_dst (N := 5) rfl ?_); (try (refine gate_guard (by rfl) ?_; dsimp only)); refine box_event ?hg (N := 5) ?hd (cs := #[.int .i64 a2_0, .slice A2_1 l2_1.length c2_1]) (t := 38) ?hr ?_; (case hd => rfl); (case hg => rfl); (case hr => first | (go_simp; done) | (go_simp; rfl)); intro gb102 hg w17 hbox hb; have BK102 := Aside0.mk (hbox); have GW102 := Aside0.mk ((by rw [hg]; exact (below_size HB.out) : w.heap.size ≤ gb102)); have GE102 := Aside0.mk ((by rw [hg]; exact (below_size HB.out) : w.heap.size ≤ gb102)); have NB101_102 := Aside0.mk ((by rw [hg]; exact Nat.ne_of_lt (blk_lt BK101.out) : gb101 ≠ gb102)); have NB102_101 := Aside0.mk ((by rw [hg]; exact Nat.ne_of_gt (blk_lt BK101.out) : gb102 ≠ gb101)); replace BK101 := Aside0.mk (blk_below BK101.out hb); replace HB := Aside0.mk (below_step HB.out hb); clear hb hbox hg; have hnb18 := NB101_102.out; have hnc18 := NB102_101.out; have hcz19_0 : w17.cell? ⟨gb101, 0, none⟩ = some (.int .i64 a0_0) := (blk_cell BK101.out 0).trans rfl; have hcz19_1 : w17.cell? ⟨gb101, 1, none⟩ = some (.slice A0_1 l0_1.length c0_1) := (blk_cell BK101.out 1).trans rfl; have hfz19_0 := blk_frozen BK101.out 0; have hfz19_1 := blk_frozen BK101.out 1))
  go_upto_region 4 with (first | ((with_reducible refine gate_callee (f := 16) rfl ?_); refine goesL_ (some 57) rfl rfl Try.func16 (by kernel_rfl) rfl #[.agg #[.int .i64 a0_0, .slice A0_1 l0_1.length c0_1], .slice A1 l1.length c1] rfl (by (try simp only [mA, mC, mN]); first | done | rfl) ?_; (with_reducible refine (impl_IsWinning.calls k a0_0 _ _ l0_1 _ _ l1 t103 t104 _ (Kd.C_below HR0_1.out HB.out) HC0_1.out (Kd.C_below HR1.out HB.out) HC1.out A7.out).mono ?_); rintro e w20 ⟨rfl, hb⟩; refine ⟨_, rfl, ?_⟩; replace BK101 := Aside0.mk (blk_below BK101.out hb); replace BK102 := Aside0.mk (blk_below BK102.out hb); replace HB := Aside0.mk (below_step HB.out hb); (try clear hb); (try clear hcz19_0 hcz19_1 hfz19_0 hfz19_1); have hcz21_0 : w20.cell? ⟨gb101, 0, none⟩ = some (.int .i64 a0_0) := (blk_cell BK101.out 0).trans rfl; have hcz21_1 : w20.cell? ⟨gb101, 1, none⟩ = some (.slice A0_1 l0_1.length c0_1) := (blk_cell BK101.out 1).trans rfl; have hfz21_0 := blk_frozen BK101.out 0; have hfz21_1 := blk_frozen BK101.out 1))
  go_upto_region 5 with (first | ((with_reducible refine gate_callee (f := 17) rfl ?_); refine goesL_ (some 63) rfl rfl Try.func17 (by kernel_rfl) rfl #[.agg #[.int .i64 a0_0, .slice A0_1 l0_1.length c0_1], .slice A1 l1.length c1] rfl (by (try simp only [mA, mC, mN]); first | done | rfl) ?_; (with_reducible refine (spec_IsWinning.calls k a0_0 _ _ l0_1 _ _ l1 t105 t106 _ (Kd.C_below HR0_1.out HB.out) HC0_1.out (Kd.C_below HR1.out HB.out) HC1.out A8.out).mono ?_); rintro e w22 ⟨rfl, hb⟩; refine ⟨_, rfl, ?_⟩; replace BK101 := Aside0.mk (blk_below BK101.out hb); replace BK102 := Aside0.mk (blk_below BK102.out hb); replace HB := Aside0.mk (below_step HB.out hb); (try clear hb); (try clear hcz21_0 hcz21_1 hfz21_0 hfz21_1); have hcz23_0 : w22.cell? ⟨gb101, 0, none⟩ = some (.int .i64 a0_0) := (blk_cell BK101.out 0).trans rfl; have hcz23_1 : w22.cell? ⟨gb101, 1, none⟩ = some (.slice A0_1 l0_1.length c0_1) := (blk_cell BK101.out 1).trans rfl; have hfz23_0 := blk_frozen BK101.out 0; have hfz23_1 := blk_frozen BK101.out 1))
  go_upto_region 6 with (first | ((with_reducible refine gate_callee (f := 18) rfl ?_); refine goesL_ (some 69) rfl rfl Try.func18 (by kernel_rfl) rfl #[.agg #[.int .i64 a0_0, .slice A0_1 l0_1.length c0_1], .slice A1 l1.length c1] rfl (by (try simp only [mA, mC, mN]); first | done | rfl) ?_; (with_reducible refine (impl_IsBlocking.calls k a0_0 _ _ l0_1 _ _ l1 t107 t108 _ (Kd.C_below HR0_1.out HB.out) HC0_1.out (Kd.C_below HR1.out HB.out) HC1.out A9.out).mono ?_); rintro e w24 ⟨rfl, hb⟩; refine ⟨_, rfl, ?_⟩; replace BK101 := Aside0.mk (blk_below BK101.out hb); replace BK102 := Aside0.mk (blk_below BK102.out hb); replace HB := Aside0.mk (below_step HB.out hb); (try clear hb); (try clear hcz23_0 hcz23_1 hfz23_0 hfz23_1); have hcz25_0 : w24.cell? ⟨gb101, 0, none⟩ = some (.int .i64 a0_0) := (blk_cell BK101.out 0).trans rfl; have hcz25_1 : w24.cell? ⟨gb101, 1, none⟩ = some (.slice A0_1 l0_1.length c0_1) := (blk_cell BK101.out 1).trans rfl; have hfz25_0 := blk_frozen BK101.out 0; have hfz25_1 := blk_frozen BK101.out 1))
  go_upto_region 7 with (first | ((with_reducible refine gate_callee (f := 19) rfl ?_); refine goesL_ (some 75) rfl rfl Try.func19 (by kernel_rfl) rfl #[.agg #[.int .i64 a0_0, .slice A0_1 l0_1.length c0_1], .slice A1 l1.length c1] rfl (by (try simp only [mA, mC, mN]); first | done | rfl) ?_; (with_reducible refine (spec_IsBlocking.calls k a0_0 _ _ l0_1 _ _ l1 t109 t110 _ (Kd.C_below HR0_1.out HB.out) HC0_1.out (Kd.C_below HR1.out HB.out) HC1.out A10.out).mono ?_); rintro e w26 ⟨rfl, hb⟩; refine ⟨_, rfl, ?_⟩; replace BK101 := Aside0.mk (blk_below BK101.out hb); replace BK102 := Aside0.mk (blk_below BK102.out hb); replace HB := Aside0.mk (below_step HB.out hb); (try clear hb); (try clear hcz25_0 hcz25_1 hfz25_0 hfz25_1); have hcz27_0 : w26.cell? ⟨gb101, 0, none⟩ = some (.int .i64 a0_0) := (blk_cell BK101.out 0).trans rfl; have hcz27_1 : w26.cell? ⟨gb101, 1, none⟩ = some (.slice A0_1 l0_1.length c0_1) := (blk_cell BK101.out 1).trans rfl; have hfz27_0 := blk_frozen BK101.out 0; have hfz27_1 := blk_frozen BK101.out 1))
  go_upto_region 8 with (first | ((with_reducible refine gate_callee (f := 20) rfl ?_); refine goesL_ (some 81) rfl rfl Try.func20 (by kernel_rfl) rfl #[.agg #[.int .i64 a0_0, .slice A0_1 l0_1.length c0_1], .slice A1 l1.length c1] rfl (by (try simp only [mA, mC, mN]); first | done | rfl) ?_; (with_reducible refine (impl_WeightOfSet.calls k a0_0 _ _ l0_1 _ _ l1 t111 t112 _ (Kd.C_below HR0_1.out HB.out) HC0_1.out (Kd.C_below HR1.out HB.out) HC1.out A11.out).mono ?_); rintro e w28 ⟨rfl, hb⟩; refine ⟨_, rfl, ?_⟩; replace BK101 := Aside0.mk (blk_below BK101.out hb); replace BK102 := Aside0.mk (blk_below BK102.out hb); replace HB := Aside0.mk (below_step HB.out hb); (try clear hb); (try clear hcz27_0 hcz27_1 hfz27_0 hfz27_1); have hcz29_0 : w28.cell? ⟨gb101, 0, none⟩ = some (.int .i64 a0_0) := (blk_cell BK101.out 0).trans rfl; have hcz29_1 : w28.cell? ⟨gb101, 1, none⟩ = some (.slice A0_1 l0_1.length c0_1) := (blk_cell BK101.out 1).trans rfl; have hfz29_0 := blk_frozen BK101.out 0; have hfz29_1 := blk_frozen BK101.out 1))
  go_upto_region 9 with (first | ((with_reducible refine gate_callee (f := 21) rfl ?_); refine goesL_ (some 87) rfl rfl Try.func21 (by kernel_rfl) rfl #[.agg #[.int .i64 a0_0, .slice A0_1 l0_1.length c0_1], .slice A1 l1.length c1] rfl (by (try simp only [mA, mC, mN]); first | done | rfl) ?_; (with_reducible refine (spec_WeightOfSet.calls k a0_0 _ _ l0_1 _ _ l1 t113 t114 _ (Kd.C_below HR0_1.out HB.out) HC0_1.out (Kd.C_below HR1.out HB.out) HC1.out A12.out).mono ?_); rintro e w30 ⟨rfl, hb⟩; refine ⟨_, rfl, ?_⟩; replace BK101 := Aside0.mk (blk_below BK101.out hb); replace BK102 := Aside0.mk (blk_below BK102.out hb); replace HB := Aside0.mk (below_step HB.out hb); (try clear hb); (try clear hcz29_0 hcz29_1 hfz29_0 hfz29_1); have hcz31_0 : w30.cell? ⟨gb101, 0, none⟩ = some (.int .i64 a0_0) := (blk_cell BK101.out 0).trans rfl; have hcz31_1 : w30.cell? ⟨gb101, 1, none⟩ = some (.slice A0_1 l0_1.length c0_1) := (blk_cell BK101.out 1).trans rfl; have hfz31_0 := blk_frozen BK101.out 0; have hfz31_1 := blk_frozen BK101.out 1))
  go_upto_region 10 with (first | ((with_reducible refine gate_callee (f := 22) rfl ?_); refine goesL_ (some 92) rfl rfl Try.func22 (by kernel_rfl) rfl #[.agg #[.int .i64 a0_0, .slice A0_1 l0_1.length c0_1]] rfl (by (try simp only [mA, mC, mN]); first | done | rfl) ?_; (with_reducible refine (impl_TotalWeight.calls k a0_0 _ _ l0_1 t115 t116 _ (Kd.C_below HR0_1.out HB.out) HC0_1.out A13.out).mono ?_); rintro e w32 ⟨rfl, hb⟩; refine ⟨_, rfl, ?_⟩; replace BK101 := Aside0.mk (blk_below BK101.out hb); replace BK102 := Aside0.mk (blk_below BK102.out hb); replace HB := Aside0.mk (below_step HB.out hb); (try clear hb); (try clear hcz31_0 hcz31_1 hfz31_0 hfz31_1); have hcz33_0 : w32.cell? ⟨gb101, 0, none⟩ = some (.int .i64 a0_0) := (blk_cell BK101.out 0).trans rfl; have hcz33_1 : w32.cell? ⟨gb101, 1, none⟩ = some (.slice A0_1 l0_1.length c0_1) := (blk_cell BK101.out 1).trans rfl; have hfz33_0 := blk_frozen BK101.out 0; have hfz33_1 := blk_frozen BK101.out 1))
  go_upto_region 11 with (first | ((with_reducible refine gate_callee (f := 23) rfl ?_); refine goesL_ (some 97) rfl rfl Try.func23 (by kernel_rfl) rfl #[.agg #[.int .i64 a0_0, .slice A0_1 l0_1.length c0_1]] rfl (by (try simp only [mA, mC, mN]); first | done | rfl) ?_; (with_reducible refine (spec_TotalWeight.calls k a0_0 _ _ l0_1 t117 t118 _ (Kd.C_below HR0_1.out HB.out) HC0_1.out A14.out).mono ?_); rintro e w34 ⟨rfl, hb⟩; refine ⟨_, rfl, ?_⟩; replace BK101 := Aside0.mk (blk_below BK101.out hb); replace BK102 := Aside0.mk (blk_below BK102.out hb); replace HB := Aside0.mk (below_step HB.out hb); (try clear hb)))
  (try simp only [Act.put, sA, sZ, sS])
  refine cutT_ [F,F,F,F,F,F,F,F,F,F,F,F,F,F,F,F,F,F,F,F,F,F,F,F,F,F,F,F,F,F,F,F,F,F,F,F,F,F,F,F,F,F,F,F,F,F,F,F,F,F,F,F,F,F,F,F,F,F,F,F,F,F,F,F,F,F,F,F,F,F,F,F,F,F,F,F,F,F,F,F,F,F,F,F,F,F,F,F,F,F,F,F,F,F,F,F,F,F,F,F,T,T,T,T,T,T,T,T,T,T,T,T,T,T,T,T,T,T,T,T,T,T,T,T,T,T,T,T,T,T,T,T,T,T,T,T,T,T,T,T,T,T,T,T,T,T,T,T,T,T,T,T,T,T,T,T,T,T,T,T,T,T,T,T,T,T,T,T] (fun T_ wc_ => (fun v167 wc => ∃ (kq : Nat) (x167_14 : Bool), v167 = .bool x167_14 ∧ Aside0 (laws_FnSetsWinOfAll.j0 kq l1 t103 t104 t107 t111 t115 x167_14 a0_0 l0_1 a2_0 l2_1 = some r) ∧ Aside0 (kq ≤ k) ∧ Aside0 (wc.heap[gb101]? = some (.cells #[.int .i64 a0_0, (.slice A0_1 l0_1.length c0_1)] 38 (0, 0))) ∧ Aside0 (wc.heap[gb102]? = some (.cells #[.int .i64 a2_0, (.slice A2_1 l2_1.length c2_1)] 38 (0, 0))) ∧ Aside0 (Below w.heap.size w wc)) (T_ 167) wc_) ?rest ?first
  case first => as_aux_lemma =>
   intro J_ K_ hJ_j0 hM_
   have H := HC15.out
   clear HC15
   replace H := ite_no H
   obtain ⟨c35, H⟩ := H
   replace c35 := of_nbne c35
   subst t104
   (try simp only [bne_self_eq_false])
   replace H := ite_no H
   obtain ⟨c36, H⟩ := H
   replace c36 := of_nbne c36
   subst t103
   replace H := ite_no H
   obtain ⟨c37, H⟩ := H
   replace c37 := of_nbne c37
   subst t108
   replace H := ite_no H
   obtain ⟨c38, H⟩ := H
   replace c38 := of_nbne c38
   subst t107
   replace H := ite_no H
   obtain ⟨c39, H⟩ := H
   replace c39 := of_nbne c39
   subst t112
   replace H := ite_yes H
   obtain ⟨c40, H⟩ := H
   have c40b0 : (t111 == t113) = true := beq_iff_eq.mpr c40
   have c40b1 : (t111 != t113) = false := bne_eq_false_iff_eq.mpr c40
   clear c40
   replace H := ite_no H
   obtain ⟨c41, H⟩ := H
   replace c41 := of_nbne c41
   subst t116
   replace H := ite_yes H
   obtain ⟨c42, H⟩ := H
   have c42b0 : (t115 == t117) = true := beq_iff_eq.mpr c42
   have c42b1 : (t115 != t117) = false := bne_eq_false_iff_eq.mpr c42
   clear c42
   replace H := ite_no H
   obtain ⟨c43, H⟩ := H
   replace c43 := of_nbne c43
   subst t110
   replace H := ite_no H
   obtain ⟨c44, H⟩ := H
   replace c44 := of_nbne c44
   subst t114
   by_cases c45 : t106 = true
   ·subst c45
    have H1 : (if t118 = true then ((impl_IsCommittee.f k a0_0 l0_1).bind fun t119 => (if (t118 != t119) = true then (none) else ((impl_IsCommittee.f k a0_0 l0_1).bind fun t120 => ((spec_IsCommittee.f k a0_0 l0_1).bind fun t121 => (laws_FnSetsWinOfAll.j0 k l1 t105 true t109 t111 t115 (t120 != t121) a0_0 l0_1 a2_0 l2_1))))) else (none)) = some r := by rw [if_pos rfl] at H; exact H
    clear H
    have H := H1
    clear H1
    replace H := ite_yes H
    obtain ⟨c46, H⟩ := H
    subst c46
    replace H := oB H
    obtain ⟨t119, A470, H⟩ := H
    (try dsimp only at H)
    have A47 := Aside0.mk A470
    clear A470
    replace H := ite_no H
    obtain ⟨c48, H⟩ := H
    have c48b0 : (true != t119) = false := by simpa using c48
    (try (have c48b1 : decide (true = t119) = true := by simpa using c48))
    (try (have c48b2 : (true == t119) = true := by simpa using c48))
    clear c48
    replace H := oB H
    obtain ⟨t120, A490, H⟩ := H
    (try dsimp only at H)
    have A49 := Aside0.mk A490
    clear A490
    replace H := oB H
    obtain ⟨t121, A500, H⟩ := H
    (try dsimp only at H)
    have A50 := Aside0.mk A500
    clear A500
    as_aux_lemma =>
     have H' := Aside0.mk H
     clear H
     try go_wp2
     replace BK101 := Aside0.mk (blk_drew BK101.out)
     replace BK102 := Aside0.mk (blk_drew BK102.out)
     replace HB := Aside0.mk (below_drew1 HB.out)
     refine start_ (n := 68) (S := fun w' => w'.cell? ⟨gb101, 0, none⟩ = some (.int .i64 a0_0) ∧ w'.cell? ⟨gb101, 1, none⟩ = some (.slice A0_1 l0_1.length c0_1)) (ds := []) #[F,F,F,F,F,F,F,F,F,F,F,F,F,F,F,F,F,F,F,F,F,F,F,F,F,F,F,F,F,F,F,F,F,F,F,F,F,F,F,F,F,F,F,F,F,F,F,F,F,F,F,F,F,F,F,F,F,F,F,F,F,F,F,F,F,F,F,F] (by kernel_rfl) rfl rfl ⟨(blk_cell BK101.out 0).trans rfl, (blk_cell BK101.out 1).trans rfl⟩ (fun hHeld => ?_); refine with_tabW laws_FnSetsWinOfAll.tab11 laws_FnSetsWinOfAll.bits11 (fun HT_ HW_ => ?_)
     generalize w34.drew = w51 at BK101 BK102 HB hHeld ⊢
     refine pure_ (i := 0) (N := some 100) (v := ?_) (a' := ?_) #[T,F,F,F,F,F,F,F,F,F,F,F,F,F,F,F,F,F,F,F,F,F,F,F,F,F,F,F,F,F,F,F,F,F,F,F,F,F,F,F,F,F,F,F,F,F,F,F,F,F,F,F,F,F,F,F,F,F,F,F,F,F,F,F,F,F,F,F] rfl rfl (any_of HT_.out (by kernel_rfl)) (fun _ _ _ h => h) (Or.inl ⟨by rfl, ?_⟩) ?_ ?_
     rotate_left
     ·intro w'
      go_simp
      with_reducible rfl
     rotate_left
     ·simp only [Act.put, sA, sZ, sS, i64_w, i32_w]
      rfl
     refine pure_ (i := 1) (N := some 101) (v := ?_) (a' := ?_) #[T,T,F,F,F,F,F,F,F,F,F,F,F,F,F,F,F,F,F,F,F,F,F,F,F,F,F,F,F,F,F,F,F,F,F,F,F,F,F,F,F,F,F,F,F,F,F,F,F,F,F,F,F,F,F,F,F,F,F,F,F,F,F,F,F,F,F,F] rfl rfl (any_of HT_.out (by kernel_rfl)) (fun _ _ _ h => h) (Or.inl ⟨by rfl, ?_⟩) ?_ ?_
     rotate_left
     ·intro w'
      go_simp
      with_reducible rfl
     rotate_left
     ·simp only [Act.put, sA, sZ, sS, i64_w, i32_w]
      rfl
     refine pure_ (i := 2) (N := some 102) (v := ?_) (a' := ?_) #[T,T,T,F,F,F,F,F,F,F,F,F,F,F,F,F,F,F,F,F,F,F,F,F,F,F,F,F,F,F,F,F,F,F,F,F,F,F,F,F,F,F,F,F,F,F,F,F,F,F,F,F,F,F,F,F,F,F,F,F,F,F,F,F,F,F,F,F] rfl rfl (any_of HT_.out (by kernel_rfl)) (fun _ _ _ h => h) (Or.inl ⟨by rfl, ?_⟩) ?_ ?_
     rotate_left
     ·intro w'
      go_simp
      with_reducible rfl
     rotate_left
     ·simp only [Act.put, sA, sZ, sS, i64_w, i32_w]
      rfl
     refine pure_ (i := 3) (N := some 103) (v := ?_) (a' := ?_) #[T,T,T,T,F,F,F,F,F,F,F,F,F,F,F,F,F,F,F,F,F,F,F,F,F,F,F,F,F,F,F,F,F,F,F,F,F,F,F,F,F,F,F,F,F,F,F,F,F,F,F,F,F,F,F,F,F,F,F,F,F,F,F,F,F,F,F,F] rfl rfl (any_of HT_.out (by kernel_rfl)) (fun _ _ _ h => h) (Or.inl ⟨by rfl, ?_⟩) ?_ ?_
     rotate_left
     ·intro w'
      go_simp
      with_reducible rfl
     rotate_left
     ·simp only [Act.put, sA, sZ, sS, i64_w, i32_w]
      rfl
     refine pure_ (i := 4) (N := some 104) (v := ?_) (a' := ?_) #[T,T,T,T,T,F,F,F,F,F,F,F,F,F,F,F,F,F,F,F,F,F,F,F,F,F,F,F,F,F,F,F,F,F,F,F,F,F,F,F,F,F,F,F,F,F,F,F,F,F,F,F,F,F,F,F,F,F,F,F,F,F,F,F,F,F,F,F] rfl rfl (any_of HT_.out (by kernel_rfl)) (fun _ _ _ h => h) (Or.inl ⟨by rfl, ?_⟩) ?_ ?_
     rotate_left
     ·intro w'
      go_simp
      with_reducible rfl
     rotate_left
     ·simp only [Act.put, sA, sZ, sS, i64_w, i32_w]
      rfl
     refine pure_ (i := 5) (N := some 105) (v := ?_) (a' := ?_) #[T,T,T,T,T,T,F,F,F,F,F,F,F,F,F,F,F,F,F,F,F,F,F,F,F,F,F,F,F,F,F,F,F,F,F,F,F,F,F,F,F,F,F,F,F,F,F,F,F,F,F,F,F,F,F,F,F,F,F,F,F,F,F,F,F,F,F,F] rfl rfl (any_of HT_.out (by kernel_rfl)) (fun _ _ _ h => h) (Or.inl ⟨by rfl, ?_⟩) ?_ ?_
     rotate_left
     ·intro w'
      go_simp
      with_reducible rfl
     rotate_left
     ·simp only [Act.put, sA, sZ, sS, i64_w, i32_w]
      rfl
     refine pure_ (i := 6) (N := some 106) (v := ?_) (a' := ?_) #[T,T,T,T,T,T,T,F,F,F,F,F,F,F,F,F,F,F,F,F,F,F,F,F,F,F,F,F,F,F,F,F,F,F,F,F,F,F,F,F,F,F,F,F,F,F,F,F,F,F,F,F,F,F,F,F,F,F,F,F,F,F,F,F,F,F,F,F] rfl rfl (any_of HT_.out (by kernel_rfl)) (fun _ _ _ h => h) (Or.inl ⟨by rfl, ?_⟩) ?_ ?_
     rotate_left
     ·intro w'
      go_simp
      with_reducible rfl
     rotate_left
     ·simp only [Act.put, sA, sZ, sS, i64_w, i32_w]
      rfl
     refine pure_ (i := 7) (N := some 107) (v := ?_) (a' := ?_) #[T,T,T,T,T,T,T,T,F,F,F,F,F,F,F,F,F,F,F,F,F,F,F,F,F,F,F,F,F,F,F,F,F,F,F,F,F,F,F,F,F,F,F,F,F,F,F,F,F,F,F,F,F,F,F,F,F,F,F,F,F,F,F,F,F,F,F,F] rfl rfl (any_of HT_.out (by kernel_rfl)) (fun _ _ _ h => h) (Or.inl ⟨by rfl, ?_⟩) ?_ ?_
     rotate_left
     ·intro w'
      go_simp
      with_reducible rfl
     rotate_left
     ·simp only [Act.put, sA, sZ, sS, i64_w, i32_w]
      rfl
     refine pure_ (i := 8) (N := some 108) (v := ?_) (a' := ?_) #[T,T,T,T,T,T,T,T,T,F,F,F,F,F,F,F,F,F,F,F,F,F,F,F,F,F,F,F,F,F,F,F,F,F,F,F,F,F,F,F,F,F,F,F,F,F,F,F,F,F,F,F,F,F,F,F,F,F,F,F,F,F,F,F,F,F,F,F] rfl rfl (any_of HT_.out (by kernel_rfl)) (fun _ _ _ h => h) (Or.inl ⟨by rfl, ?_⟩) ?_ ?_
     rotate_left
     ·intro w'
      go_simp
      with_reducible rfl
     rotate_left
     ·simp only [Act.put, sA, sZ, sS, i64_w, i32_w]
      rfl
     refine pure_ (i := 9) (N := some 109) (v := ?_) (a' := ?_) #[T,T,T,T,T,T,T,T,T,T,F,F,F,F,F,F,F,F,F,F,F,F,F,F,F,F,F,F,F,F,F,F,F,F,F,F,F,F,F,F,F,F,F,F,F,F,F,F,F,F,F,F,F,F,F,F,F,F,F,F,F,F,F,F,F,F,F,F] rfl rfl (any_of HT_.out (by kernel_rfl)) (fun _ _ _ h => h) (Or.inl ⟨by rfl, ?_⟩) ?_ ?_
     rotate_left
     ·intro w'
      go_simp
      with_reducible rfl
     rotate_left
     ·simp only [Act.put, sA, sZ, sS, i64_w, i32_w]
      rfl
     refine pure_ (i := 10) (N := some 110) (v := ?_) (a' := ?_) #[T,T,T,T,T,T,T,T,T,T,T,F,F,F,F,F,F,F,F,F,F,F,F,F,F,F,F,F,F,F,F,F,F,F,F,F,F,F,F,F,F,F,F,F,F,F,F,F,F,F,F,F,F,F,F,F,F,F,F,F,F,F,F,F,F,F,F,F] rfl rfl (any_of HT_.out (by kernel_rfl)) (fun _ _ _ h => h) (Or.inl ⟨by rfl, ?_⟩) ?_ ?_
     rotate_left
     ·intro w'
      go_simp
      with_reducible rfl
     rotate_left
     ·simp only [Act.put, sA, sZ, sS, i64_w, i32_w]
      rfl
     refine pure_ (i := 11) (N := some 111) (v := ?_) (a' := ?_) #[T,T,T,T,T,T,T,T,T,T,T,T,F,F,F,F,F,F,F,F,F,F,F,F,F,F,F,F,F,F,F,F,F,F,F,F,F,F,F,F,F,F,F,F,F,F,F,F,F,F,F,F,F,F,F,F,F,F,F,F,F,F,F,F,F,F,F,F] rfl rfl (any_of HT_.out (by kernel_rfl)) (fun _ _ _ h => h) (Or.inl ⟨by rfl, ?_⟩) ?_ ?_
     rotate_left
     ·intro w'
      go_simp
      with_reducible rfl
     rotate_left
     ·simp only [Act.put, sA, sZ, sS, i64_w, i32_w]
      rfl
     refine pure_ (i := 12) (N := some 112) (v := ?_) (a' := ?_) #[T,T,T,T,T,T,T,T,T,T,T,T,T,F,F,F,F,F,F,F,F,F,F,F,F,F,F,F,F,F,F,F,F,F,F,F,F,F,F,F,F,F,F,F,F,F,F,F,F,F,F,F,F,F,F,F,F,F,F,F,F,F,F,F,F,F,F,F] rfl rfl (any_of HT_.out (by kernel_rfl)) (fun _ _ _ h => h) (Or.inl ⟨by rfl, ?_⟩) ?_ ?_
     rotate_left
     ·intro w'
      go_simp
      with_reducible rfl
     rotate_left
     ·simp only [Act.put, sA, sZ, sS, i64_w, i32_w]
      rfl
     refine pure_ (i := 13) (N := some 113) (v := ?_) (a' := ?_) #[T,T,T,T,T,T,T,T,T,T,T,T,T,T,F,F,F,F,F,F,F,F,F,F,F,F,F,F,F,F,F,F,F,F,F,F,F,F,F,F,F,F,F,F,F,F,F,F,F,F,F,F,F,F,F,F,F,F,F,F,F,F,F,F,F,F,F,F] rfl rfl (any_of HT_.out (by kernel_rfl)) (fun _ _ _ h => h) (Or.inl ⟨by rfl, ?_⟩) ?_ ?_
     rotate_left
     ·intro w'
      go_simp
      with_reducible rfl
     rotate_left
     ·simp only [Act.put, sA, sZ, sS, i64_w, i32_w]
      rfl
     refine pure_ (i := 14) (N := some 114) (v := ?_) (a' := ?_) #[T,T,T,T,T,T,T,T,T,T,T,T,T,T,T,F,F,F,F,F,F,F,F,F,F,F,F,F,F,F,F,F,F,F,F,F,F,F,F,F,F,F,F,F,F,F,F,F,F,F,F,F,F,F,F,F,F,F,F,F,F,F,F,F,F,F,F,F] rfl rfl (any_of HT_.out (by kernel_rfl)) (fun _ _ _ h => h) (Or.inl ⟨by rfl, ?_⟩) ?_ ?_
     rotate_left
     ·intro w'
      go_simp
      with_reducible rfl
     rotate_left
     ·simp only [Act.put, sA, sZ, sS, i64_w, i32_w]
      rfl
     refine pure_ (i := 15) (N := some 115) (v := ?_) (a' := ?_) #[T,T,T,T,T,T,T,T,T,T,T,T,T,T,T,T,F,F,F,F,F,F,F,F,F,F,F,F,F,F,F,F,F,F,F,F,F,F,F,F,F,F,F,F,F,F,F,F,F,F,F,F,F,F,F,F,F,F,F,F,F,F,F,F,F,F,F,F] rfl rfl (any_of HT_.out (by kernel_rfl)) (fun _ _ _ h => h) (Or.inl ⟨by rfl, ?_⟩) ?_ ?_
     rotate_left
     ·intro w'
      go_simp
      with_reducible rfl
     rotate_left
     ·simp only [Act.put, sA, sZ, sS, i64_w, i32_w]
      rfl
     refine pure_ (i := 16) (N := some 116) (v := ?_) (a' := ?_) #[T,T,T,T,T,T,T,T,T,T,T,T,T,T,T,T,T,F,F,F,F,F,F,F,F,F,F,F,F,F,F,F,F,F,F,F,F,F,F,F,F,F,F,F,F,F,F,F,F,F,F,F,F,F,F,F,F,F,F,F,F,F,F,F,F,F,F,F] rfl rfl (any_of HT_.out (by kernel_rfl)) (fun _ _ _ h => h) (Or.inl ⟨by rfl, ?_⟩) ?_ ?_
     rotate_left
     ·intro w'
      go_simp
      with_reducible rfl
     rotate_left
     ·simp only [Act.put, sA, sZ, sS, i64_w, i32_w]
      rfl
     refine pure_ (i := 17) (N := some 117) (v := ?_) (a' := ?_) #[T,T,T,T,T,T,T,T,T,T,T,T,T,T,T,T,T,T,F,F,F,F,F,F,F,F,F,F,F,F,F,F,F,F,F,F,F,F,F,F,F,F,F,F,F,F,F,F,F,F,F,F,F,F,F,F,F,F,F,F,F,F,F,F,F,F,F,F] rfl rfl (any_of HT_.out (by kernel_rfl)) (fun _ _ _ h => h) (Or.inl ⟨by rfl, ?_⟩) ?_ ?_
     rotate_left
     ·intro w'
      go_simp
      with_reducible rfl
     rotate_left
     ·simp only [Act.put, sA, sZ, sS, i64_w, i32_w]
      rfl
     refine pure_ (i := 18) (N := some 118) (v := ?_) (a' := ?_) #[T,T,T,T,T,T,T,T,T,T,T,T,T,T,T,T,T,T,T,F,F,F,F,F,F,F,F,F,F,F,F,F,F,F,F,F,F,F,F,F,F,F,F,F,F,F,F,F,F,F,F,F,F,F,F,F,F,F,F,F,F,F,F,F,F,F,F,F] rfl rfl (any_of HT_.out (by kernel_rfl)) (fun _ _ _ h => h) (Or.inl ⟨by rfl, ?_⟩) ?_ ?_
     rotate_left
     ·intro w'
      go_simp
      with_reducible rfl
     rotate_left
     ·simp only [Act.put, sA, sZ, sS, i64_w, i32_w]
      rfl
     refine pure_ (i := 19) (N := some 119) (v := ?_) (a' := ?_) #[T,T,T,T,T,T,T,T,T,T,T,T,T,T,T,T,T,T,T,T,F,F,F,F,F,F,F,F,F,F,F,F,F,F,F,F,F,F,F,F,F,F,F,F,F,F,F,F,F,F,F,F,F,F,F,F,F,F,F,F,F,F,F,F,F,F,F,F] rfl rfl (any_of HT_.out (by kernel_rfl)) (fun _ _ _ h => h) (Or.inl ⟨by rfl, ?_⟩) ?_ ?_
     rotate_left
     ·intro w'
      go_simp
      with_reducible rfl
     rotate_left
     ·simp only [Act.put, sA, sZ, sS, i64_w, i32_w]
      rfl
     refine pure_ (i := 20) (N := some 120) (v := ?_) (a' := ?_) #[T,T,T,T,T,T,T,T,T,T,T,T,T,T,T,T,T,T,T,T,T,F,F,F,F,F,F,F,F,F,F,F,F,F,F,F,F,F,F,F,F,F,F,F,F,F,F,F,F,F,F,F,F,F,F,F,F,F,F,F,F,F,F,F,F,F,F,F] rfl rfl (any_of HT_.out (by kernel_rfl)) (fun _ _ _ h => h) (Or.inl ⟨by rfl, ?_⟩) ?_ ?_
     rotate_left
     ·intro w'
      go_simp
      with_reducible rfl
     rotate_left
     ·simp only [Act.put, sA, sZ, sS, i64_w, i32_w]
      rfl
     refine pure_ (i := 21) (N := some 121) (v := ?_) (a' := ?_) #[T,T,T,T,T,T,T,T,T,T,T,T,T,T,T,T,T,T,T,T,T,T,F,F,F,F,F,F,F,F,F,F,F,F,F,F,F,F,F,F,F,F,F,F,F,F,F,F,F,F,F,F,F,F,F,F,F,F,F,F,F,F,F,F,F,F,F,F] rfl rfl (any_of HT_.out (by kernel_rfl)) (fun _ _ _ h => h) (Or.inl ⟨by rfl, ?_⟩) ?_ ?_
     rotate_left
     ·intro w'
      go_simp
      with_reducible rfl
     rotate_left
     ·simp only [Act.put, sA, sZ, sS, i64_w, i32_w]
      rfl
     refine pure_ (i := 22) (N := some 122) (v := ?_) (a' := ?_) #[T,T,T,T,T,T,T,T,T,T,T,T,T,T,T,T,T,T,T,T,T,T,T,F,F,F,F,F,F,F,F,F,F,F,F,F,F,F,F,F,F,F,F,F,F,F,F,F,F,F,F,F,F,F,F,F,F,F,F,F,F,F,F,F,F,F,F,F] rfl rfl (any_of HT_.out (by kernel_rfl)) (fun _ _ _ h => h) (Or.inl ⟨by rfl, ?_⟩) ?_ ?_
     rotate_left
     ·intro w'
      go_simp
      with_reducible rfl
     rotate_left
     ·simp only [Act.put, sA, sZ, sS, i64_w, i32_w]
      rfl
     refine pure_ (i := 23) (N := some 123) (v := ?_) (a' := ?_) #[T,T,T,T,T,T,T,T,T,T,T,T,T,T,T,T,T,T,T,T,T,T,T,T,F,F,F,F,F,F,F,F,F,F,F,F,F,F,F,F,F,F,F,F,F,F,F,F,F,F,F,F,F,F,F,F,F,F,F,F,F,F,F,F,F,F,F,F] rfl rfl (any_of HT_.out (by kernel_rfl)) (fun _ _ _ h => h) (Or.inl ⟨by rfl, ?_⟩) ?_ ?_
     rotate_left
     ·intro w'
      go_simp
      with_reducible rfl
     rotate_left
     ·simp only [Act.put, sA, sZ, sS, i64_w, i32_w]
      rfl
     refine pure_ (i := 24) (N := some 124) (v := ?_) (a' := ?_) #[T,T,T,T,T,T,T,T,T,T,T,T,T,T,T,T,T,T,T,T,T,T,T,T,T,F,F,F,F,F,F,F,F,F,F,F,F,F,F,F,F,F,F,F,F,F,F,F,F,F,F,F,F,F,F,F,F,F,F,F,F,F,F,F,F,F,F,F] rfl rfl (any_of HT_.out (by kernel_rfl)) (fun _ _ _ h => h) (Or.inl ⟨by rfl, ?_⟩) ?_ ?_
     rotate_left
     ·intro w'
      go_simp
      with_reducible rfl
     rotate_left
     ·simp only [Act.put, sA, sZ, sS, i64_w, i32_w]
      rfl
     refine pure_ (i := 25) (N := some 125) (v := ?_) (a' := ?_) #[T,T,T,T,T,T,T,T,T,T,T,T,T,T,T,T,T,T,T,T,T,T,T,T,T,T,F,F,F,F,F,F,F,F,F,F,F,F,F,F,F,F,F,F,F,F,F,F,F,F,F,F,F,F,F,F,F,F,F,F,F,F,F,F,F,F,F,F] rfl rfl (any_of HT_.out (by kernel_rfl)) (fun _ _ _ h => h) (Or.inl ⟨by rfl, ?_⟩) ?_ ?_
     rotate_left
     ·intro w'
      go_simp
      with_reducible rfl
     rotate_left
     ·simp only [Act.put, sA, sZ, sS, i64_w, i32_w]
      rfl
     refine pure_ (i := 26) (N := some 126) (v := ?_) (a' := ?_) #[T,T,T,T,T,T,T,T,T,T,T,T,T,T,T,T,T,T,T,T,T,T,T,T,T,T,T,F,F,F,F,F,F,F,F,F,F,F,F,F,F,F,F,F,F,F,F,F,F,F,F,F,F,F,F,F,F,F,F,F,F,F,F,F,F,F,F,F] rfl rfl (any_of HT_.out (by kernel_rfl)) (fun _ _ _ h => h) (Or.inl ⟨by rfl, ?_⟩) ?_ ?_
     rotate_left
     ·intro w'
      go_simp
      with_reducible rfl
     rotate_left
     ·simp only [Act.put, sA, sZ, sS, i64_w, i32_w]
      rfl
     refine pure_ (i := 27) (N := some 127) (v := ?_) (a' := ?_) #[T,T,T,T,T,T,T,T,T,T,T,T,T,T,T,T,T,T,T,T,T,T,T,T,T,T,T,T,F,F,F,F,F,F,F,F,F,F,F,F,F,F,F,F,F,F,F,F,F,F,F,F,F,F,F,F,F,F,F,F,F,F,F,F,F,F,F,F] rfl rfl (any_of HT_.out (by kernel_rfl)) (fun _ _ _ h => h) (Or.inl ⟨by rfl, ?_⟩) ?_ ?_
     rotate_left
     ·intro w'
      go_simp
      with_reducible rfl
     rotate_left
     ·simp only [Act.put, sA, sZ, sS, i64_w, i32_w]
      rfl
     refine pure_ (i := 28) (N := some 128) (v := ?_) (a' := ?_) #[T,T,T,T,T,T,T,T,T,T,T,T,T,T,T,T,T,T,T,T,T,T,T,T,T,T,T,T,T,F,F,F,F,F,F,F,F,F,F,F,F,F,F,F,F,F,F,F,F,F,F,F,F,F,F,F,F,F,F,F,F,F,F,F,F,F,F,F] rfl rfl (any_of HT_.out (by kernel_rfl)) (fun _ _ _ h => h) (Or.inl ⟨by rfl, ?_⟩) ?_ ?_
     rotate_left
     ·intro w'
      go_simp
      with_reducible rfl
     rotate_left
     ·simp only [Act.put, sA, sZ, sS, i64_w, i32_w]
      rfl
     refine pure_ (i := 29) (N := some 129) (v := ?_) (a' := ?_) #[T,T,T,T,T,T,T,T,T,T,T,T,T,T,T,T,T,T,T,T,T,T,T,T,T,T,T,T,T,T,F,F,F,F,F,F,F,F,F,F,F,F,F,F,F,F,F,F,F,F,F,F,F,F,F,F,F,F,F,F,F,F,F,F,F,F,F,F] rfl rfl (any_of HT_.out (by kernel_rfl)) (fun _ _ _ h => h) (Or.inl ⟨by rfl, ?_⟩) ?_ ?_
     rotate_left
     ·intro w'
      go_simp
      with_reducible rfl
     rotate_left
     ·simp only [Act.put, sA, sZ, sS, i64_w, i32_w]
      rfl
     refine pure_ (i := 30) (N := some 130) (v := ?_) (a' := ?_) #[T,T,T,T,T,T,T,T,T,T,T,T,T,T,T,T,T,T,T,T,T,T,T,T,T,T,T,T,T,T,T,F,F,F,F,F,F,F,F,F,F,F,F,F,F,F,F,F,F,F,F,F,F,F,F,F,F,F,F,F,F,F,F,F,F,F,F,F] rfl rfl (any_of HT_.out (by kernel_rfl)) (fun _ _ _ h => h) (Or.inl ⟨by rfl, ?_⟩) ?_ ?_
     rotate_left
     ·intro w'
      go_simp
      with_reducible rfl
     rotate_left
     ·simp only [Act.put, sA, sZ, sS, i64_w, i32_w]
      rfl
     refine pure_ (i := 31) (N := some 131) (v := ?_) (a' := ?_) #[T,T,T,T,T,T,T,T,T,T,T,T,T,T,T,T,T,T,T,T,T,T,T,T,T,T,T,T,T,T,T,T,F,F,F,F,F,F,F,F,F,F,F,F,F,F,F,F,F,F,F,F,F,F,F,F,F,F,F,F,F,F,F,F,F,F,F,F] rfl rfl (any_of HT_.out (by kernel_rfl)) (fun _ _ _ h => h) (Or.inl ⟨by rfl, ?_⟩) ?_ ?_
     rotate_left
     ·intro w'
      go_simp
      with_reducible rfl
     rotate_left
     ·simp only [Act.put, sA, sZ, sS, i64_w, i32_w]
      rfl
     refine pure_ (i := 32) (N := some 132) (v := ?_) (a' := ?_) #[T,T,T,T,T,T,T,T,T,T,T,T,T,T,T,T,T,T,T,T,T,T,T,T,T,T,T,T,T,T,T,T,T,F,F,F,F,F,F,F,F,F,F,F,F,F,F,F,F,F,F,F,F,F,F,F,F,F,F,F,F,F,F,F,F,F,F,F] rfl rfl (any_of HT_.out (by kernel_rfl)) (fun _ _ _ h => h) (Or.inl ⟨by rfl, ?_⟩) ?_ ?_
     rotate_left
     ·intro w'
      go_simp
      with_reducible rfl
     rotate_left
     ·simp only [Act.put, sA, sZ, sS, i64_w, i32_w]
      rfl
     refine pure_ (i := 33) (N := some 133) (v := ?_) (a' := ?_) #[T,T,T,T,T,T,T,T,T,T,T,T,T,T,T,T,T,T,T,T,T,T,T,T,T,T,T,T,T,T,T,T,T,T,F,F,F,F,F,F,F,F,F,F,F,F,F,F,F,F,F,F,F,F,F,F,F,F,F,F,F,F,F,F,F,F,F,F] rfl rfl (any_of HT_.out (by kernel_rfl)) (fun _ _ _ h => h) (Or.inl ⟨by rfl, ?_⟩) ?_ ?_
     rotate_left
     ·intro w'
      go_simp
      with_reducible rfl
     rotate_left
     ·simp only [Act.put, sA, sZ, sS, i64_w, i32_w]
      rfl
     refine pure_ (i := 34) (N := some 134) (v := ?_) (a' := ?_) #[T,T,T,T,T,T,T,T,T,T,T,T,T,T,T,T,T,T,T,T,T,T,T,T,T,T,T,T,T,T,T,T,T,T,T,F,F,F,F,F,F,F,F,F,F,F,F,F,F,F,F,F,F,F,F,F,F,F,F,F,F,F,F,F,F,F,F,F] rfl rfl (any_of HT_.out (by kernel_rfl)) (fun _ _ _ h => h) (Or.inl ⟨by rfl, ?_⟩) ?_ ?_
     rotate_left
     ·intro w'
      go_simp
      with_reducible rfl
     rotate_left
     ·simp only [Act.put, sA, sZ, sS, i64_w, i32_w]
      rfl
     refine pure_ (i := 35) (N := some 135) (v := ?_) (a' := ?_) #[T,T,T,T,T,T,T,T,T,T,T,T,T,T,T,T,T,T,T,T,T,T,T,T,T,T,T,T,T,T,T,T,T,T,T,T,F,F,F,F,F,F,F,F,F,F,F,F,F,F,F,F,F,F,F,F,F,F,F,F,F,F,F,F,F,F,F,F] rfl rfl (any_of HT_.out (by kernel_rfl)) (fun _ _ _ h => h) (Or.inl ⟨by rfl, ?_⟩) ?_ ?_
     rotate_left
     ·intro w'
      go_simp
      with_reducible rfl
     rotate_left
     ·simp only [Act.put, sA, sZ, sS, i64_w, i32_w]
      rfl
     refine pure_ (i := 36) (N := some 136) (v := ?_) (a' := ?_) #[T,T,T,T,T,T,T,T,T,T,T,T,T,T,T,T,T,T,T,T,T,T,T,T,T,T,T,T,T,T,T,T,T,T,T,T,T,F,F,F,F,F,F,F,F,F,F,F,F,F,F,F,F,F,F,F,F,F,F,F,F,F,F,F,F,F,F,F] rfl rfl (any_of HT_.out (by kernel_rfl)) (fun _ _ _ h => h) (Or.inl ⟨by rfl, ?_⟩) ?_ ?_
     rotate_left
     ·intro w'
      go_simp
      with_reducible rfl
     rotate_left
     ·simp only [Act.put, sA, sZ, sS, i64_w, i32_w]
      rfl
     refine pure_ (i := 37) (N := some 137) (v := ?_) (a' := ?_) #[T,T,T,T,T,T,T,T,T,T,T,T,T,T,T,T,T,T,T,T,T,T,T,T,T,T,T,T,T,T,T,T,T,T,T,T,T,T,F,F,F,F,F,F,F,F,F,F,F,F,F,F,F,F,F,F,F,F,F,F,F,F,F,F,F,F,F,F] rfl rfl (any_of HT_.out (by kernel_rfl)) (fun _ _ _ h => h) (Or.inl ⟨by rfl, ?_⟩) ?_ ?_
     rotate_left
     ·intro w'
      go_simp
      with_reducible rfl
     rotate_left
     ·simp only [Act.put, sA, sZ, sS, i64_w, i32_w]
      rfl
     refine pure_ (i := 38) (N := some 138) (v := ?_) (a' := ?_) #[T,T,T,T,T,T,T,T,T,T,T,T,T,T,T,T,T,T,T,T,T,T,T,T,T,T,T,T,T,T,T,T,T,T,T,T,T,T,T,F,F,F,F,F,F,F,F,F,F,F,F,F,F,F,F,F,F,F,F,F,F,F,F,F,F,F,F,F] rfl rfl (any_of HT_.out (by kernel_rfl)) (fun _ _ _ h => h) (Or.inl ⟨by rfl, ?_⟩) ?_ ?_
     rotate_left
     ·intro w'
      go_simp
      with_reducible rfl
     rotate_left
     ·simp only [Act.put, sA, sZ, sS, i64_w, i32_w]
      rfl
     refine pure_ (i := 39) (N := some 139) (v := ?_) (a' := ?_) #[T,T,T,T,T,T,T,T,T,T,T,T,T,T,T,T,T,T,T,T,T,T,T,T,T,T,T,T,T,T,T,T,T,T,T,T,T,T,T,T,F,F,F,F,F,F,F,F,F,F,F,F,F,F,F,F,F,F,F,F,F,F,F,F,F,F,F,F] rfl rfl (any_of HT_.out (by kernel_rfl)) (fun _ _ _ h => h) (Or.inl ⟨by rfl, ?_⟩) ?_ ?_
     rotate_left
     ·intro w'
      go_simp
      with_reducible rfl
     rotate_left
     ·simp only [Act.put, sA, sZ, sS, i64_w, i32_w]
      rfl
     refine pure_ (i := 40) (N := some 140) (v := ?_) (a' := ?_) #[T,T,T,T,T,T,T,T,T,T,T,T,T,T,T,T,T,T,T,T,T,T,T,T,T,T,T,T,T,T,T,T,T,T,T,T,T,T,T,T,T,F,F,F,F,F,F,F,F,F,F,F,F,F,F,F,F,F,F,F,F,F,F,F,F,F,F,F] rfl rfl (any_of HT_.out (by kernel_rfl)) (fun _ _ _ h => h) (Or.inl ⟨by rfl, ?_⟩) ?_ ?_
     rotate_left
     ·intro w'
      go_simp
      with_reducible rfl
     rotate_left
     ·simp only [Act.put, sA, sZ, sS, i64_w, i32_w]
      rfl
     refine pure_ (i := 41) (N := some 141) (v := ?_) (a' := ?_) #[T,T,T,T,T,T,T,T,T,T,T,T,T,T,T,T,T,T,T,T,T,T,T,T,T,T,T,T,T,T,T,T,T,T,T,T,T,T,T,T,T,T,F,F,F,F,F,F,F,F,F,F,F,F,F,F,F,F,F,F,F,F,F,F,F,F,F,F] rfl rfl (any_of HT_.out (by kernel_rfl)) (fun _ _ _ h => h) (Or.inl ⟨by rfl, ?_⟩) ?_ ?_
     rotate_left
     ·intro w'
      go_simp
      with_reducible rfl
     rotate_left
     ·simp only [Act.put, sA, sZ, sS, i64_w, i32_w]
      rfl
     refine pure_ (i := 42) (N := some 142) (v := ?_) (a' := ?_) #[T,T,T,T,T,T,T,T,T,T,T,T,T,T,T,T,T,T,T,T,T,T,T,T,T,T,T,T,T,T,T,T,T,T,T,T,T,T,T,T,T,T,T,F,F,F,F,F,F,F,F,F,F,F,F,F,F,F,F,F,F,F,F,F,F,F,F,F] rfl rfl (any_of HT_.out (by kernel_rfl)) (fun _ _ _ h => h) (Or.inl ⟨by rfl, ?_⟩) ?_ ?_
     rotate_left
     ·intro w'
      go_simp
      with_reducible rfl
     rotate_left
     ·simp only [Act.put, sA, sZ, sS, i64_w, i32_w]
      rfl
     refine pure_ (i := 43) (N := some 143) (v := ?_) (a' := ?_) #[T,T,T,T,T,T,T,T,T,T,T,T,T,T,T,T,T,T,T,T,T,T,T,T,T,T,T,T,T,T,T,T,T,T,T,T,T,T,T,T,T,T,T,T,F,F,F,F,F,F,F,F,F,F,F,F,F,F,F,F,F,F,F,F,F,F,F,F] rfl rfl (any_of HT_.out (by kernel_rfl)) (fun _ _ _ h => h) (Or.inl ⟨by rfl, ?_⟩) ?_ ?_
     rotate_left
     ·intro w'
      go_simp
      with_reducible rfl
     rotate_left
     ·simp only [Act.put, sA, sZ, sS, i64_w, i32_w]
      rfl
     refine pure_ (i := 44) (N := some 144) (v := ?_) (a' := ?_) #[T,T,T,T,T,T,T,T,T,T,T,T,T,T,T,T,T,T,T,T,T,T,T,T,T,T,T,T,T,T,T,T,T,T,T,T,T,T,T,T,T,T,T,T,T,F,F,F,F,F,F,F,F,F,F,F,F,F,F,F,F,F,F,F,F,F,F,F] rfl rfl (any_of HT_.out (by kernel_rfl)) (fun _ _ _ h => h) (Or.inl ⟨by rfl, ?_⟩) ?_ ?_
     rotate_left
     ·intro w'
      go_simp
      with_reducible rfl
     rotate_left
     ·simp only [Act.put, sA, sZ, sS, i64_w, i32_w]
      rfl
     refine pure_ (i := 45) (N := some 145) (v := ?_) (a' := ?_) #[T,T,T,T,T,T,T,T,T,T,T,T,T,T,T,T,T,T,T,T,T,T,T,T,T,T,T,T,T,T,T,T,T,T,T,T,T,T,T,T,T,T,T,T,T,T,F,F,F,F,F,F,F,F,F,F,F,F,F,F,F,F,F,F,F,F,F,F] rfl rfl (any_of HT_.out (by kernel_rfl)) (fun _ _ _ h => h) (Or.inl ⟨by rfl, ?_⟩) ?_ ?_
     rotate_left
     ·intro w'
      go_simp
      with_reducible rfl
     rotate_left
     ·simp only [Act.put, sA, sZ, sS, i64_w, i32_w]
      rfl
     refine pure_ (i := 46) (N := some 146) (v := ?_) (a' := ?_) #[T,T,T,T,T,T,T,T,T,T,T,T,T,T,T,T,T,T,T,T,T,T,T,T,T,T,T,T,T,T,T,T,T,T,T,T,T,T,T,T,T,T,T,T,T,T,T,F,F,F,F,F,F,F,F,F,F,F,F,F,F,F,F,F,F,F,F,F] rfl rfl (any_of HT_.out (by kernel_rfl)) (fun _ _ _ h => h) (Or.inl ⟨by rfl, ?_⟩) ?_ ?_
     rotate_left
     ·intro w'
      go_simp
      with_reducible rfl
     rotate_left
     ·simp only [Act.put, sA, sZ, sS, i64_w, i32_w]
      rfl
     refine pure_ (i := 47) (N := some 147) (v := ?_) (a' := ?_) #[T,T,T,T,T,T,T,T,T,T,T,T,T,T,T,T,T,T,T,T,T,T,T,T,T,T,T,T,T,T,T,T,T,T,T,T,T,T,T,T,T,T,T,T,T,T,T,T,F,F,F,F,F,F,F,F,F,F,F,F,F,F,F,F,F,F,F,F] rfl rfl (any_of HT_.out (by kernel_rfl)) (fun _ _ _ h => h) (Or.inl ⟨by rfl, ?_⟩) ?_ ?_
     rotate_left
     ·intro w'
      go_simp
      with_reducible rfl
     rotate_left
     ·simp only [Act.put, sA, sZ, sS, i64_w, i32_w]
      rfl
     refine pure_ (i := 48) (N := some 148) (v := ?_) (a' := ?_) #[T,T,T,T,T,T,T,T,T,T,T,T,T,T,T,T,T,T,T,T,T,T,T,T,T,T,T,T,T,T,T,T,T,T,T,T,T,T,T,T,T,T,T,T,T,T,T,T,T,F,F,F,F,F,F,F,F,F,F,F,F,F,F,F,F,F,F,F] rfl rfl (any_of HT_.out (by kernel_rfl)) (fun _ _ _ h => h) (Or.inl ⟨by rfl, ?_⟩) ?_ ?_
     rotate_left
     ·intro w'
      go_simp
      with_reducible rfl
     rotate_left
     ·simp only [Act.put, sA, sZ, sS, i64_w, i32_w]
      rfl
     refine pure_ (i := 49) (N := some 149) (v := ?_) (a' := ?_) #[T,T,T,T,T,T,T,T,T,T,T,T,T,T,T,T,T,T,T,T,T,T,T,T,T,T,T,T,T,T,T,T,T,T,T,T,T,T,T,T,T,T,T,T,T,T,T,T,T,T,F,F,F,F,F,F,F,F,F,F,F,F,F,F,F,F,F,F] rfl rfl (any_of HT_.out (by kernel_rfl)) (fun _ _ _ h => h) (Or.inl ⟨by rfl, ?_⟩) ?_ ?_
     rotate_left
     ·intro w'
      go_simp
      with_reducible rfl
     rotate_left
     ·simp only [Act.put, sA, sZ, sS, i64_w, i32_w]
      rfl
     refine pure_ (i := 50) (N := some 150) (v := ?_) (a' := ?_) #[T,T,T,T,T,T,T,T,T,T,T,T,T,T,T,T,T,T,T,T,T,T,T,T,T,T,T,T,T,T,T,T,T,T,T,T,T,T,T,T,T,T,T,T,T,T,T,T,T,T,T,F,F,F,F,F,F,F,F,F,F,F,F,F,F,F,F,F] rfl rfl (any_of HT_.out (by kernel_rfl)) (fun _ _ _ h => h) (Or.inl ⟨by rfl, ?_⟩) ?_ ?_
     rotate_left
     ·intro w'
      go_simp
      with_reducible rfl
     rotate_left
     ·simp only [Act.put, sA, sZ, sS, i64_w, i32_w]
      rfl
     refine pure_ (i := 51) (N := some 151) (v := ?_) (a' := ?_) #[T,T,T,T,T,T,T,T,T,T,T,T,T,T,T,T,T,T,T,T,T,T,T,T,T,T,T,T,T,T,T,T,T,T,T,T,T,T,T,T,T,T,T,T,T,T,T,T,T,T,T,T,F,F,F,F,F,F,F,F,F,F,F,F,F,F,F,F] rfl rfl (any_of HT_.out (by kernel_rfl)) (fun _ _ _ h => h) (Or.inl ⟨by rfl, ?_⟩) ?_ ?_
     rotate_left
     ·intro w'
      go_simp
      with_reducible rfl
     rotate_left
     ·simp only [Act.put, sA, sZ, sS, i64_w, i32_w]
      rfl
     refine pure_ (i := 52) (N := some 152) (v := ?_) (a' := ?_) #[T,T,T,T,T,T,T,T,T,T,T,T,T,T,T,T,T,T,T,T,T,T,T,T,T,T,T,T,T,T,T,T,T,T,T,T,T,T,T,T,T,T,T,T,T,T,T,T,T,T,T,T,T,F,F,F,F,F,F,F,F,F,F,F,F,F,F,F] rfl rfl (any_of HT_.out (by kernel_rfl)) (fun _ _ _ h => h) (Or.inl ⟨by rfl, ?_⟩) ?_ ?_
     rotate_left
     ·intro w'
      go_simp
      with_reducible rfl
     rotate_left
     ·simp only [Act.put, sA, sZ, sS, i64_w, i32_w]
      rfl
     refine pure_ (i := 53) (N := some 153) (v := ?_) (a' := ?_) #[T,T,T,T,T,T,T,T,T,T,T,T,T,T,T,T,T,T,T,T,T,T,T,T,T,T,T,T,T,T,T,T,T,T,T,T,T,T,T,T,T,T,T,T,T,T,T,T,T,T,T,T,T,T,F,F,F,F,F,F,F,F,F,F,F,F,F,F] rfl rfl (any_of HT_.out (by kernel_rfl)) (fun _ _ _ h => h) (Or.inl ⟨by rfl, ?_⟩) ?_ ?_
     rotate_left
     ·intro w'
      go_simp
      with_reducible rfl
     rotate_left
     ·simp only [Act.put, sA, sZ, sS, i64_w, i32_w]
      rfl
     refine pure_ (i := 54) (N := some 154) (v := ?_) (a' := ?_) #[T,T,T,T,T,T,T,T,T,T,T,T,T,T,T,T,T,T,T,T,T,T,T,T,T,T,T,T,T,T,T,T,T,T,T,T,T,T,T,T,T,T,T,T,T,T,T,T,T,T,T,T,T,T,T,F,F,F,F,F,F,F,F,F,F,F,F,F] rfl rfl (any_of HT_.out (by kernel_rfl)) (fun _ _ _ h => h) (Or.inl ⟨by rfl, ?_⟩) ?_ ?_
     rotate_left
     ·intro w'
      go_simp
      with_reducible rfl
     rotate_left
     ·simp only [Act.put, sA, sZ, sS, i64_w, i32_w]
      rfl
     refine pure_ (i := 55) (N := some 155) (v := ?_) (a' := ?_) #[T,T,T,T,T,T,T,T,T,T,T,T,T,T,T,T,T,T,T,T,T,T,T,T,T,T,T,T,T,T,T,T,T,T,T,T,T,T,T,T,T,T,T,T,T,T,T,T,T,T,T,T,T,T,T,T,F,F,F,F,F,F,F,F,F,F,F,F] rfl rfl (any_of HT_.out (by kernel_rfl)) (fun _ _ _ h => h) (Or.inl ⟨by rfl, ?_⟩) ?_ ?_
     rotate_left
     ·intro w'
      go_simp
      with_reducible rfl
     rotate_left
     ·simp only [Act.put, sA, sZ, sS, i64_w, i32_w]
      rfl
     refine pure_ (i := 56) (N := some 156) (v := ?_) (a' := ?_) #[T,T,T,T,T,T,T,T,T,T,T,T,T,T,T,T,T,T,T,T,T,T,T,T,T,T,T,T,T,T,T,T,T,T,T,T,T,T,T,T,T,T,T,T,T,T,T,T,T,T,T,T,T,T,T,T,T,F,F,F,F,F,F,F,F,F,F,F] rfl rfl (any_of HT_.out (by kernel_rfl)) (fun _ _ _ h => h) (Or.inl ⟨by rfl, ?_⟩) ?_ ?_
     rotate_left
     ·intro w'
      go_simp
      with_reducible rfl
     rotate_left
     ·simp only [Act.put, sA, sZ, sS, i64_w, i32_w]
      rfl
     refine take_ (i := 57) (N := some 157) (v := ?_) (a' := ?_) #[T,T,T,T,T,T,T,T,T,T,T,T,T,T,T,T,T,T,T,T,T,T,T,T,T,T,T,T,T,T,T,T,T,T,T,T,T,T,T,T,T,T,T,T,T,T,T,T,T,T,T,T,T,T,T,T,T,T,F,F,F,F,F,F,F,F,F,F] rfl rfl (take_ofW HT_.out HW_.out (by kernel_rfl)) (fun _ _ _ h => h) (Or.inl ⟨by rfl, ?_⟩) hHeld ?_ ?_
     rotate_left
     ·rintro w' ⟨s0, s1⟩
      go_simp
      with_reducible rfl
     rotate_left
     ·simp only [Act.put, sA, sZ, sS, i64_w, i32_w]
      rfl
     refine one_ (i := 58) (N := some 158) #[T,T,T,T,T,T,T,T,T,T,T,T,T,T,T,T,T,T,T,T,T,T,T,T,T,T,T,T,T,T,T,T,T,T,T,T,T,T,T,T,T,T,T,T,T,T,T,T,T,T,T,T,T,T,T,T,T,T,T,F,F,F,F,F,F,F,F,F] rfl rfl (one_of HT_.out (by kernel_rfl)) (by decide) (fun K hK => ?_)
     refine goes_ Try.func24 (by kernel_rfl) rfl #[.agg #[.int .i64 a0_0, .slice A0_1 l0_1.length c0_1]] (by rfl) rfl rfl (by (try simp only [mA, mC, mN]); first | done | rfl) ?_
     with_reducible refine (impl_IsCommittee.calls k a0_0 _ _ l0_1 t119 _ (Kd.C_below HR0_1.out HB.out) HC0_1.out A47.out).mono ?_
     rintro e w52 ⟨rfl, hb⟩
     refine ⟨_, rfl, ?_⟩
     replace BK101 := Aside0.mk (blk_below BK101.out hb)
     replace BK102 := Aside0.mk (blk_below BK102.out hb)
     replace HB := Aside0.mk (below_step HB.out hb)
     (try clear hb)
     (try clear hb2)
     (try clear hk)
     (try clear hi)
     refine hK.out _ _ ⟨(blk_cell BK101.out 0).trans rfl, (blk_cell BK101.out 1).trans rfl⟩ (fun hHeld => ?_)
     clear hK K
     refine norm_ (a' := ?_) ?_ ?_
     rotate_left
     ·show Act.put _ (some 158) _ = _
      simp only [Act.put, sA, sZ, sS, i64_w, i32_w]
      rfl
     refine pure_ (i := 59) (N := some 159) (v := ?_) (a' := ?_) #[T,T,T,T,T,T,T,T,T,T,T,T,T,T,T,T,T,T,T,T,T,T,T,T,T,T,T,T,T,T,T,T,T,T,T,T,T,T,T,T,T,T,T,T,T,T,T,T,T,T,T,T,T,T,T,T,T,T,T,T,F,F,F,F,F,F,F,F] rfl rfl (any_of HT_.out (by kernel_rfl)) (fun _ _ _ h => h) (Or.inl ⟨by rfl, ?_⟩) ?_ ?_
     rotate_left
     ·intro w'
      go_simp
      with_reducible rfl
     rotate_left
     ·simp only [Act.put, sA, sZ, sS, i64_w, i32_w]
      rfl
     refine pure_ (i := 60) (N := some 160) (v := ?_) (a' := ?_) #[T,T,T,T,T,T,T,T,T,T,T,T,T,T,T,T,T,T,T,T,T,T,T,T,T,T,T,T,T,T,T,T,T,T,T,T,T,T,T,T,T,T,T,T,T,T,T,T,T,T,T,T,T,T,T,T,T,T,T,T,T,F,F,F,F,F,F,F] rfl rfl (any_of HT_.out (by kernel_rfl)) (fun _ _ _ h => h) (Or.inl ⟨by rfl, ?_⟩) ?_ ?_
     rotate_left
     ·intro w'
      go_simp
      with_reducible rfl
     rotate_left
     ·simp only [Act.put, sA, sZ, sS, i64_w, i32_w]
      rfl
     refine pure_ (i := 61) (N := some 161) (v := ?_) (a' := ?_) #[T,T,T,T,T,T,T,T,T,T,T,T,T,T,T,T,T,T,T,T,T,T,T,T,T,T,T,T,T,T,T,T,T,T,T,T,T,T,T,T,T,T,T,T,T,T,T,T,T,T,T,T,T,T,T,T,T,T,T,T,T,T,F,F,F,F,F,F] rfl rfl (any_of HT_.out (by kernel_rfl)) (fun _ _ _ h => h) (Or.inl ⟨by rfl, ?_⟩) ?_ ?_
     rotate_left
     ·intro w'
      go_simp
      with_reducible rfl
     rotate_left
     ·simp only [Act.put, sA, sZ, sS, i64_w, i32_w]
      rfl
     refine take_ (i := 62) (N := some 162) (v := ?_) (a' := ?_) #[T,T,T,T,T,T,T,T,T,T,T,T,T,T,T,T,T,T,T,T,T,T,T,T,T,T,T,T,T,T,T,T,T,T,T,T,T,T,T,T,T,T,T,T,T,T,T,T,T,T,T,T,T,T,T,T,T,T,T,T,T,T,T,F,F,F,F,F] rfl rfl (take_ofW HT_.out HW_.out (by kernel_rfl)) (fun _ _ _ h => h) (Or.inl ⟨by rfl, ?_⟩) hHeld ?_ ?_
     rotate_left
     ·rintro w' ⟨s0, s1⟩
      go_simp
      with_reducible rfl
     rotate_left
     ·simp only [Act.put, sA, sZ, sS, i64_w, i32_w]
      rfl
     refine take_ (i := 64) (N := some 164) (v := ?_) (a' := ?_) #[T,T,T,T,T,T,T,T,T,T,T,T,T,T,T,T,T,T,T,T,T,T,T,T,T,T,T,T,T,T,T,T,T,T,T,T,T,T,T,T,T,T,T,T,T,T,T,T,T,T,T,T,T,T,T,T,T,T,T,T,T,T,T,F,T,F,F,F] rfl rfl (take_ofW HT_.out HW_.out (by kernel_rfl)) (fun _ _ _ h => h) (Or.inl ⟨by rfl, ?_⟩) hHeld ?_ ?_
     rotate_left
     ·rintro w' ⟨s0, s1⟩
      go_simp
      with_reducible rfl
     rotate_left
     ·simp only [Act.put, sA, sZ, sS, i64_w, i32_w]
      rfl
     refine one_ (i := 63) (N := some 163) #[T,T,T,T,T,T,T,T,T,T,T,T,T,T,T,T,T,T,T,T,T,T,T,T,T,T,T,T,T,T,T,T,T,T,T,T,T,T,T,T,T,T,T,T,T,T,T,T,T,T,T,T,T,T,T,T,T,T,T,T,T,T,T,T,T,F,F,F] rfl rfl (one_of HT_.out (by kernel_rfl)) (by decide) (fun K hK => ?_)
     refine goes_ Try.func24 (by kernel_rfl) rfl #[.agg #[.int .i64 a0_0, .slice A0_1 l0_1.length c0_1]] (by rfl) rfl rfl (by (try simp only [mA, mC, mN]); first | done | rfl) ?_
     with_reducible refine (impl_IsCommittee.calls k a0_0 _ _ l0_1 t120 _ (Kd.C_below HR0_1.out HB.out) HC0_1.out A49.out).mono ?_
     rintro e w53 ⟨rfl, hb⟩
     refine ⟨_, rfl, ?_⟩
     replace BK101 := Aside0.mk (blk_below BK101.out hb)
     replace BK102 := Aside0.mk (blk_below BK102.out hb)
     replace HB := Aside0.mk (below_step HB.out hb)
     (try clear hb)
     (try clear hb2)
     (try clear hk)
     (try clear hi)
     refine hK.out _ _ ⟨(blk_cell BK101.out 0).trans rfl, (blk_cell BK101.out 1).trans rfl⟩ (fun hHeld => ?_)
     clear hK K
     refine norm_ (a' := ?_) ?_ ?_
     rotate_left
     ·show Act.put _ (some 163) _ = _
      simp only [Act.put, sA, sZ, sS, i64_w, i32_w]
      rfl
     refine one_ (i := 65) (N := some 165) #[T,T,T,T,T,T,T,T,T,T,T,T,T,T,T,T,T,T,T,T,T,T,T,T,T,T,T,T,T,T,T,T,T,T,T,T,T,T,T,T,T,T,T,T,T,T,T,T,T,T,T,T,T,T,T,T,T,T,T,T,T,T,T,T,T,T,F,F] rfl rfl (one_of HT_.out (by kernel_rfl)) (by decide) (fun K hK => ?_)
     refine goes_ Try.func25 (by kernel_rfl) rfl #[.agg #[.int .i64 a0_0, .slice A0_1 l0_1.length c0_1]] (by rfl) rfl rfl (by (try simp only [mA, mC, mN]); first | done | rfl) ?_
     with_reducible refine (spec_IsCommittee.calls k a0_0 _ _ l0_1 t121 _ (Kd.C_below HR0_1.out HB.out) HC0_1.out A50.out).mono ?_
     rintro e w54 ⟨rfl, hb⟩
     refine ⟨_, rfl, ?_⟩
     replace BK101 := Aside0.mk (blk_below BK101.out hb)
     replace BK102 := Aside0.mk (blk_below BK102.out hb)
     replace HB := Aside0.mk (below_step HB.out hb)
     (try clear hb)
     (try clear hb2)
     (try clear hk)
     (try clear hi)
     refine hK.out _ _ ⟨(blk_cell BK101.out 0).trans rfl, (blk_cell BK101.out 1).trans rfl⟩ (fun hHeld => ?_)
     clear hK K
     refine norm_ (a' := ?_) ?_ ?_
     rotate_left
     ·show Act.put _ (some 165) _ = _
      simp only [Act.put, sA, sZ, sS, i64_w, i32_w]
      rfl
     refine pure_ (i := 66) (N := some 166) (v := ?_) (a' := ?_) #[T,T,T,T,T,T,T,T,T,T,T,T,T,T,T,T,T,T,T,T,T,T,T,T,T,T,T,T,T,T,T,T,T,T,T,T,T,T,T,T,T,T,T,T,T,T,T,T,T,T,T,T,T,T,T,T,T,T,T,T,T,T,T,T,T,T,T,F] rfl rfl (any_of HT_.out (by kernel_rfl)) (fun _ _ _ h => h) (Or.inl ⟨by rfl, ?_⟩) ?_ ?_
     rotate_left
     ·intro w'
      go_simp
      with_reducible rfl
     rotate_left
     ·simp only [Act.put, sA, sZ, sS, i64_w, i32_w]
      rfl
     refine pure_ (i := 67) (N := some 167) (v := ?_) (a' := ?_) #[T,T,T,T,T,T,T,T,T,T,T,T,T,T,T,T,T,T,T,T,T,T,T,T,T,T,T,T,T,T,T,T,T,T,T,T,T,T,T,T,T,T,T,T,T,T,T,T,T,T,T,T,T,T,T,T,T,T,T,T,T,T,T,T,T,T,T,T] rfl rfl (any_of HT_.out (by kernel_rfl)) (fun _ _ _ h => h) (Or.inl ⟨by rfl, ?_⟩) ?_ ?_
     rotate_left
     ·intro w'
      go_simp
      with_reducible rfl
     rotate_left
     ·simp only [Act.put, sA, sZ, sS, i64_w, i32_w]
      rfl
     refine done_ (done_of HT_.out (by kernel_rfl)) ?_
     try go_wp2
     refine meetT_ hJ_j0 (by kernel_rfl) ?rel
     case rel => exact ⟨_, ((t120 != t121)), (by first | rfl | (simp; done) | (simp [*]; done)), H', ⟨by first | omega | exact Nat.le_refl _⟩, ⟨by exact BK101.out⟩, ⟨by exact BK102.out⟩, ⟨by repeat (first | (with_reducible first | exact HB.out | apply ba | apply bd | apply be | refine bs ?_ GE101.out | refine bs ?_ GE102.out) | exact HB.out)⟩⟩
   ·replace c45 := Bool.eq_false_iff.mpr c45
    subst c45
    have H1 : ((impl_IsCommittee.f k a0_0 l0_1).bind fun t122 => (if (t118 != t122) = true then (none) else ((impl_IsCommittee.f k a0_0 l0_1).bind fun t123 => ((spec_IsCommittee.f k a0_0 l0_1).bind fun t124 => (laws_FnSetsWinOfAll.j0 k l1 t105 false t109 t111 t115 (t123 != t124) a0_0 l0_1 a2_0 l2_1))))) = some r := by rw [if_neg (show ¬ (false = true) by decide)] at H; exact H
    clear H
    have H := H1
    clear H1
    replace H := oB H
    obtain ⟨t122, A550, H⟩ := H
    (try dsimp only at H)
    have A55 := Aside0.mk A550
    clear A550
    replace H := ite_no H
    obtain ⟨c56, H⟩ := H
    replace c56 := of_nbne c56
    subst t118
    replace H := oB H
    obtain ⟨t123, A570, H⟩ := H
    (try dsimp only at H)
    have A57 := Aside0.mk A570
    clear A570
    replace H := oB H
    obtain ⟨t124, A580, H⟩ := H
    (try dsimp only at H)
    have A58 := Aside0.mk A580
    clear A580
    as_aux_lemma =>
     have H' := Aside0.mk H
     clear H
     try go_wp2
     replace BK101 := Aside0.mk (blk_drew BK101.out)
     replace BK102 := Aside0.mk (blk_drew BK102.out)
     replace HB := Aside0.mk (below_drew1 HB.out)
     refine start_ (n := 68) (S := fun w' => w'.cell? ⟨gb101, 0, none⟩ = some (.int .i64 a0_0) ∧ w'.cell? ⟨gb101, 1, none⟩ = some (.slice A0_1 l0_1.length c0_1)) (ds := []) #[F,F,F,F,F,F,F,F,F,F,F,F,F,F,F,F,F,F,F,F,F,F,F,F,F,F,F,F,F,F,F,F,F,F,F,F,F,F,F,F,F,F,F,F,F,F,F,F,F,F,F,F,F,F,F,F,F,F,F,F,F,F,F,F,F,F,F,F] (by kernel_rfl) rfl rfl ⟨(blk_cell BK101.out 0).trans rfl, (blk_cell BK101.out 1).trans rfl⟩ (fun hHeld => ?_); refine with_tabW laws_FnSetsWinOfAll.tab11 laws_FnSetsWinOfAll.bits11 (fun HT_ HW_ => ?_)
     generalize w34.drew = w59 at BK101 BK102 HB hHeld ⊢
     refine pure_ (i := 0) (N := some 100) (v := ?_) (a' := ?_) #[T,F,F,F,F,F,F,F,F,F,F,F,F,F,F,F,F,F,F,F,F,F,F,F,F,F,F,F,F,F,F,F,F,F,F,F,F,F,F,F,F,F,F,F,F,F,F,F,F,F,F,F,F,F,F,F,F,F,F,F,F,F,F,F,F,F,F,F] rfl rfl (any_of HT_.out (by kernel_rfl)) (fun _ _ _ h => h) (Or.inl ⟨by rfl, ?_⟩) ?_ ?_
     rotate_left
     ·intro w'
      go_simp
      with_reducible rfl
     rotate_left
     ·simp only [Act.put, sA, sZ, sS, i64_w, i32_w]
      rfl
     refine pure_ (i := 1) (N := some 101) (v := ?_) (a' := ?_) #[T,T,F,F,F,F,F,F,F,F,F,F,F,F,F,F,F,F,F,F,F,F,F,F,F,F,F,F,F,F,F,F,F,F,F,F,F,F,F,F,F,F,F,F,F,F,F,F,F,F,F,F,F,F,F,F,F,F,F,F,F,F,F,F,F,F,F,F] rfl rfl (any_of HT_.out (by kernel_rfl)) (fun _ _ _ h => h) (Or.inl ⟨by rfl, ?_⟩) ?_ ?_
     rotate_left
     ·intro w'
      go_simp
      with_reducible rfl
     rotate_left
     ·simp only [Act.put, sA, sZ, sS, i64_w, i32_w]
      rfl
     refine pure_ (i := 2) (N := some 102) (v := ?_) (a' := ?_) #[T,T,T,F,F,F,F,F,F,F,F,F,F,F,F,F,F,F,F,F,F,F,F,F,F,F,F,F,F,F,F,F,F,F,F,F,F,F,F,F,F,F,F,F,F,F,F,F,F,F,F,F,F,F,F,F,F,F,F,F,F,F,F,F,F,F,F,F] rfl rfl (any_of HT_.out (by kernel_rfl)) (fun _ _ _ h => h) (Or.inl ⟨by rfl, ?_⟩) ?_ ?_
     rotate_left
     ·intro w'
      go_simp
      with_reducible rfl
     rotate_left
     ·simp only [Act.put, sA, sZ, sS, i64_w, i32_w]
      rfl
     refine pure_ (i := 3) (N := some 103) (v := ?_) (a' := ?_) #[T,T,T,T,F,F,F,F,F,F,F,F,F,F,F,F,F,F,F,F,F,F,F,F,F,F,F,F,F,F,F,F,F,F,F,F,F,F,F,F,F,F,F,F,F,F,F,F,F,F,F,F,F,F,F,F,F,F,F,F,F,F,F,F,F,F,F,F] rfl rfl (any_of HT_.out (by kernel_rfl)) (fun _ _ _ h => h) (Or.inl ⟨by rfl, ?_⟩) ?_ ?_
     rotate_left
     ·intro w'
      go_simp
      with_reducible rfl
     rotate_left
     ·simp only [Act.put, sA, sZ, sS, i64_w, i32_w]
      rfl
     refine pure_ (i := 4) (N := some 104) (v := ?_) (a' := ?_) #[T,T,T,T,T,F,F,F,F,F,F,F,F,F,F,F,F,F,F,F,F,F,F,F,F,F,F,F,F,F,F,F,F,F,F,F,F,F,F,F,F,F,F,F,F,F,F,F,F,F,F,F,F,F,F,F,F,F,F,F,F,F,F,F,F,F,F,F] rfl rfl (any_of HT_.out (by kernel_rfl)) (fun _ _ _ h => h) (Or.inl ⟨by rfl, ?_⟩) ?_ ?_
     rotate_left
     ·intro w'
      go_simp
      with_reducible rfl
     rotate_left
     ·simp only [Act.put, sA, sZ, sS, i64_w, i32_w]
      rfl
     refine pure_ (i := 5) (N := some 105) (v := ?_) (a' := ?_) #[T,T,T,T,T,T,F,F,F,F,F,F,F,F,F,F,F,F,F,F,F,F,F,F,F,F,F,F,F,F,F,F,F,F,F,F,F,F,F,F,F,F,F,F,F,F,F,F,F,F,F,F,F,F,F,F,F,F,F,F,F,F,F,F,F,F,F,F] rfl rfl (any_of HT_.out (by kernel_rfl)) (fun _ _ _ h => h) (Or.inl ⟨by rfl, ?_⟩) ?_ ?_
     rotate_left
     ·intro w'
      go_simp
      with_reducible rfl
     rotate_left
     ·simp only [Act.put, sA, sZ, sS, i64_w, i32_w]
      rfl
     refine pure_ (i := 6) (N := some 106) (v := ?_) (a' := ?_) #[T,T,T,T,T,T,T,F,F,F,F,F,F,F,F,F,F,F,F,F,F,F,F,F,F,F,F,F,F,F,F,F,F,F,F,F,F,F,F,F,F,F,F,F,F,F,F,F,F,F,F,F,F,F,F,F,F,F,F,F,F,F,F,F,F,F,F,F] rfl rfl (any_of HT_.out (by kernel_rfl)) (fun _ _ _ h => h) (Or.inl ⟨by rfl, ?_⟩) ?_ ?_
     rotate_left
     ·intro w'
      go_simp
      with_reducible rfl
     rotate_left
     ·simp only [Act.put, sA, sZ, sS, i64_w, i32_w]
      rfl
     refine pure_ (i := 7) (N := some 107) (v := ?_) (a' := ?_) #[T,T,T,T,T,T,T,T,F,F,F,F,F,F,F,F,F,F,F,F,F,F,F,F,F,F,F,F,F,F,F,F,F,F,F,F,F,F,F,F,F,F,F,F,F,F,F,F,F,F,F,F,F,F,F,F,F,F,F,F,F,F,F,F,F,F,F,F] rfl rfl (any_of HT_.out (by kernel_rfl)) (fun _ _ _ h => h) (Or.inl ⟨by rfl, ?_⟩) ?_ ?_
     rotate_left
     ·intro w'
      go_simp
      with_reducible rfl
     rotate_left
     ·simp only [Act.put, sA, sZ, sS, i64_w, i32_w]
      rfl
     refine pure_ (i := 8) (N := some 108) (v := ?_) (a' := ?_) #[T,T,T,T,T,T,T,T,T,F,F,F,F,F,F,F,F,F,F,F,F,F,F,F,F,F,F,F,F,F,F,F,F,F,F,F,F,F,F,F,F,F,F,F,F,F,F,F,F,F,F,F,F,F,F,F,F,F,F,F,F,F,F,F,F,F,F,F] rfl rfl (any_of HT_.out (by kernel_rfl)) (fun _ _ _ h => h) (Or.inl ⟨by rfl, ?_⟩) ?_ ?_
     rotate_left
     ·intro w'
      go_simp
      with_reducible rfl
     rotate_left
     ·simp only [Act.put, sA, sZ, sS, i64_w, i32_w]
      rfl
     refine pure_ (i := 9) (N := some 109) (v := ?_) (a' := ?_) #[T,T,T,T,T,T,T,T,T,T,F,F,F,F,F,F,F,F,F,F,F,F,F,F,F,F,F,F,F,F,F,F,F,F,F,F,F,F,F,F,F,F,F,F,F,F,F,F,F,F,F,F,F,F,F,F,F,F,F,F,F,F,F,F,F,F,F,F] rfl rfl (any_of HT_.out (by kernel_rfl)) (fun _ _ _ h => h) (Or.inl ⟨by rfl, ?_⟩) ?_ ?_
     rotate_left
     ·intro w'
      go_simp
      with_reducible rfl
     rotate_left
     ·simp only [Act.put, sA, sZ, sS, i64_w, i32_w]
      rfl
     refine pure_ (i := 10) (N := some 110) (v := ?_) (a' := ?_) #[T,T,T,T,T,T,T,T,T,T,T,F,F,F,F,F,F,F,F,F,F,F,F,F,F,F,F,F,F,F,F,F,F,F,F,F,F,F,F,F,F,F,F,F,F,F,F,F,F,F,F,F,F,F,F,F,F,F,F,F,F,F,F,F,F,F,F,F] rfl rfl (any_of HT_.out (by kernel_rfl)) (fun _ _ _ h => h) (Or.inl ⟨by rfl, ?_⟩) ?_ ?_
     rotate_left
     ·intro w'
      go_simp
      with_reducible rfl
     rotate_left
     ·simp only [Act.put, sA, sZ, sS, i64_w, i32_w]
      rfl
     refine pure_ (i := 11) (N := some 111) (v := ?_) (a' := ?_) #[T,T,T,T,T,T,T,T,T,T,T,T,F,F,F,F,F,F,F,F,F,F,F,F,F,F,F,F,F,F,F,F,F,F,F,F,F,F,F,F,F,F,F,F,F,F,F,F,F,F,F,F,F,F,F,F,F,F,F,F,F,F,F,F,F,F,F,F] rfl rfl (any_of HT_.out (by kernel_rfl)) (fun _ _ _ h => h) (Or.inl ⟨by rfl, ?_⟩) ?_ ?_
     rotate_left
     ·intro w'
      go_simp
      with_reducible rfl
     rotate_left
     ·simp only [Act.put, sA, sZ, sS, i64_w, i32_w]
      rfl
     refine pure_ (i := 12) (N := some 112) (v := ?_) (a' := ?_) #[T,T,T,T,T,T,T,T,T,T,T,T,T,F,F,F,F,F,F,F,F,F,F,F,F,F,F,F,F,F,F,F,F,F,F,F,F,F,F,F,F,F,F,F,F,F,F,F,F,F,F,F,F,F,F,F,F,F,F,F,F,F,F,F,F,F,F,F] rfl rfl (any_of HT_.out (by kernel_rfl)) (fun _ _ _ h => h) (Or.inl ⟨by rfl, ?_⟩) ?_ ?_
     rotate_left
     ·intro w'
      go_simp
      with_reducible rfl
     rotate_left
     ·simp only [Act.put, sA, sZ, sS, i64_w, i32_w]
      rfl
     refine pure_ (i := 13) (N := some 113) (v := ?_) (a' := ?_) #[T,T,T,T,T,T,T,T,T,T,T,T,T,T,F,F,F,F,F,F,F,F,F,F,F,F,F,F,F,F,F,F,F,F,F,F,F,F,F,F,F,F,F,F,F,F,F,F,F,F,F,F,F,F,F,F,F,F,F,F,F,F,F,F,F,F,F,F] rfl rfl (any_of HT_.out (by kernel_rfl)) (fun _ _ _ h => h) (Or.inl ⟨by rfl, ?_⟩) ?_ ?_
     rotate_left
     ·intro w'
      go_simp
      with_reducible rfl
     rotate_left
     ·simp only [Act.put, sA, sZ, sS, i64_w, i32_w]
      rfl
     refine pure_ (i := 14) (N := some 114) (v := ?_) (a' := ?_) #[T,T,T,T,T,T,T,T,T,T,T,T,T,T,T,F,F,F,F,F,F,F,F,F,F,F,F,F,F,F,F,F,F,F,F,F,F,F,F,F,F,F,F,F,F,F,F,F,F,F,F,F,F,F,F,F,F,F,F,F,F,F,F,F,F,F,F,F] rfl rfl (any_of HT_.out (by kernel_rfl)) (fun _ _ _ h => h) (Or.inl ⟨by rfl, ?_⟩) ?_ ?_
     rotate_left
     ·intro w'
      go_simp
      with_reducible rfl
     rotate_left
     ·simp only [Act.put, sA, sZ, sS, i64_w, i32_w]
      rfl
     refine pure_ (i := 15) (N := some 115) (v := ?_) (a' := ?_) #[T,T,T,T,T,T,T,T,T,T,T,T,T,T,T,T,F,F,F,F,F,F,F,F,F,F,F,F,F,F,F,F,F,F,F,F,F,F,F,F,F,F,F,F,F,F,F,F,F,F,F,F,F,F,F,F,F,F,F,F,F,F,F,F,F,F,F,F] rfl rfl (any_of HT_.out (by kernel_rfl)) (fun _ _ _ h => h) (Or.inl ⟨by rfl, ?_⟩) ?_ ?_
     rotate_left
     ·intro w'
      go_simp
      with_reducible rfl
     rotate_left
     ·simp only [Act.put, sA, sZ, sS, i64_w, i32_w]
      rfl
     refine pure_ (i := 16) (N := some 116) (v := ?_) (a' := ?_) #[T,T,T,T,T,T,T,T,T,T,T,T,T,T,T,T,T,F,F,F,F,F,F,F,F,F,F,F,F,F,F,F,F,F,F,F,F,F,F,F,F,F,F,F,F,F,F,F,F,F,F,F,F,F,F,F,F,F,F,F,F,F,F,F,F,F,F,F] rfl rfl (any_of HT_.out (by kernel_rfl)) (fun _ _ _ h => h) (Or.inl ⟨by rfl, ?_⟩) ?_ ?_
     rotate_left
     ·intro w'
      go_simp
      with_reducible rfl
     rotate_left
     ·simp only [Act.put, sA, sZ, sS, i64_w, i32_w]
      rfl
     refine pure_ (i := 17) (N := some 117) (v := ?_) (a' := ?_) #[T,T,T,T,T,T,T,T,T,T,T,T,T,T,T,T,T,T,F,F,F,F,F,F,F,F,F,F,F,F,F,F,F,F,F,F,F,F,F,F,F,F,F,F,F,F,F,F,F,F,F,F,F,F,F,F,F,F,F,F,F,F,F,F,F,F,F,F] rfl rfl (any_of HT_.out (by kernel_rfl)) (fun _ _ _ h => h) (Or.inl ⟨by rfl, ?_⟩) ?_ ?_
     rotate_left
     ·intro w'
      go_simp
      with_reducible rfl
     rotate_left
     ·simp only [Act.put, sA, sZ, sS, i64_w, i32_w]
      rfl
     refine pure_ (i := 18) (N := some 118) (v := ?_) (a' := ?_) #[T,T,T,T,T,T,T,T,T,T,T,T,T,T,T,T,T,T,T,F,F,F,F,F,F,F,F,F,F,F,F,F,F,F,F,F,F,F,F,F,F,F,F,F,F,F,F,F,F,F,F,F,F,F,F,F,F,F,F,F,F,F,F,F,F,F,F,F] rfl rfl (any_of HT_.out (by kernel_rfl)) (fun _ _ _ h => h) (Or.inl ⟨by rfl, ?_⟩) ?_ ?_
     rotate_left
     ·intro w'
      go_simp
      with_reducible rfl
     rotate_left
     ·simp only [Act.put, sA, sZ, sS, i64_w, i32_w]
      rfl
     refine pure_ (i := 19) (N := some 119) (v := ?_) (a' := ?_) #[T,T,T,T,T,T,T,T,T,T,T,T,T,T,T,T,T,T,T,T,F,F,F,F,F,F,F,F,F,F,F,F,F,F,F,F,F,F,F,F,F,F,F,F,F,F,F,F,F,F,F,F,F,F,F,F,F,F,F,F,F,F,F,F,F,F,F,F] rfl rfl (any_of HT_.out (by kernel_rfl)) (fun _ _ _ h => h) (Or.inl ⟨by rfl, ?_⟩) ?_ ?_
     rotate_left
     ·intro w'
      go_simp
      with_reducible rfl
     rotate_left
     ·simp only [Act.put, sA, sZ, sS, i64_w, i32_w]
      rfl
     refine pure_ (i := 20) (N := some 120) (v := ?_) (a' := ?_) #[T,T,T,T,T,T,T,T,T,T,T,T,T,T,T,T,T,T,T,T,T,F,F,F,F,F,F,F,F,F,F,F,F,F,F,F,F,F,F,F,F,F,F,F,F,F,F,F,F,F,F,F,F,F,F,F,F,F,F,F,F,F,F,F,F,F,F,F] rfl rfl (any_of HT_.out (by kernel_rfl)) (fun _ _ _ h => h) (Or.inl ⟨by rfl, ?_⟩) ?_ ?_
     rotate_left
     ·intro w'
      go_simp
      with_reducible rfl
     rotate_left
     ·simp only [Act.put, sA, sZ, sS, i64_w, i32_w]
      rfl
     refine pure_ (i := 21) (N := some 121) (v := ?_) (a' := ?_) #[T,T,T,T,T,T,T,T,T,T,T,T,T,T,T,T,T,T,T,T,T,T,F,F,F,F,F,F,F,F,F,F,F,F,F,F,F,F,F,F,F,F,F,F,F,F,F,F,F,F,F,F,F,F,F,F,F,F,F,F,F,F,F,F,F,F,F,F] rfl rfl (any_of HT_.out (by kernel_rfl)) (fun _ _ _ h => h) (Or.inl ⟨by rfl, ?_⟩) ?_ ?_
     rotate_left
     ·intro w'
      go_simp
      with_reducible rfl
     rotate_left
     ·simp only [Act.put, sA, sZ, sS, i64_w, i32_w]
      rfl
     refine pure_ (i := 22) (N := some 122) (v := ?_) (a' := ?_) #[T,T,T,T,T,T,T,T,T,T,T,T,T,T,T,T,T,T,T,T,T,T,T,F,F,F,F,F,F,F,F,F,F,F,F,F,F,F,F,F,F,F,F,F,F,F,F,F,F,F,F,F,F,F,F,F,F,F,F,F,F,F,F,F,F,F,F,F] rfl rfl (any_of HT_.out (by kernel_rfl)) (fun _ _ _ h => h) (Or.inl ⟨by rfl, ?_⟩) ?_ ?_
     rotate_left
     ·intro w'
      go_simp
      with_reducible rfl
     rotate_left
     ·simp only [Act.put, sA, sZ, sS, i64_w, i32_w]
      rfl
     refine pure_ (i := 23) (N := some 123) (v := ?_) (a' := ?_) #[T,T,T,T,T,T,T,T,T,T,T,T,T,T,T,T,T,T,T,T,T,T,T,T,F,F,F,F,F,F,F,F,F,F,F,F,F,F,F,F,F,F,F,F,F,F,F,F,F,F,F,F,F,F,F,F,F,F,F,F,F,F,F,F,F,F,F,F] rfl rfl (any_of HT_.out (by kernel_rfl)) (fun _ _ _ h => h) (Or.inl ⟨by rfl, ?_⟩) ?_ ?_
     rotate_left
     ·intro w'
      go_simp
      with_reducible rfl
     rotate_left
     ·simp only [Act.put, sA, sZ, sS, i64_w, i32_w]
      rfl
     refine pure_ (i := 24) (N := some 124) (v := ?_) (a' := ?_) #[T,T,T,T,T,T,T,T,T,T,T,T,T,T,T,T,T,T,T,T,T,T,T,T,T,F,F,F,F,F,F,F,F,F,F,F,F,F,F,F,F,F,F,F,F,F,F,F,F,F,F,F,F,F,F,F,F,F,F,F,F,F,F,F,F,F,F,F] rfl rfl (any_of HT_.out (by kernel_rfl)) (fun _ _ _ h => h) (Or.inl ⟨by rfl, ?_⟩) ?_ ?_
     rotate_left
     ·intro w'
      go_simp
      with_reducible rfl
     rotate_left
     ·simp only [Act.put, sA, sZ, sS, i64_w, i32_w]
      rfl
     refine pure_ (i := 25) (N := some 125) (v := ?_) (a' := ?_) #[T,T,T,T,T,T,T,T,T,T,T,T,T,T,T,T,T,T,T,T,T,T,T,T,T,T,F,F,F,F,F,F,F,F,F,F,F,F,F,F,F,F,F,F,F,F,F,F,F,F,F,F,F,F,F,F,F,F,F,F,F,F,F,F,F,F,F,F] rfl rfl (any_of HT_.out (by kernel_rfl)) (fun _ _ _ h => h) (Or.inl ⟨by rfl, ?_⟩) ?_ ?_
     rotate_left
     ·intro w'
      go_simp
      with_reducible rfl
     rotate_left
     ·simp only [Act.put, sA, sZ, sS, i64_w, i32_w]
      rfl
     refine pure_ (i := 26) (N := some 126) (v := ?_) (a' := ?_) #[T,T,T,T,T,T,T,T,T,T,T,T,T,T,T,T,T,T,T,T,T,T,T,T,T,T,T,F,F,F,F,F,F,F,F,F,F,F,F,F,F,F,F,F,F,F,F,F,F,F,F,F,F,F,F,F,F,F,F,F,F,F,F,F,F,F,F,F] rfl rfl (any_of HT_.out (by kernel_rfl)) (fun _ _ _ h => h) (Or.inl ⟨by rfl, ?_⟩) ?_ ?_
     rotate_left
     ·intro w'
      go_simp
      with_reducible rfl
     rotate_left
     ·simp only [Act.put, sA, sZ, sS, i64_w, i32_w]
      rfl
     refine pure_ (i := 27) (N := some 127) (v := ?_) (a' := ?_) #[T,T,T,T,T,T,T,T,T,T,T,T,T,T,T,T,T,T,T,T,T,T,T,T,T,T,T,T,F,F,F,F,F,F,F,F,F,F,F,F,F,F,F,F,F,F,F,F,F,F,F,F,F,F,F,F,F,F,F,F,F,F,F,F,F,F,F,F] rfl rfl (any_of HT_.out (by kernel_rfl)) (fun _ _ _ h => h) (Or.inl ⟨by rfl, ?_⟩) ?_ ?_
     rotate_left
     ·intro w'
      go_simp
      with_reducible rfl
     rotate_left
     ·simp only [Act.put, sA, sZ, sS, i64_w, i32_w]
      rfl
     refine pure_ (i := 28) (N := some 128) (v := ?_) (a' := ?_) #[T,T,T,T,T,T,T,T,T,T,T,T,T,T,T,T,T,T,T,T,T,T,T,T,T,T,T,T,T,F,F,F,F,F,F,F,F,F,F,F,F,F,F,F,F,F,F,F,F,F,F,F,F,F,F,F,F,F,F,F,F,F,F,F,F,F,F,F] rfl rfl (any_of HT_.out (by kernel_rfl)) (fun _ _ _ h => h) (Or.inl ⟨by rfl, ?_⟩) ?_ ?_
     rotate_left
     ·intro w'
      go_simp
      with_reducible rfl
     rotate_left
     ·simp only [Act.put, sA, sZ, sS, i64_w, i32_w]
      rfl
     refine pure_ (i := 29) (N := some 129) (v := ?_) (a' := ?_) #[T,T,T,T,T,T,T,T,T,T,T,T,T,T,T,T,T,T,T,T,T,T,T,T,T,T,T,T,T,T,F,F,F,F,F,F,F,F,F,F,F,F,F,F,F,F,F,F,F,F,F,F,F,F,F,F,F,F,F,F,F,F,F,F,F,F,F,F] rfl rfl (any_of HT_.out (by kernel_rfl)) (fun _ _ _ h => h) (Or.inl ⟨by rfl, ?_⟩) ?_ ?_
     rotate_left
     ·intro w'
      go_simp
      with_reducible rfl
     rotate_left
     ·simp only [Act.put, sA, sZ, sS, i64_w, i32_w]
      rfl
     refine pure_ (i := 30) (N := some 130) (v := ?_) (a' := ?_) #[T,T,T,T,T,T,T,T,T,T,T,T,T,T,T,T,T,T,T,T,T,T,T,T,T,T,T,T,T,T,T,F,F,F,F,F,F,F,F,F,F,F,F,F,F,F,F,F,F,F,F,F,F,F,F,F,F,F,F,F,F,F,F,F,F,F,F,F] rfl rfl (any_of HT_.out (by kernel_rfl)) (fun _ _ _ h => h) (Or.inl ⟨by rfl, ?_⟩) ?_ ?_
     rotate_left
     ·intro w'
      go_simp
      with_reducible rfl
     rotate_left
     ·simp only [Act.put, sA, sZ, sS, i64_w, i32_w]
      rfl
     refine pure_ (i := 31) (N := some 131) (v := ?_) (a' := ?_) #[T,T,T,T,T,T,T,T,T,T,T,T,T,T,T,T,T,T,T,T,T,T,T,T,T,T,T,T,T,T,T,T,F,F,F,F,F,F,F,F,F,F,F,F,F,F,F,F,F,F,F,F,F,F,F,F,F,F,F,F,F,F,F,F,F,F,F,F] rfl rfl (any_of HT_.out (by kernel_rfl)) (fun _ _ _ h => h) (Or.inl ⟨by rfl, ?_⟩) ?_ ?_
     rotate_left
     ·intro w'
      go_simp
      with_reducible rfl
     rotate_left
     ·simp only [Act.put, sA, sZ, sS, i64_w, i32_w]
      rfl
     refine pure_ (i := 32) (N := some 132) (v := ?_) (a' := ?_) #[T,T,T,T,T,T,T,T,T,T,T,T,T,T,T,T,T,T,T,T,T,T,T,T,T,T,T,T,T,T,T,T,T,F,F,F,F,F,F,F,F,F,F,F,F,F,F,F,F,F,F,F,F,F,F,F,F,F,F,F,F,F,F,F,F,F,F,F] rfl rfl (any_of HT_.out (by kernel_rfl)) (fun _ _ _ h => h) (Or.inl ⟨by rfl, ?_⟩) ?_ ?_
     rotate_left
     ·intro w'
      go_simp
      with_reducible rfl
     rotate_left
     ·simp only [Act.put, sA, sZ, sS, i64_w, i32_w]
      rfl
     refine pure_ (i := 33) (N := some 133) (v := ?_) (a' := ?_) #[T,T,T,T,T,T,T,T,T,T,T,T,T,T,T,T,T,T,T,T,T,T,T,T,T,T,T,T,T,T,T,T,T,T,F,F,F,F,F,F,F,F,F,F,F,F,F,F,F,F,F,F,F,F,F,F,F,F,F,F,F,F,F,F,F,F,F,F] rfl rfl (any_of HT_.out (by kernel_rfl)) (fun _ _ _ h => h) (Or.inl ⟨by rfl, ?_⟩) ?_ ?_
     rotate_left
     ·intro w'
      go_simp
      with_reducible rfl
     rotate_left
     ·simp only [Act.put, sA, sZ, sS, i64_w, i32_w]
      rfl
     refine pure_ (i := 34) (N := some 134) (v := ?_) (a' := ?_) #[T,T,T,T,T,T,T,T,T,T,T,T,T,T,T,T,T,T,T,T,T,T,T,T,T,T,T,T,T,T,T,T,T,T,T,F,F,F,F,F,F,F,F,F,F,F,F,F,F,F,F,F,F,F,F,F,F,F,F,F,F,F,F,F,F,F,F,F] rfl rfl (any_of HT_.out (by kernel_rfl)) (fun _ _ _ h => h) (Or.inl ⟨by rfl, ?_⟩) ?_ ?_
     rotate_left
     ·intro w'
      go_simp
      with_reducible rfl
     rotate_left
     ·simp only [Act.put, sA, sZ, sS, i64_w, i32_w]
      rfl
     refine pure_ (i := 35) (N := some 135) (v := ?_) (a' := ?_) #[T,T,T,T,T,T,T,T,T,T,T,T,T,T,T,T,T,T,T,T,T,T,T,T,T,T,T,T,T,T,T,T,T,T,T,T,F,F,F,F,F,F,F,F,F,F,F,F,F,F,F,F,F,F,F,F,F,F,F,F,F,F,F,F,F,F,F,F] rfl rfl (any_of HT_.out (by kernel_rfl)) (fun _ _ _ h => h) (Or.inl ⟨by rfl, ?_⟩) ?_ ?_
     rotate_left
     ·intro w'
      go_simp
      with_reducible rfl
     rotate_left
     ·simp only [Act.put, sA, sZ, sS, i64_w, i32_w]
      rfl
     refine pure_ (i := 36) (N := some 136) (v := ?_) (a' := ?_) #[T,T,T,T,T,T,T,T,T,T,T,T,T,T,T,T,T,T,T,T,T,T,T,T,T,T,T,T,T,T,T,T,T,T,T,T,T,F,F,F,F,F,F,F,F,F,F,F,F,F,F,F,F,F,F,F,F,F,F,F,F,F,F,F,F,F,F,F] rfl rfl (any_of HT_.out (by kernel_rfl)) (fun _ _ _ h => h) (Or.inl ⟨by rfl, ?_⟩) ?_ ?_
     rotate_left
     ·intro w'
      go_simp
      with_reducible rfl
     rotate_left
     ·simp only [Act.put, sA, sZ, sS, i64_w, i32_w]
      rfl
     refine pure_ (i := 37) (N := some 137) (v := ?_) (a' := ?_) #[T,T,T,T,T,T,T,T,T,T,T,T,T,T,T,T,T,T,T,T,T,T,T,T,T,T,T,T,T,T,T,T,T,T,T,T,T,T,F,F,F,F,F,F,F,F,F,F,F,F,F,F,F,F,F,F,F,F,F,F,F,F,F,F,F,F,F,F] rfl rfl (any_of HT_.out (by kernel_rfl)) (fun _ _ _ h => h) (Or.inl ⟨by rfl, ?_⟩) ?_ ?_
     rotate_left
     ·intro w'
      go_simp
      with_reducible rfl
     rotate_left
     ·simp only [Act.put, sA, sZ, sS, i64_w, i32_w]
      rfl
     refine pure_ (i := 38) (N := some 138) (v := ?_) (a' := ?_) #[T,T,T,T,T,T,T,T,T,T,T,T,T,T,T,T,T,T,T,T,T,T,T,T,T,T,T,T,T,T,T,T,T,T,T,T,T,T,T,F,F,F,F,F,F,F,F,F,F,F,F,F,F,F,F,F,F,F,F,F,F,F,F,F,F,F,F,F] rfl rfl (any_of HT_.out (by kernel_rfl)) (fun _ _ _ h => h) (Or.inl ⟨by rfl, ?_⟩) ?_ ?_
     rotate_left
     ·intro w'
      go_simp
      with_reducible rfl
     rotate_left
     ·simp only [Act.put, sA, sZ, sS, i64_w, i32_w]
      rfl
     refine pure_ (i := 39) (N := some 139) (v := ?_) (a' := ?_) #[T,T,T,T,T,T,T,T,T,T,T,T,T,T,T,T,T,T,T,T,T,T,T,T,T,T,T,T,T,T,T,T,T,T,T,T,T,T,T,T,F,F,F,F,F,F,F,F,F,F,F,F,F,F,F,F,F,F,F,F,F,F,F,F,F,F,F,F] rfl rfl (any_of HT_.out (by kernel_rfl)) (fun _ _ _ h => h) (Or.inl ⟨by rfl, ?_⟩) ?_ ?_
     rotate_left
     ·intro w'
      go_simp
      with_reducible rfl
     rotate_left
     ·simp only [Act.put, sA, sZ, sS, i64_w, i32_w]
      rfl
     refine pure_ (i := 40) (N := some 140) (v := ?_) (a' := ?_) #[T,T,T,T,T,T,T,T,T,T,T,T,T,T,T,T,T,T,T,T,T,T,T,T,T,T,T,T,T,T,T,T,T,T,T,T,T,T,T,T,T,F,F,F,F,F,F,F,F,F,F,F,F,F,F,F,F,F,F,F,F,F,F,F,F,F,F,F] rfl rfl (any_of HT_.out (by kernel_rfl)) (fun _ _ _ h => h) (Or.inl ⟨by rfl, ?_⟩) ?_ ?_
     rotate_left
     ·intro w'
      go_simp
      with_reducible rfl
     rotate_left
     ·simp only [Act.put, sA, sZ, sS, i64_w, i32_w]
      rfl
     refine pure_ (i := 41) (N := some 141) (v := ?_) (a' := ?_) #[T,T,T,T,T,T,T,T,T,T,T,T,T,T,T,T,T,T,T,T,T,T,T,T,T,T,T,T,T,T,T,T,T,T,T,T,T,T,T,T,T,T,F,F,F,F,F,F,F,F,F,F,F,F,F,F,F,F,F,F,F,F,F,F,F,F,F,F] rfl rfl (any_of HT_.out (by kernel_rfl)) (fun _ _ _ h => h) (Or.inl ⟨by rfl, ?_⟩) ?_ ?_
     rotate_left
     ·intro w'
      go_simp
      with_reducible rfl
     rotate_left
     ·simp only [Act.put, sA, sZ, sS, i64_w, i32_w]
      rfl
     refine pure_ (i := 42) (N := some 142) (v := ?_) (a' := ?_) #[T,T,T,T,T,T,T,T,T,T,T,T,T,T,T,T,T,T,T,T,T,T,T,T,T,T,T,T,T,T,T,T,T,T,T,T,T,T,T,T,T,T,T,F,F,F,F,F,F,F,F,F,F,F,F,F,F,F,F,F,F,F,F,F,F,F,F,F] rfl rfl (any_of HT_.out (by kernel_rfl)) (fun _ _ _ h => h) (Or.inl ⟨by rfl, ?_⟩) ?_ ?_
     rotate_left
     ·intro w'
      go_simp
      with_reducible rfl
     rotate_left
     ·simp only [Act.put, sA, sZ, sS, i64_w, i32_w]
      rfl
     refine pure_ (i := 43) (N := some 143) (v := ?_) (a' := ?_) #[T,T,T,T,T,T,T,T,T,T,T,T,T,T,T,T,T,T,T,T,T,T,T,T,T,T,T,T,T,T,T,T,T,T,T,T,T,T,T,T,T,T,T,T,F,F,F,F,F,F,F,F,F,F,F,F,F,F,F,F,F,F,F,F,F,F,F,F] rfl rfl (any_of HT_.out (by kernel_rfl)) (fun _ _ _ h => h) (Or.inl ⟨by rfl, ?_⟩) ?_ ?_
     rotate_left
     ·intro w'
      go_simp
      with_reducible rfl
     rotate_left
     ·simp only [Act.put, sA, sZ, sS, i64_w, i32_w]
      rfl
     refine pure_ (i := 44) (N := some 144) (v := ?_) (a' := ?_) #[T,T,T,T,T,T,T,T,T,T,T,T,T,T,T,T,T,T,T,T,T,T,T,T,T,T,T,T,T,T,T,T,T,T,T,T,T,T,T,T,T,T,T,T,T,F,F,F,F,F,F,F,F,F,F,F,F,F,F,F,F,F,F,F,F,F,F,F] rfl rfl (any_of HT_.out (by kernel_rfl)) (fun _ _ _ h => h) (Or.inl ⟨by rfl, ?_⟩) ?_ ?_
     rotate_left
     ·intro w'
      go_simp
      with_reducible rfl
     rotate_left
     ·simp only [Act.put, sA, sZ, sS, i64_w, i32_w]
      rfl
     refine pure_ (i := 45) (N := some 145) (v := ?_) (a' := ?_) #[T,T,T,T,T,T,T,T,T,T,T,T,T,T,T,T,T,T,T,T,T,T,T,T,T,T,T,T,T,T,T,T,T,T,T,T,T,T,T,T,T,T,T,T,T,T,F,F,F,F,F,F,F,F,F,F,F,F,F,F,F,F,F,F,F,F,F,F] rfl rfl (any_of HT_.out (by kernel_rfl)) (fun _ _ _ h => h) (Or.inl ⟨by rfl, ?_⟩) ?_ ?_
     rotate_left
     ·intro w'
      go_simp
      with_reducible rfl
     rotate_left
     ·simp only [Act.put, sA, sZ, sS, i64_w, i32_w]
      rfl
     refine pure_ (i := 46) (N := some 146) (v := ?_) (a' := ?_) #[T,T,T,T,T,T,T,T,T,T,T,T,T,T,T,T,T,T,T,T,T,T,T,T,T,T,T,T,T,T,T,T,T,T,T,T,T,T,T,T,T,T,T,T,T,T,T,F,F,F,F,F,F,F,F,F,F,F,F,F,F,F,F,F,F,F,F,F] rfl rfl (any_of HT_.out (by kernel_rfl)) (fun _ _ _ h => h) (Or.inl ⟨by rfl, ?_⟩) ?_ ?_
     rotate_left
     ·intro w'
      go_simp
      with_reducible rfl
     rotate_left
     ·simp only [Act.put, sA, sZ, sS, i64_w, i32_w]
      rfl
     refine pure_ (i := 47) (N := some 147) (v := ?_) (a' := ?_) #[T,T,T,T,T,T,T,T,T,T,T,T,T,T,T,T,T,T,T,T,T,T,T,T,T,T,T,T,T,T,T,T,T,T,T,T,T,T,T,T,T,T,T,T,T,T,T,T,F,F,F,F,F,F,F,F,F,F,F,F,F,F,F,F,F,F,F,F] rfl rfl (any_of HT_.out (by kernel_rfl)) (fun _ _ _ h => h) (Or.inl ⟨by rfl, ?_⟩) ?_ ?_
     rotate_left
     ·intro w'
      go_simp
      with_reducible rfl
     rotate_left
     ·simp only [Act.put, sA, sZ, sS, i64_w, i32_w]
      rfl
     refine pure_ (i := 48) (N := some 148) (v := ?_) (a' := ?_) #[T,T,T,T,T,T,T,T,T,T,T,T,T,T,T,T,T,T,T,T,T,T,T,T,T,T,T,T,T,T,T,T,T,T,T,T,T,T,T,T,T,T,T,T,T,T,T,T,T,F,F,F,F,F,F,F,F,F,F,F,F,F,F,F,F,F,F,F] rfl rfl (any_of HT_.out (by kernel_rfl)) (fun _ _ _ h => h) (Or.inl ⟨by rfl, ?_⟩) ?_ ?_
     rotate_left
     ·intro w'
      go_simp
      with_reducible rfl
     rotate_left
     ·simp only [Act.put, sA, sZ, sS, i64_w, i32_w]
      rfl
     refine pure_ (i := 49) (N := some 149) (v := ?_) (a' := ?_) #[T,T,T,T,T,T,T,T,T,T,T,T,T,T,T,T,T,T,T,T,T,T,T,T,T,T,T,T,T,T,T,T,T,T,T,T,T,T,T,T,T,T,T,T,T,T,T,T,T,T,F,F,F,F,F,F,F,F,F,F,F,F,F,F,F,F,F,F] rfl rfl (any_of HT_.out (by kernel_rfl)) (fun _ _ _ h => h) (Or.inl ⟨by rfl, ?_⟩) ?_ ?_
     rotate_left
     ·intro w'
      go_simp
      with_reducible rfl
     rotate_left
     ·simp only [Act.put, sA, sZ, sS, i64_w, i32_w]
      rfl
     refine pure_ (i := 50) (N := some 150) (v := ?_) (a' := ?_) #[T,T,T,T,T,T,T,T,T,T,T,T,T,T,T,T,T,T,T,T,T,T,T,T,T,T,T,T,T,T,T,T,T,T,T,T,T,T,T,T,T,T,T,T,T,T,T,T,T,T,T,F,F,F,F,F,F,F,F,F,F,F,F,F,F,F,F,F] rfl rfl (any_of HT_.out (by kernel_rfl)) (fun _ _ _ h => h) (Or.inl ⟨by rfl, ?_⟩) ?_ ?_
     rotate_left
     ·intro w'
      go_simp
      with_reducible rfl
     rotate_left
     ·simp only [Act.put, sA, sZ, sS, i64_w, i32_w]
      rfl
     refine pure_ (i := 51) (N := some 151) (v := undef) (a' := ?_) #[T,T,T,T,T,T,T,T,T,T,T,T,T,T,T,T,T,T,T,T,T,T,T,T,T,T,T,T,T,T,T,T,T,T,T,T,T,T,T,T,T,T,T,T,T,T,T,T,T,T,T,T,F,F,F,F,F,F,F,F,F,F,F,F,F,F,F,F] rfl rfl (any_of HT_.out (by kernel_rfl)) (fun _ _ _ h => h) (Or.inr ⟨by rfl, rfl⟩) ?_ ?_
     rotate_left
     ·simp only [Act.put, sA, sZ, sS, i64_w, i32_w]
      rfl
     refine pure_ (i := 52) (N := some 152) (v := undef) (a' := ?_) #[T,T,T,T,T,T,T,T,T,T,T,T,T,T,T,T,T,T,T,T,T,T,T,T,T,T,T,T,T,T,T,T,T,T,T,T,T,T,T,T,T,T,T,T,T,T,T,T,T,T,T,T,T,F,F,F,F,F,F,F,F,F,F,F,F,F,F,F] rfl rfl (any_of HT_.out (by kernel_rfl)) (fun _ _ _ h => h) (Or.inr ⟨by rfl, rfl⟩) ?_ ?_
     rotate_left
     ·simp only [Act.put, sA, sZ, sS, i64_w, i32_w]
      rfl
     refine pure_ (i := 53) (N := some 153) (v := ?_) (a' := ?_) #[T,T,T,T,T,T,T,T,T,T,T,T,T,T,T,T,T,T,T,T,T,T,T,T,T,T,T,T,T,T,T,T,T,T,T,T,T,T,T,T,T,T,T,T,T,T,T,T,T,T,T,T,T,T,F,F,F,F,F,F,F,F,F,F,F,F,F,F] rfl rfl (any_of HT_.out (by kernel_rfl)) (fun _ _ _ h => h) (Or.inl ⟨by rfl, ?_⟩) ?_ ?_
     rotate_left
     ·intro w'
      go_simp
      with_reducible rfl
     rotate_left
     ·simp only [Act.put, sA, sZ, sS, i64_w, i32_w]
      rfl
     refine pure_ (i := 54) (N := some 154) (v := ?_) (a' := ?_) #[T,T,T,T,T,T,T,T,T,T,T,T,T,T,T,T,T,T,T,T,T,T,T,T,T,T,T,T,T,T,T,T,T,T,T,T,T,T,T,T,T,T,T,T,T,T,T,T,T,T,T,T,T,T,T,F,F,F,F,F,F,F,F,F,F,F,F,F] rfl rfl (any_of HT_.out (by kernel_rfl)) (fun _ _ _ h => h) (Or.inl ⟨by rfl, ?_⟩) ?_ ?_
     rotate_left
     ·intro w'
      go_simp
      with_reducible rfl
     rotate_left
     ·simp only [Act.put, sA, sZ, sS, i64_w, i32_w]
      rfl
     refine pure_ (i := 55) (N := some 155) (v := ?_) (a' := ?_) #[T,T,T,T,T,T,T,T,T,T,T,T,T,T,T,T,T,T,T,T,T,T,T,T,T,T,T,T,T,T,T,T,T,T,T,T,T,T,T,T,T,T,T,T,T,T,T,T,T,T,T,T,T,T,T,T,F,F,F,F,F,F,F,F,F,F,F,F] rfl rfl (any_of HT_.out (by kernel_rfl)) (fun _ _ _ h => h) (Or.inl ⟨by rfl, ?_⟩) ?_ ?_
     rotate_left
     ·intro w'
      go_simp
      with_reducible rfl
     rotate_left
     ·simp only [Act.put, sA, sZ, sS, i64_w, i32_w]
      rfl
     refine pure_ (i := 56) (N := some 156) (v := ?_) (a' := ?_) #[T,T,T,T,T,T,T,T,T,T,T,T,T,T,T,T,T,T,T,T,T,T,T,T,T,T,T,T,T,T,T,T,T,T,T,T,T,T,T,T,T,T,T,T,T,T,T,T,T,T,T,T,T,T,T,T,T,F,F,F,F,F,F,F,F,F,F,F] rfl rfl (any_of HT_.out (by kernel_rfl)) (fun _ _ _ h => h) (Or.inl ⟨by rfl, ?_⟩) ?_ ?_
     rotate_left
     ·intro w'
      go_simp
      with_reducible rfl
     rotate_left
     ·simp only [Act.put, sA, sZ, sS, i64_w, i32_w]
      rfl
     refine take_ (i := 57) (N := some 157) (v := ?_) (a' := ?_) #[T,T,T,T,T,T,T,T,T,T,T,T,T,T,T,T,T,T,T,T,T,T,T,T,T,T,T,T,T,T,T,T,T,T,T,T,T,T,T,T,T,T,T,T,T,T,T,T,T,T,T,T,T,T,T,T,T,T,F,F,F,F,F,F,F,F,F,F] rfl rfl (take_ofW HT_.out HW_.out (by kernel_rfl)) (fun _ _ _ h => h) (Or.inl ⟨by rfl, ?_⟩) hHeld ?_ ?_
     rotate_left
     ·rintro w' ⟨s0, s1⟩
      go_simp
      with_reducible rfl
     rotate_left
     ·simp only [Act.put, sA, sZ, sS, i64_w, i32_w]
      rfl
     refine one_ (i := 58) (N := some 158) #[T,T,T,T,T,T,T,T,T,T,T,T,T,T,T,T,T,T,T,T,T,T,T,T,T,T,T,T,T,T,T,T,T,T,T,T,T,T,T,T,T,T,T,T,T,T,T,T,T,T,T,T,T,T,T,T,T,T,T,F,F,F,F,F,F,F,F,F] rfl rfl (one_of HT_.out (by kernel_rfl)) (by decide) (fun K hK => ?_)
     refine goes_ Try.func24 (by kernel_rfl) rfl #[.agg #[.int .i64 a0_0, .slice A0_1 l0_1.length c0_1]] (by rfl) rfl rfl (by (try simp only [mA, mC, mN]); first | done | rfl) ?_
     with_reducible refine (impl_IsCommittee.calls k a0_0 _ _ l0_1 t122 _ (Kd.C_below HR0_1.out HB.out) HC0_1.out A55.out).mono ?_
     rintro e w60 ⟨rfl, hb⟩
     refine ⟨_, rfl, ?_⟩
     replace BK101 := Aside0.mk (blk_below BK101.out hb)
     replace BK102 := Aside0.mk (blk_below BK102.out hb)
     replace HB := Aside0.mk (below_step HB.out hb)
     (try clear hb)
     (try clear hb2)
     (try clear hk)
     (try clear hi)
     refine hK.out _ _ ⟨(blk_cell BK101.out 0).trans rfl, (blk_cell BK101.out 1).trans rfl⟩ (fun hHeld => ?_)
     clear hK K
     refine norm_ (a' := ?_) ?_ ?_
     rotate_left
     ·show Act.put _ (some 158) _ = _
      simp only [Act.put, sA, sZ, sS, i64_w, i32_w]
      rfl
     refine pure_ (i := 59) (N := some 159) (v := ?_) (a' := ?_) #[T,T,T,T,T,T,T,T,T,T,T,T,T,T,T,T,T,T,T,T,T,T,T,T,T,T,T,T,T,T,T,T,T,T,T,T,T,T,T,T,T,T,T,T,T,T,T,T,T,T,T,T,T,T,T,T,T,T,T,T,F,F,F,F,F,F,F,F] rfl rfl (any_of HT_.out (by kernel_rfl)) (fun _ _ _ h => h) (Or.inl ⟨by rfl, ?_⟩) ?_ ?_
     rotate_left
     ·intro w'
      go_simp
      with_reducible rfl
     rotate_left
     ·simp only [Act.put, sA, sZ, sS, i64_w, i32_w]
      rfl
     refine pure_ (i := 60) (N := some 160) (v := ?_) (a' := ?_) #[T,T,T,T,T,T,T,T,T,T,T,T,T,T,T,T,T,T,T,T,T,T,T,T,T,T,T,T,T,T,T,T,T,T,T,T,T,T,T,T,T,T,T,T,T,T,T,T,T,T,T,T,T,T,T,T,T,T,T,T,T,F,F,F,F,F,F,F] rfl rfl (any_of HT_.out (by kernel_rfl)) (fun _ _ _ h => h) (Or.inl ⟨by rfl, ?_⟩) ?_ ?_
     rotate_left
     ·intro w'
      go_simp
      with_reducible rfl
     rotate_left
     ·simp only [Act.put, sA, sZ, sS, i64_w, i32_w]
      rfl
     refine pure_ (i := 61) (N := some 161) (v := ?_) (a' := ?_) #[T,T,T,T,T,T,T,T,T,T,T,T,T,T,T,T,T,T,T,T,T,T,T,T,T,T,T,T,T,T,T,T,T,T,T,T,T,T,T,T,T,T,T,T,T,T,T,T,T,T,T,T,T,T,T,T,T,T,T,T,T,T,F,F,F,F,F,F] rfl rfl (any_of HT_.out (by kernel_rfl)) (fun _ _ _ h => h) (Or.inl ⟨by rfl, ?_⟩) ?_ ?_
     rotate_left
     ·intro w'
      go_simp
      with_reducible rfl
     rotate_left
     ·simp only [Act.put, sA, sZ, sS, i64_w, i32_w]
      rfl
     refine take_ (i := 62) (N := some 162) (v := ?_) (a' := ?_) #[T,T,T,T,T,T,T,T,T,T,T,T,T,T,T,T,T,T,T,T,T,T,T,T,T,T,T,T,T,T,T,T,T,T,T,T,T,T,T,T,T,T,T,T,T,T,T,T,T,T,T,T,T,T,T,T,T,T,T,T,T,T,T,F,F,F,F,F] rfl rfl (take_ofW HT_.out HW_.out (by kernel_rfl)) (fun _ _ _ h => h) (Or.inl ⟨by rfl, ?_⟩) hHeld ?_ ?_
     rotate_left
     ·rintro w' ⟨s0, s1⟩
      go_simp
      with_reducible rfl
     rotate_left
     ·simp only [Act.put, sA, sZ, sS, i64_w, i32_w]
      rfl
     refine take_ (i := 64) (N := some 164) (v := ?_) (a' := ?_) #[T,T,T,T,T,T,T,T,T,T,T,T,T,T,T,T,T,T,T,T,T,T,T,T,T,T,T,T,T,T,T,T,T,T,T,T,T,T,T,T,T,T,T,T,T,T,T,T,T,T,T,T,T,T,T,T,T,T,T,T,T,T,T,F,T,F,F,F] rfl rfl (take_ofW HT_.out HW_.out (by kernel_rfl)) (fun _ _ _ h => h) (Or.inl ⟨by rfl, ?_⟩) hHeld ?_ ?_
     rotate_left
     ·rintro w' ⟨s0, s1⟩
      go_simp
      with_reducible rfl
     rotate_left
     ·simp only [Act.put, sA, sZ, sS, i64_w, i32_w]
      rfl
     refine one_ (i := 63) (N := some 163) #[T,T,T,T,T,T,T,T,T,T,T,T,T,T,T,T,T,T,T,T,T,T,T,T,T,T,T,T,T,T,T,T,T,T,T,T,T,T,T,T,T,T,T,T,T,T,T,T,T,T,T,T,T,T,T,T,T,T,T,T,T,T,T,T,T,F,F,F] rfl rfl (one_of HT_.out (by kernel_rfl)) (by decide) (fun K hK => ?_)
     refine goes_ Try.func24 (by kernel_rfl) rfl #[.agg #[.int .i64 a0_0, .slice A0_1 l0_1.length c0_1]] (by rfl) rfl rfl (by (try simp only [mA, mC, mN]); first | done | rfl) ?_
     with_reducible refine (impl_IsCommittee.calls k a0_0 _ _ l0_1 t123 _ (Kd.C_below HR0_1.out HB.out) HC0_1.out A57.out).mono ?_
     rintro e w61 ⟨rfl, hb⟩
     refine ⟨_, rfl, ?_⟩
     replace BK101 := Aside0.mk (blk_below BK101.out hb)
     replace BK102 := Aside0.mk (blk_below BK102.out hb)
     replace HB := Aside0.mk (below_step HB.out hb)
     (try clear hb)
     (try clear hb2)
     (try clear hk)
     (try clear hi)
     refine hK.out _ _ ⟨(blk_cell BK101.out 0).trans rfl, (blk_cell BK101.out 1).trans rfl⟩ (fun hHeld => ?_)
     clear hK K
     refine norm_ (a' := ?_) ?_ ?_
     rotate_left
     ·show Act.put _ (some 163) _ = _
      simp only [Act.put, sA, sZ, sS, i64_w, i32_w]
      rfl
     refine one_ (i := 65) (N := some 165) #[T,T,T,T,T,T,T,T,T,T,T,T,T,T,T,T,T,T,T,T,T,T,T,T,T,T,T,T,T,T,T,T,T,T,T,T,T,T,T,T,T,T,T,T,T,T,T,T,T,T,T,T,T,T,T,T,T,T,T,T,T,T,T,T,T,T,F,F] rfl rfl (one_of HT_.out (by kernel_rfl)) (by decide) (fun K hK => ?_)
     refine goes_ Try.func25 (by kernel_rfl) rfl #[.agg #[.int .i64 a0_0, .slice A0_1 l0_1.length c0_1]] (by rfl) rfl rfl (by (try simp only [mA, mC, mN]); first | done | rfl) ?_
     with_reducible refine (spec_IsCommittee.calls k a0_0 _ _ l0_1 t124 _ (Kd.C_below HR0_1.out HB.out) HC0_1.out A58.out).mono ?_
     rintro e w62 ⟨rfl, hb⟩
     refine ⟨_, rfl, ?_⟩
     replace BK101 := Aside0.mk (blk_below BK101.out hb)
     replace BK102 := Aside0.mk (blk_below BK102.out hb)
     replace HB := Aside0.mk (below_step HB.out hb)
     (try clear hb)
     (try clear hb2)
     (try clear hk)
     (try clear hi)
     refine hK.out _ _ ⟨(blk_cell BK101.out 0).trans rfl, (blk_cell BK101.out 1).trans rfl⟩ (fun hHeld => ?_)
     clear hK K
     refine norm_ (a' := ?_) ?_ ?_
     rotate_left
     ·show Act.put _ (some 165) _ = _
      simp only [Act.put, sA, sZ, sS, i64_w, i32_w]
      rfl
     refine pure_ (i := 66) (N := some 166) (v := ?_) (a' := ?_) #[T,T,T,T,T,T,T,T,T,T,T,T,T,T,T,T,T,T,T,T,T,T,T,T,T,T,T,T,T,T,T,T,T,T,T,T,T,T,T,T,T,T,T,T,T,T,T,T,T,T,T,T,T,T,T,T,T,T,T,T,T,T,T,T,T,T,T,F] rfl rfl (any_of HT_.out (by kernel_rfl)) (fun _ _ _ h => h) (Or.inl ⟨by rfl, ?_⟩) ?_ ?_
     rotate_left
     ·intro w'
      go_simp
      with_reducible rfl
     rotate_left
     ·simp only [Act.put, sA, sZ, sS, i64_w, i32_w]
      rfl
     refine pure_ (i := 67) (N := some 167) (v := ?_) (a' := ?_) #[T,T,T,T,T,T,T,T,T,T,T,T,T,T,T,T,T,T,T,T,T,T,T,T,T,T,T,T,T,T,T,T,T,T,T,T,T,T,T,T,T,T,T,T,T,T,T,T,T,T,T,T,T,T,T,T,T,T,T,T,T,T,T,T,T,T,T,T] rfl rfl (any_of HT_.out (by kernel_rfl)) (fun _ _ _ h => h) (Or.inl ⟨by rfl, ?_⟩) ?_ ?_
     rotate_left
     ·intro w'
      go_simp
      with_reducible rfl
     rotate_left
     ·simp only [Act.put, sA, sZ, sS, i64_w, i32_w]
      rfl
     refine done_ (done_of HT_.out (by kernel_rfl)) ?_
     try go_wp2
     refine meetT_ hJ_j0 (by kernel_rfl) ?rel
     case rel => exact ⟨_, ((t123 != t124)), (by first | rfl | (simp; done) | (simp [*]; done)), H', ⟨by first | omega | exact Nat.le_refl _⟩, ⟨by exact BK101.out⟩, ⟨by exact BK102.out⟩, ⟨by repeat (first | (with_reducible first | exact HB.out | apply ba | apply bd | apply be | refine bs ?_ GE101.out | refine bs ?_ GE102.out) | exact HB.out)⟩⟩
  case rest => as_aux_lemma =>
   intro T_ wc hcut
   simp only [putT, putM, T, F, Nat.reduceAdd]
   (try dsimp only at hcut)
   generalize T_ 167 = u167 at hcut ⊢
   clear HC15
   (try clear c2); (try clear p2); (try clear c24); (try clear c25)
   obtain ⟨kq, x167_14, rfl, HA, HJ14, BK101, BK102, HB⟩ := hcut
   cases kq with
   | zero => exact absurd HA.out (by simp [laws_FnSetsWinOfAll.j0])
   | succ kj14 =>
    have H := HA.out
    clear HA
    simp only [laws_FnSetsWinOfAll.j0] at H
    replace H := ite_no H
    obtain ⟨c63, H⟩ := H
    replace c63 := Bool.eq_false_iff.mpr c63
    subst c63
    have HC64 := Aside0.mk H
    clear H
    go_upto_if 168 with (fail)
    refine cutT_ [F,F,F,F,F,F,T,F,F,F,F,F,F,F,F,F,F,F,F,F,F,F,F,T,T,T,T,T,T,T,T,T,T,F,F,F,F,F,F,F,F,F,F,F,F,F,F,F,F,F,F,F,F,F,F,F,F,F,F,F,F,F,F,F,F,F,F,F,F,F,F,F,F,F,F,F,F,F,F,F,F,F,F,F,F,F,F,F,F,F,F,F,F,F,F,F,F,F,F,F,F,F,F,F,F,F,F,F,F,F,F,F,F,F,F,F,F,F,F,F,F,F,F,F,F,F,F,F,F,F,F,F,F,F,F,F,F,F,F,F,F,F,F,F,F,F,F,F,F,F,F,F,F,F,F,F,F,F,F,F,F,F,F,F,F,F,F,F,F,T,T,T,T,T,T,T,T,T,T,T,T,T,T,T,T,T,T,T,T,T,T,T,T,T,T,T,T,T,T,T,T,T,T,T,T,T,T,T,T,T,T,T,T,T,T,T,T,T,T,T,T,T,T,T,T,T,T,T,T,T,T,T,T,T,T,T,T,T,T,T,T,T,T,T,T] (fun T_ wc_ => (fun wc => ∃ (kq : Nat), Aside0 (laws_FnSetsWinOfAll.j1 kq a2_0 l2_1 = some r) ∧ Aside0 (kq ≤ kj14) ∧ Aside0 (wc.heap[gb101]? = some (.cells #[.int .i64 a0_0, (.slice A0_1 l0_1.length c0_1)] 38 (0, 0))) ∧ Aside0 (wc.heap[gb102]? = some (.cells #[.int .i64 a2_0, (.slice A2_1 l2_1.length c2_1)] 38 (0, 0))) ∧ Aside0 (Below w.heap.size w wc))  wc_) ?rest ?first
    case first => as_aux_lemma =>
     intro J_ K_ hJ_j1 hM_
     have H := HC64.out
     clear HC64
     by_cases c65 : t104 = true
     ·subst c65
      have H1 : ((laws_mOthers.f kj14 l1 (l0_1.length : Int)).bind fun t125 => ((impl_WeightOfSet.f kj14 a0_0 l0_1 t125).bind fun bt128 => ((impl_IsWinning.f kj14 a0_0 l0_1 t125).bind fun bt130 => ((impl_DualCommittee.f kj14 a0_0 l0_1).bind fun bt132 => ((impl_IsWinning.f kj14 bt132.1 bt132.2.1 l1).bind fun bt138 => (if (t103 != (decide (t111 ≥ a0_0))) = true then (none) else (if bt128.2 = true then (if (wrap64 (t111 + bt128.1)) = t115 then (if bt130.2 = true then (if (t107 != (!bt130.1)) = true then (none) else (if bt132.2.2 = true then (if bt138.2 = true then (if (bt138.1 != t107) = true then (none) else ((laws_mSum.f kj14 l0_1).bind fun t140 => (if t115 = t140 then (laws_FnSetsWinOfAll.j1 kj14 a2_0 l2_1) else (none)))) else (none)) else (none))) else (none)) else (none)) else (none)))))))) = some r := by rw [if_pos rfl] at H; exact H
      clear H
      have H := H1
      clear H1
      replace H := oB H
      obtain ⟨t125, A660, H⟩ := H
      (try dsimp only at H)
      have A66 := Aside0.mk A660
      clear A660
      replace H := oB H
      obtain ⟨⟨t128, t129⟩, A670, H⟩ := H
      (try dsimp only at H)
      have A67 := Aside0.mk A670
      clear A670
      replace H := oB H
      obtain ⟨⟨t130, t131⟩, A680, H⟩ := H
      (try dsimp only at H)
      have A68 := Aside0.mk A680
      clear A680
      replace H := oB H
      obtain ⟨⟨t132, t133, t136⟩, A690, H⟩ := H
      (try dsimp only at H)
      have A69 := Aside0.mk A690
      clear A690
      replace H := oB H
      obtain ⟨⟨t138, t139⟩, A700, H⟩ := H
      (try dsimp only at H)
      have A70 := Aside0.mk A700
      clear A700
      replace H := ite_no H
      obtain ⟨c71, H⟩ := H
      have c71b0 : (t103 != (decide (t111 ≥ a0_0))) = false := by simpa using c71
      (try (have c71b1 : decide (t103 = (decide (t111 ≥ a0_0))) = true := by simpa using c71))
      (try (have c71b2 : (t103 == (decide (t111 ≥ a0_0))) = true := by simpa using c71))
      clear c71
      (first | rw [c71b0] | (simp only [i64_w, i32_w]; rw [c71b0]) | skip)
      replace H := ite_yes H
      obtain ⟨c72, H⟩ := H
      subst c72
      replace H := ite_yes H
      obtain ⟨c73, H⟩ := H
      have c73b0 : ((wrap64 (t111 + t128)) == t115) = true := beq_iff_eq.mpr c73
      have c73b1 : ((wrap64 (t111 + t128)) != t115) = false := bne_eq_false_iff_eq.mpr c73
      clear c73
      replace H := ite_yes H
      obtain ⟨c74, H⟩ := H
      subst c74
      replace H := ite_no H
      obtain ⟨c75, H⟩ := H
      replace c75 := of_nbne c75
      subst t107
      replace H := ite_yes H
      obtain ⟨c76, H⟩ := H
      subst c76
      replace H := ite_yes H
      obtain ⟨c77, H⟩ := H
      subst c77
      replace H := ite_no H
      obtain ⟨c78, H⟩ := H
      replace c78 := of_nbne c78
      subst t138
      replace H := oB H
      obtain ⟨t140, A790, H⟩ := H
      (try dsimp only at H)
      have A79 := Aside0.mk A790
      clear A790
      replace H := ite_yes H
      obtain ⟨c80, H⟩ := H
      have c80b0 : (t115 == t140) = true := beq_iff_eq.mpr c80
      have c80b1 : (t115 != t140) = false := bne_eq_false_iff_eq.mpr c80
      clear c80
      as_aux_lemma =>
       have H' := Aside0.mk H
       clear H
       have hnb81 := NB101_102.out
       have hnc81 := NB102_101.out
       have hcz82_0 : wc.cell? ⟨gb101, 0, none⟩ = some (.int .i64 a0_0) := (blk_cell BK101.out 0).trans rfl
       have hcz82_1 : wc.cell? ⟨gb101, 1, none⟩ = some (.slice A0_1 l0_1.length c0_1) := (blk_cell BK101.out 1).trans rfl
       have hfz82_0 := blk_frozen BK101.out 0
       have hfz82_1 := blk_frozen BK101.out 1
       go_upto_region 16 with (first | ((with_reducible refine gate_callee (f := 26) rfl ?_); refine goesL_ (some 174) rfl rfl Try.func26 (by kernel_rfl) rfl #[.slice A1 l1.length c1, .int .i64 (l0_1.length : Int)] rfl (by (try simp only [mA, mC, mN]); first | done | rfl) ?_; (with_reducible refine (laws_mOthers.calls kj14 _ _ l1 (l0_1.length : Int) t125 _ (Kd.C_below HR1.out HB.out) HC1.out A66.out).mono ?_); rintro e w83 ⟨v126, rfl, ho0, hb⟩; refine ⟨_, rfl, ?_⟩; have HO127 := Aside0.mk (Kd.R_lower ho0 (below_size HB.out)); replace BK101 := Aside0.mk (blk_below BK101.out hb); replace BK102 := Aside0.mk (blk_below BK102.out hb); replace HB := Aside0.mk (below_step HB.out hb); (try clear hb); (try clear ho0); (try clear hcz82_0 hcz82_1 hfz82_0 hfz82_1); have hcz84_0 : w83.cell? ⟨gb101, 0, none⟩ = some (.int .i64 a0_0) := (blk_cell BK101.out 0).trans rfl; have hcz84_1 : w83.cell? ⟨gb101, 1, none⟩ = some (.slice A0_1 l0_1.length c0_1) := (blk_cell BK101.out 1).trans rfl; have hfz84_0 := blk_frozen BK101.out 0; have hfz84_1 := blk_frozen BK101.out 1; obtain ⟨Ao85, co85, eo85⟩ := Kd.R_slice HO127.out; subst eo85))
       go_upto_region 17 with (first | ((with_reducible refine gate_callee (f := 20) rfl ?_); refine goesL_ (some 178) rfl rfl Try.func20 (by kernel_rfl) rfl #[.agg #[.int .i64 a0_0, .slice A0_1 l0_1.length c0_1], .slice Ao85 t125.length co85] rfl (by (try simp only [mA, mC, mN]); first | done | rfl) ?_; (with_reducible refine (impl_WeightOfSet.calls kj14 a0_0 _ _ l0_1 _ _ t125 t128 true _ ?side1 ?side2 ?side3 ?side4 A67.out).mono ?_); (case side1 => repeat (first | exact (Kd.C_below HR0_1.out HB.out) | (with_reducible refine Kd.C_alloc ?_ _) | (with_reducible refine Kd.C_drewN ?_ _) | (with_reducible refine Kd.C_drew ?_))); (case side2 => exact HC0_1.out); (case side3 => repeat (first | exact (Kd.R_reads' HO127.out).2.2 | (with_reducible refine Kd.C_alloc ?_ _) | (with_reducible refine Kd.C_drewN ?_ _) | (with_reducible refine Kd.C_drew ?_))); (case side4 => exact (Kd.R_reads' HO127.out).2.1); rintro e w86 ⟨rfl, hb⟩; refine ⟨_, rfl, ?_⟩; replace HO127 := Aside0.mk (Kd.R_below HO127.out hb); replace BK101 := Aside0.mk (blk_below BK101.out hb); replace BK102 := Aside0.mk (blk_below BK102.out hb); replace HB := Aside0.mk (below_step HB.out hb); (try clear hb); (try clear hcz84_0 hcz84_1 hfz84_0 hfz84_1); have hcz87_0 : w86.cell? ⟨gb101, 0, none⟩ = some (.int .i64 a0_0) := (blk_cell BK101.out 0).trans rfl; have hcz87_1 : w86.cell? ⟨gb101, 1, none⟩ = some (.slice A0_1 l0_1.length c0_1) := (blk_cell BK101.out 1).trans rfl; have hfz87_0 := blk_frozen BK101.out 0; have hfz87_1 := blk_frozen BK101.out 1))
       go_upto_region 18 with (first | ((with_reducible refine gate_callee (f := 16) rfl ?_); refine goesL_ (some 184) rfl rfl Try.func16 (by kernel_rfl) rfl #[.agg #[.int .i64 a0_0, .slice A0_1 l0_1.length c0_1], .slice Ao85 t125.length co85] rfl (by (try simp only [mA, mC, mN]); first | done | rfl) ?_; (with_reducible refine (impl_IsWinning.calls kj14 a0_0 _ _ l0_1 _ _ t125 t130 true _ ?side1 ?side2 ?side3 ?side4 A68.out).mono ?_); (case side1 => repeat (first | exact (Kd.C_below HR0_1.out HB.out) | (with_reducible refine Kd.C_alloc ?_ _) | (with_reducible refine Kd.C_drewN ?_ _) | (with_reducible refine Kd.C_drew ?_))); (case side2 => exact HC0_1.out); (case side3 => repeat (first | exact (Kd.R_reads' HO127.out).2.2 | (with_reducible refine Kd.C_alloc ?_ _) | (with_reducible refine Kd.C_drewN ?_ _) | (with_reducible refine Kd.C_drew ?_))); (case side4 => exact (Kd.R_reads' HO127.out).2.1); rintro e w88 ⟨rfl, hb⟩; refine ⟨_, rfl, ?_⟩; replace HO127 := Aside0.mk (Kd.R_below HO127.out hb); replace BK101 := Aside0.mk (blk_below BK101.out hb); replace BK102 := Aside0.mk (blk_below BK102.out hb); replace HB := Aside0.mk (below_step HB.out hb); (try clear hb); (try clear hcz87_0 hcz87_1 hfz87_0 hfz87_1); have hcz89_0 : w88.cell? ⟨gb101, 0, none⟩ = some (.int .i64 a0_0) := (blk_cell BK101.out 0).trans rfl; have hcz89_1 : w88.cell? ⟨gb101, 1, none⟩ = some (.slice A0_1 l0_1.length c0_1) := (blk_cell BK101.out 1).trans rfl; have hfz89_0 := blk_frozen BK101.out 0; have hfz89_1 := blk_frozen BK101.out 1))
       go_upto_region 19 with (first | ((with_reducible refine gate_callee (f := 27) rfl ?_); refine goesL_ (some 189) rfl rfl Try.func27 (by kernel_rfl) rfl #[.agg #[.int .i64 a0_0, .slice A0_1 l0_1.length c0_1]] rfl (by (try simp only [mA, mC, mN]); first | done | rfl) ?_; (with_reducible refine (impl_DualCommittee.calls kj14 a0_0 _ _ l0_1 t132 t133 true _ (Kd.C_below HR0_1.out HB.out) HC0_1.out A69.out).mono ?_); rintro e w90 ⟨v134, rfl, ho0, hb⟩; refine ⟨_, rfl, ?_⟩; have HO135 := Aside0.mk (Kd.R_lower (Kd.R_new' ho0 (Kd.R_lt HO127.out)) (below_size HB.out)); replace HO127 := Aside0.mk (Kd.R_elder' HO127.out (Kd.R_base ho0) hb); replace BK101 := Aside0.mk (blk_below BK101.out hb); replace BK102 := Aside0.mk (blk_below BK102.out hb); replace HB := Aside0.mk (below_step HB.out hb); (try clear hb); (try clear ho0)) | ((with_reducible refine gate_dst (N := 29) rfl ?_); (try (refine gate_guard (by rfl) ?_; dsimp only)); refine box_event ?hg (N := 29) ?hd (cs := #[.int .i64 0, .slice none 0 0]) (t := 38) ?hr ?_; (case hd => rfl); (case hg => rfl); (case hr => first | (go_simp; done) | (go_simp; rfl)); intro gb137 hg w91 hbox hb; have BK137 := Aside0.mk (hbox); have GW137 := Aside0.mk ((by rw [hg]; exact (below_size HB.out) : w.heap.size ≤ gb137)); have GE137 := Aside0.mk ((by rw [hg]; exact (below_size HB.out) : w.heap.size ≤ gb137)); have NB101_137 := Aside0.mk ((by rw [hg]; exact Nat.ne_of_lt (blk_lt BK101.out) : gb101 ≠ gb137)); have NB137_101 := Aside0.mk ((by rw [hg]; exact Nat.ne_of_gt (blk_lt BK101.out) : gb137 ≠ gb101)); have NB102_137 := Aside0.mk ((by rw [hg]; exact Nat.ne_of_lt (blk_lt BK102.out) : gb102 ≠ gb137)); have NB137_102 := Aside0.mk ((by rw [hg]; exact Nat.ne_of_gt (blk_lt BK102.out) : gb137 ≠ gb102)); replace HO127 := Aside0.mk (Kd.R_below HO127.out hb); replace HO135 := Aside0.mk (Kd.R_below HO135.out hb); replace BK101 := Aside0.mk (blk_below BK101.out hb); replace BK102 := Aside0.mk (blk_below BK102.out hb); replace HB := Aside0.mk (below_step HB.out hb); clear hb hbox hg; have hnb92 := NB137_101.out; have hnc92 := NB101_137.out; have hnb93 := NB137_102.out; have hnc93 := NB102_137.out; (try clear hcz89_0 hcz89_1 hfz89_0 hfz89_1); have hcz94_0 : w91.cell? ⟨gb137, 0, none⟩ = some (.int .i64 0) := (blk_cell BK137.out 0).trans rfl; have hcz94_1 : w91.cell? ⟨gb137, 1, none⟩ = some (.slice none 0 0) := (blk_cell BK137.out 1).trans rfl; have hfz94_0 := blk_frozen BK137.out 0; have hfz94_1 := blk_frozen BK137.out 1; obtain ⟨Ao95, co95, eo95⟩ := Kd.R_slice HO135.out; subst eo95))
       go_upto_region 20 with (first | ((with_reducible refine gate_callee (f := 16) rfl ?_); refine goesL_ (some 195) rfl rfl Try.func16 (by kernel_rfl) rfl #[.agg #[.int .i64 t132, .slice Ao95 t133.length co95], .slice A1 l1.length c1] rfl (by (try simp only [mA, mC, mN]); first | done | rfl) ?_; (with_reducible refine (impl_IsWinning.calls kj14 t132 _ _ t133 _ _ l1 (!t130) true _ ?side1 ?side2 ?side3 ?side4 A70.out).mono ?_); (case side1 => refine (Kd.R_reads' (e := 3) (base := w.heap.size) (ok := fun k_ => (True ∧ some k_ ≠ (.slice Ao85 t125.length co85 : Value).ownBlock)) (n := t133.length) (c := co95) ?_).2.2; exact (by exact (Kd.R_mono (Kd.R_far (p := ⟨gb137, 1, none⟩) (Kd.R_far (p := ⟨gb137, 0, none⟩) (Kd.R_types HO135.out BK137.out (by decide)) (fun _ hk => hk.2) (.int .i64 t132)) (fun _ hk => hk.2) (.slice Ao95 t133.length co95)) (fun _ h_ => h_.1)))); (case side2 => exact (Kd.R_reads' HO135.out).2.1); (case side3 => exact Kd.C_below HR1.out (by repeat (first | exact HB.out | apply ba | refine bs ?_ GE137.out))); (case side4 => exact HC1.out); rintro e w96 ⟨rfl, hb⟩; refine ⟨_, rfl, ?_⟩; replace HO127 := Aside0.mk (Kd.R_below (by exact (Kd.R_mono (Kd.R_far (p := ⟨gb137, 1, none⟩) (Kd.R_far (p := ⟨gb137, 0, none⟩) (Kd.R_types HO127.out BK137.out (by decide)) (fun _ hk => hk.2) (.int .i64 t132)) (fun _ hk => hk.2) (.slice Ao95 t133.length co95)) (fun _ h_ => h_.1))) hb); replace HO135 := Aside0.mk (Kd.R_below (by exact (Kd.R_mono (Kd.R_far (p := ⟨gb137, 1, none⟩) (Kd.R_far (p := ⟨gb137, 0, none⟩) (Kd.R_types HO135.out BK137.out (by decide)) (fun _ hk => hk.2) (.int .i64 t132)) (fun _ hk => hk.2) (.slice Ao95 t133.length co95)) (fun _ h_ => h_.1))) hb); replace BK101 := Aside0.mk (blk_below (g := gb101) (o := .cells #[.int .i64 a0_0, .slice A0_1 l0_1.length c0_1] 38 (0, 0)) (by refine blk_far ?_ NB101_137.out _; refine blk_far ?_ NB101_137.out _; exact BK101.out) hb); replace BK102 := Aside0.mk (blk_below (g := gb102) (o := .cells #[.int .i64 a2_0, .slice A2_1 l2_1.length c2_1] 38 (0, 0)) (by refine blk_far ?_ NB102_137.out _; refine blk_far ?_ NB102_137.out _; exact BK102.out) hb); replace BK137 := Aside0.mk (blk_below (g := gb137) (o := .cells #[.int .i64 t132, .slice Ao95 t133.length co95] 38 (0, 0)) (by refine blk_put (cs := #[.int .i64 t132, .slice none 0 0]) ?_ 1 _ rfl; refine blk_put (cs := #[.int .i64 0, .slice none 0 0]) ?_ 0 _ rfl; exact BK137.out) hb); replace HB := Aside0.mk (below_step (by repeat (first | exact HB.out | apply ba | refine bs ?_ GE137.out)) hb); (try clear hb); (try clear hcz94_0 hcz94_1 hfz94_0 hfz94_1); have hcz97_0 : w96.cell? ⟨gb101, 0, none⟩ = some (.int .i64 a0_0) := (blk_cell BK101.out 0).trans rfl; have hcz97_1 : w96.cell? ⟨gb101, 1, none⟩ = some (.slice A0_1 l0_1.length c0_1) := (blk_cell BK101.out 1).trans rfl; have hfz97_0 := blk_frozen BK101.out 0; have hfz97_1 := blk_frozen BK101.out 1))
       go_wp2_with (first | (go_at_call 28; (with_reducible refine (laws_mSum.calls kj14 _ _ l0_1 t140 _ (Kd.C_below HR0_1.out HB.out) HC0_1.out A79.out).mono ?_); rintro e w' ⟨rfl, ⟨nd, rfl⟩⟩))
       refine meetT_ hJ_j1 (by kernel_rfl) ?rel
       case rel => exact ⟨_, H', ⟨by have := HJ14.out; first | omega | exact Nat.le_refl _⟩, ⟨by (with_reducible repeat (first | refine kN ?_ _ | refine kD ?_ | refine kA ?_ _)); exact BK101.out⟩, ⟨by (with_reducible repeat (first | refine kN ?_ _ | refine kD ?_ | refine kA ?_ _)); exact BK102.out⟩, ⟨by repeat (first | (with_reducible first | exact HB.out | apply ba | apply bd | apply be | refine bs ?_ GE101.out | refine bs ?_ GE102.out | refine bs ?_ GE137.out) | exact HB.out)⟩⟩
     ·replace c65 := Bool.eq_false_iff.mpr c65
      subst c65
      have H1 : (laws_FnSetsWinOfAll.j1 kj14 a2_0 l2_1) = some r := by rw [if_neg (show ¬ (false = true) by decide)] at H; exact H
      clear H
      have H := H1
      clear H1
      as_aux_lemma =>
       have H' := Aside0.mk H
       clear H
       go_wp2
       refine meetT_ hJ_j1 (by kernel_rfl) ?rel
       case rel => exact ⟨_, H', ⟨by have := HJ14.out; first | omega | exact Nat.le_refl _⟩, ⟨by (with_reducible repeat (first | refine kN ?_ _ | refine kD ?_ | refine kA ?_ _)); exact BK101.out⟩, ⟨by (with_reducible repeat (first | refine kN ?_ _ | refine kD ?_ | refine kA ?_ _)); exact BK102.out⟩, ⟨by repeat (first | (with_reducible first | exact HB.out | apply ba | apply bd | apply be | refine bs ?_ GE101.out | refine bs ?_ GE102.out) | exact HB.out)⟩⟩
    case rest => as_aux_lemma =>
     intro T_ wc hcut
     simp only [putT, putM, T, F, Nat.reduceAdd]
     (try dsimp only at hcut)
     clear HC64
     (try clear c1); (try clear c2); (try clear p2); (try clear c6); (try clear p6); (try clear c7); (try clear c8); (try clear c9); (try clear c16); (try clear c20); (try clear c24); (try clear c25); (try clear c26); (try clear c27); (try clear c63); (try clear p64); (try clear c65); (try clear c71); (try clear c71b0); (try clear c71b1); (try clear c71b2); (try clear c72); (try clear c73); (try clear c73b0); (try clear c73b1); (try clear c74); (try clear c75); (try clear c76); (try clear c77); (try clear c78); (try clear c80); (try clear c80b0); (try clear c80b1); (try clear c81); (try clear c92); (try clear c93); (try clear hcz97_0); (try clear hcz97_1); (try clear hfz97_0); (try clear hfz97_1); (try clear p2)
     obtain ⟨kq, HA, HJ63, BK101, BK102, HB⟩ := hcut
     cases kq with
     | zero => exact absurd HA.out (by simp [laws_FnSetsWinOfAll.j1])
     | succ kj63 =>
      have H := HA.out
      clear HA
      simp only [laws_FnSetsWinOfAll.j1] at H
      replace H := oB H
      obtain ⟨⟨t141, t142⟩, A980, H⟩ := H
      (try dsimp only at H)
      have A98 := Aside0.mk A980
      clear A980
      replace H := oB H
      obtain ⟨⟨t143, t144⟩, A990, H⟩ := H
      (try dsimp only at H)
      have A99 := Aside0.mk A990
      clear A990
      replace H := oB H
      obtain ⟨⟨t145, t148⟩, A1000, H⟩ := H
      (try dsimp only at H)
      have A100 := Aside0.mk A1000
      clear A1000
      replace H := oB H
      obtain ⟨⟨t149, t152⟩, A1010, H⟩ := H
      (try dsimp only at H)
      have A101 := Aside0.mk A1010
      clear A1010
      replace H := oB H
      obtain ⟨⟨t153, t156⟩, A1020, H⟩ := H
      (try dsimp only at H)
      have A102 := Aside0.mk A1020
      clear A1020
      replace H := oB H
      obtain ⟨⟨t157, t160⟩, A1030, H⟩ := H
      (try dsimp only at H)
      have A103 := Aside0.mk A1030
      clear A1030
      have HC104 := Aside0.mk H
      clear H
      have hnb105 := NB102_101.out
      have hnc105 := NB101_102.out
      have hcz106_0 : wc.cell? ⟨gb102, 0, none⟩ = some (.int .i64 a2_0) := (blk_cell BK102.out 0).trans rfl
      have hcz106_1 : wc.cell? ⟨gb102, 1, none⟩ = some (.slice A2_1 l2_1.length c2_1) := (blk_cell BK102.out 1).trans rfl
      have hfz106_0 := blk_frozen BK102.out 0
      have hfz106_1 := blk_frozen BK102.out 1
      go_upto_region 23 with (first | ((with_reducible refine gate_callee (f := 29) rfl ?_); refine goesL_ (some 247) rfl rfl Try.func29 (by kernel_rfl) rfl #[.agg #[.int .i64 a2_0, .slice A2_1 l2_1.length c2_1]] rfl (by (try simp only [mA, mC, mN]); first | done | rfl) ?_; (with_reducible refine (impl_DictatorOf.calls kj63 a2_0 _ _ l2_1 t141 t142 _ (Kd.C_below HR2_1.out HB.out) HC2_1.out A98.out).mono ?_); rintro e w107 ⟨rfl, hb⟩; refine ⟨_, rfl, ?_⟩; replace BK101 := Aside0.mk (blk_below BK101.out hb); replace BK102 := Aside0.mk (blk_below BK102.out hb); replace HB := Aside0.mk (below_step HB.out hb); (try clear hb); (try clear hcz106_0 hcz106_1 hfz106_0 hfz106_1); have hcz108_0 : w107.cell? ⟨gb102, 0, none⟩ = some (.int .i64 a2_0) := (blk_cell BK102.out 0).trans rfl; have hcz108_1 : w107.cell? ⟨gb102, 1, none⟩ = some (.slice A2_1 l2_1.length c2_1) := (blk_cell BK102.out 1).trans rfl; have hfz108_0 := blk_frozen BK102.out 0; have hfz108_1 := blk_frozen BK102.out 1))
      go_upto_region 24 with (first | ((with_reducible refine gate_callee (f := 30) rfl ?_); refine goesL_ (some 252) rfl rfl Try.func30 (by kernel_rfl) rfl #[.agg #[.int .i64 a2_0, .slice A2_1 l2_1.length c2_1]] rfl (by (try simp only [mA, mC, mN]); first | done | rfl) ?_; (with_reducible refine (spec_DictatorOf.calls kj63 a2_0 _ _ l2_1 t143 t144 _ (Kd.C_below HR2_1.out HB.out) HC2_1.out A99.out).mono ?_); rintro e w109 ⟨rfl, hb⟩; refine ⟨_, rfl, ?_⟩; replace BK101 := Aside0.mk (blk_below BK101.out hb); replace BK102 := Aside0.mk (blk_below BK102.out hb); replace HB := Aside0.mk (below_step HB.out hb); (try clear hb); (try clear hcz108_0 hcz108_1 hfz108_0 hfz108_1); have hcz110_0 : w109.cell? ⟨gb102, 0, none⟩ = some (.int .i64 a2_0) := (blk_cell BK102.out 0).trans rfl; have hcz110_1 : w109.cell? ⟨gb102, 1, none⟩ = some (.slice A2_1 l2_1.length c2_1) := (blk_cell BK102.out 1).trans rfl; have hfz110_0 := blk_frozen BK102.out 0; have hfz110_1 := blk_frozen BK102.out 1))
      go_upto_region 25 with (first | ((with_reducible refine gate_callee (f := 31) rfl ?_); refine goesL_ (some 257) rfl rfl Try.func31 (by kernel_rfl) rfl #[.agg #[.int .i64 a2_0, .slice A2_1 l2_1.length c2_1]] rfl (by (try simp only [mA, mC, mN]); first | done | rfl) ?_; (with_reducible refine (impl_VetoMembers.calls kj63 a2_0 _ _ l2_1 t145 t148 _ (Kd.C_below HR2_1.out HB.out) HC2_1.out A100.out).mono ?_); rintro e w111 ⟨v146, rfl, ho0, hb⟩; refine ⟨_, rfl, ?_⟩; have HO147 := Aside0.mk (Kd.R_lower ho0 (below_size HB.out)); replace BK101 := Aside0.mk (blk_below BK101.out hb); replace BK102 := Aside0.mk (blk_below BK102.out hb); replace HB := Aside0.mk (below_step HB.out hb); (try clear hb); (try clear ho0); (try clear hcz110_0 hcz110_1 hfz110_0 hfz110_1); have hcz112_0 : w111.cell? ⟨gb102, 0, none⟩ = some (.int .i64 a2_0) := (blk_cell BK102.out 0).trans rfl; have hcz112_1 : w111.cell? ⟨gb102, 1, none⟩ = some (.slice A2_1 l2_1.length c2_1) := (blk_cell BK102.out 1).trans rfl; have hfz112_0 := blk_frozen BK102.out 0; have hfz112_1 := blk_frozen BK102.out 1))
      go_upto_region 26 with (first | ((with_reducible refine gate_callee (f := 32) rfl ?_); refine goesL_ (some 262) rfl rfl Try.func32 (by kernel_rfl) rfl #[.agg #[.int .i64 a2_0, .slice A2_1 l2_1.length c2_1]] rfl (by (try simp only [mA, mC, mN]); first | done | rfl) ?_; (with_reducible refine (spec_VetoMembers.calls kj63 a2_0 _ _ l2_1 t149 t152 _ (Kd.C_below HR2_1.out HB.out) HC2_1.out A101.out).mono ?_); rintro e w113 ⟨v150, rfl, ho0, hb⟩; refine ⟨_, rfl, ?_⟩; have HO151 := Aside0.mk (Kd.R_lower (Kd.R_new' ho0 (Kd.R_lt HO147.out)) (below_size HB.out)); replace HO147 := Aside0.mk (Kd.R_elder' HO147.out (Kd.R_base ho0) hb); replace BK101 := Aside0.mk (blk_below BK101.out hb); replace BK102 := Aside0.mk (blk_below BK102.out hb); replace HB := Aside0.mk (below_step HB.out hb); (try clear hb); (try clear ho0); (try clear hcz112_0 hcz112_1 hfz112_0 hfz112_1); have hcz114_0 : w113.cell? ⟨gb102, 0, none⟩ = some (.int .i64 a2_0) := (blk_cell BK102.out 0).trans rfl; have hcz114_1 : w113.cell? ⟨gb102, 1, none⟩ = some (.slice A2_1 l2_1.length c2_1) := (blk_cell BK102.out 1).trans rfl; have hfz114_0 := blk_frozen BK102.out 0; have hfz114_1 := blk_frozen BK102.out 1))
      go_upto_region 27 with (first | ((with_reducible refine gate_callee (f := 33) rfl ?_); refine goesL_ (some 267) rfl rfl Try.func33 (by kernel_rfl) rfl #[.agg #[.int .i64 a2_0, .slice A2_1 l2_1.length c2_1]] rfl (by (try simp only [mA, mC, mN]); first | done | rfl) ?_; (with_reducible refine (impl_DummiesOf.calls kj63 a2_0 _ _ l2_1 t153 t156 _ (Kd.C_below HR2_1.out HB.out) HC2_1.out A102.out).mono ?_); rintro e w115 ⟨v154, rfl, ho0, hb⟩; refine ⟨_, rfl, ?_⟩; have HO155 := Aside0.mk (Kd.R_lower (Kd.R_new' (Kd.R_new' ho0 (Kd.R_lt HO147.out)) (Kd.R_lt HO151.out)) (below_size HB.out)); replace HO147 := Aside0.mk (Kd.R_elder' HO147.out (Kd.R_base ho0) hb); replace HO151 := Aside0.mk (Kd.R_elder' HO151.out (Kd.R_base ho0) hb); replace BK101 := Aside0.mk (blk_below BK101.out hb); replace BK102 := Aside0.mk (blk_below BK102.out hb); replace HB := Aside0.mk (below_step HB.out hb); (try clear hb); (try clear ho0); (try clear hcz114_0 hcz114_1 hfz114_0 hfz114_1); have hcz116_0 : w115.cell? ⟨gb102, 0, none⟩ = some (.int .i64 a2_0) := (blk_cell BK102.out 0).trans rfl; have hcz116_1 : w115.cell? ⟨gb102, 1, none⟩ = some (.slice A2_1 l2_1.length c2_1) := (blk_cell BK102.out 1).trans rfl; have hfz116_0 := blk_frozen BK102.out 0; have hfz116_1 := blk_frozen BK102.out 1))
      go_upto_region 28 with (first | ((with_reducible refine gate_callee (f := 34) rfl ?_); refine goesL_ (some 272) rfl rfl Try.func34 (by kernel_rfl) rfl #[.agg #[.int .i64 a2_0, .slice A2_1 l2_1.length c2_1]] rfl (by (try simp only [mA, mC, mN]); first | done | rfl) ?_; (with_reducible refine (spec_DummiesOf.calls kj63 a2_0 _ _ l2_1 t157 t160 _ (Kd.C_below HR2_1.out HB.out) HC2_1.out A103.out).mono ?_); rintro e w117 ⟨v158, rfl, ho0, hb⟩; refine ⟨_, rfl, ?_⟩; have HO159 := Aside0.mk (Kd.R_lower (Kd.R_new' (Kd.R_new' (Kd.R_new' ho0 (Kd.R_lt HO147.out)) (Kd.R_lt HO151.out)) (Kd.R_lt HO155.out)) (below_size HB.out)); replace HO147 := Aside0.mk (Kd.R_elder' HO147.out (Kd.R_base ho0) hb); replace HO151 := Aside0.mk (Kd.R_elder' HO151.out (Kd.R_base ho0) hb); replace HO155 := Aside0.mk (Kd.R_elder' HO155.out (Kd.R_base ho0) hb); replace BK101 := Aside0.mk (blk_below BK101.out hb); replace BK102 := Aside0.mk (blk_below BK102.out hb); replace HB := Aside0.mk (below_step HB.out hb); (try clear hb); (try clear ho0)))
      (try simp only [Act.put, sA, sZ, sS])
      refine cutT_ [F,F,F,F,F,F,F,F,F,F,F,F,F,F,F,F,F,F,F,F,F,F,F,F,F,F,F,F,F,F,F,F,F,F,F,F,F,F,F,F,F,F,F,F,F,F,F,F,F,F,F,F,F,F,F,F,F,F,F,F,F,F,F,F,F,F,F,F,F,F,F,F,F,F,F,F,F,F,F,F,F,F,F,F,F,F,F,F,F,F,F,F,F,F,F,F,F,F,F,F,F,F,F,F,F,F,F,F,F,F,F,F,F,F,F,F,F,F,F,F,F,F,F,F,F,F,F,F,F,F,F,F,F,F,F,F,F,F,F,F,F,F,F,F,F,F,F,F,F,F,F,F,F,F,F,F,F,F,F,F,F,F,F,F,F,F,F,F,F,F,F,F,F,F,F,F,F,F,F,F,F,F,F,F,F,F,F,F,F,F,F,F,F,F,F,F,F,F,F,F,F,F,F,F,F,F,F,F,F,F,F,F,F,F,F,F,F,F,F,F,F,F,F,F,F,F,F,F,F,F,F,F,F,F,F,F,F,F,F,F,F,F,F,F,F,F,F,F,F,F,F,F,F,F,F,F,F,F,F,F,F,F,F,F,F,F,F,F,F,F,F,F,F,F,F,T,T,T,T,T,T,T,T,T,T,T,T,T,T,T,T,T,T,T,T,T,T,T,T,T,T,T,T,T,T,T,T,T,T,T,T,T,T,T,T,T,T] (fun T_ wc_ => (fun v316 wc => ∃ (kq : Nat) (x316_103 : Bool), v316 = .bool x316_103 ∧ Aside0 (laws_FnSetsWinOfAll.j2 kq t141 t142 t145 t148 t153 x316_103 a2_0 l2_1 = some r) ∧ Aside0 (kq ≤ kj63) ∧ Aside0 (Kd.R (Kd.int .i64) 3 wc w.heap.size (fun k_ => some k_ ≠ (v154 : Value).ownBlock) v146 t145) ∧ Aside0 (Kd.R (Kd.int .i64) 3 wc w.heap.size (fun k_ => some k_ ≠ (v146 : Value).ownBlock) v154 t153) ∧ Aside0 (wc.heap[gb101]? = some (.cells #[.int .i64 a0_0, (.slice A0_1 l0_1.length c0_1)] 38 (0, 0))) ∧ Aside0 (wc.heap[gb102]? = some (.cells #[.int .i64 a2_0, (.slice A2_1 l2_1.length c2_1)] 38 (0, 0))) ∧ Aside0 (Below w.heap.size w wc)) (T_ 316) wc_) ?rest ?first
      case first => as_aux_lemma =>
       intro J_ K_ hJ_j2 hM_
       have H := HC104.out
       clear HC104
       replace H := ite_no H
       obtain ⟨c118, H⟩ := H
       replace c118 := of_nbne c118
       subst t142
       (try simp only [bne_self_eq_false])
       replace H := ite_yes H
       obtain ⟨c119, H⟩ := H
       have c119b0 : (t141 == t143) = true := beq_iff_eq.mpr c119
       have c119b1 : (t141 != t143) = false := bne_eq_false_iff_eq.mpr c119
       clear c119
       replace H := ite_no H
       obtain ⟨c120, H⟩ := H
       replace c120 := of_nbne c120
       subst t148
       replace H := oB H
       obtain ⟨t161, A1210, H⟩ := H
       (try dsimp only at H)
       have A121 := Aside0.mk A1210
       clear A1210
       replace H := ite_yes H
       obtain ⟨c122, H⟩ := H
       subst c122
       replace H := ite_no H
       obtain ⟨c123, H⟩ := H
       replace c123 := of_nbne c123
       subst t156
       replace H := oB H
       obtain ⟨t162, A1240, H⟩ := H
       (try dsimp only at H)
       have A124 := Aside0.mk A1240
       clear A1240
       replace H := ite_yes H
       obtain ⟨c125, H⟩ := H
       subst c125
       by_cases c126 : t144 = true
       ·subst c126
        have H1 : (if t152 = true then (laws_FnSetsWinOfAll.j2 kj63 t141 true t145 t152 t153 (t160 != t152) a2_0 l2_1) else (none)) = some r := by rw [if_pos rfl] at H; exact H
        clear H
        have H := H1
        clear H1
        replace H := ite_yes H
        obtain ⟨c127, H⟩ := H
        subst c127
        as_aux_lemma =>
         have H' := Aside0.mk H
         clear H
         obtain ⟨Ao128, co128, eo128⟩ := Kd.R_slice HO147.out
         subst eo128
         obtain ⟨Ao129, co129, eo129⟩ := Kd.R_slice HO151.out
         subst eo129
         go_wp2_with (first | (go_at_call 35; (with_reducible refine (laws_mSame.calls kj63 _ _ t145 _ _ t149 true _ ?side1 ?side2 ?side3 ?side4 A121.out).mono ?_); (case side1 => repeat (first | exact (Kd.R_reads' HO147.out).2.2 | (with_reducible refine Kd.C_alloc ?_ _) | (with_reducible refine Kd.C_drewN ?_ _) | (with_reducible refine Kd.C_drew ?_))); (case side2 => exact (Kd.R_reads' HO147.out).2.1); (case side3 => repeat (first | exact (Kd.R_reads' HO151.out).2.2 | (with_reducible refine Kd.C_alloc ?_ _) | (with_reducible refine Kd.C_drewN ?_ _) | (with_reducible refine Kd.C_drew ?_))); (case side4 => exact (Kd.R_reads' HO151.out).2.1); rintro e w' ⟨rfl, ⟨nd, rfl⟩⟩; obtain ⟨Ao130, co130, eo130⟩ := Kd.R_slice HO155.out; subst eo130; obtain ⟨Ao131, co131, eo131⟩ := Kd.R_slice HO159.out; subst eo131) | (go_at_call 35; (with_reducible refine (laws_mSame.calls kj63 _ _ t153 _ _ t157 true _ ?side1 ?side2 ?side3 ?side4 A124.out).mono ?_); (case side1 =>  repeat (first | exact (Kd.R_reads' HO155.out).2.2 | (with_reducible refine Kd.C_alloc ?_ _) | (with_reducible refine Kd.C_drewN ?_ _) | (with_reducible refine Kd.C_drew ?_))); (case side2 => exact (Kd.R_reads' HO155.out).2.1); (case side3 =>  repeat (first | exact (Kd.R_reads' HO159.out).2.2 | (with_reducible refine Kd.C_alloc ?_ _) | (with_reducible refine Kd.C_drewN ?_ _) | (with_reducible refine Kd.C_drew ?_))); (case side4 => exact (Kd.R_reads' HO159.out).2.1); rintro e w' ⟨rfl, ⟨nd, rfl⟩⟩))
         refine meetT_ hJ_j2 (by kernel_rfl) ?rel
         case rel => exact ⟨_, ((t160 != true)), (by first | rfl | (simp; done) | (simp [*]; done)), H', ⟨by have := HJ14.out; have := HJ63.out; first | omega | exact Nat.le_refl _⟩, ⟨by (with_reducible repeat (first | apply qA | apply qN | apply qD)); exact Kd.R_mono HO147.out (fun _ hk => hk.1.2)⟩, ⟨by (with_reducible repeat (first | apply qA | apply qN | apply qD)); exact Kd.R_mono HO155.out (fun _ hk => hk.1.1.2)⟩, ⟨by (with_reducible repeat (first | refine kN ?_ _ | refine kD ?_ | refine kA ?_ _)); exact BK101.out⟩, ⟨by (with_reducible repeat (first | refine kN ?_ _ | refine kD ?_ | refine kA ?_ _)); exact BK102.out⟩, ⟨by repeat (first | (with_reducible first | exact HB.out | apply ba | apply bd | apply be | refine bs ?_ GE101.out | refine bs ?_ GE102.out) | exact HB.out)⟩⟩
       ·replace c126 := Bool.eq_false_iff.mpr c126
        subst c126
        have H1 : (laws_FnSetsWinOfAll.j2 kj63 t141 false t145 t152 t153 (t160 != t152) a2_0 l2_1) = some r := by rw [if_neg (show ¬ (false = true) by decide)] at H; exact H
        clear H
        have H := H1
        clear H1
        as_aux_lemma =>
         have H' := Aside0.mk H
         clear H
         obtain ⟨Ao132, co132, eo132⟩ := Kd.R_slice HO147.out
         subst eo132
         obtain ⟨Ao133, co133, eo133⟩ := Kd.R_slice HO151.out
         subst eo133
         go_wp2_with (first | (go_at_call 35; (with_reducible refine (laws_mSame.calls kj63 _ _ t145 _ _ t149 true _ ?side1 ?side2 ?side3 ?side4 A121.out).mono ?_); (case side1 =>  repeat (first | exact (Kd.R_reads' HO147.out).2.2 | (with_reducible refine Kd.C_alloc ?_ _) | (with_reducible refine Kd.C_drewN ?_ _) | (with_reducible refine Kd.C_drew ?_))); (case side2 => exact (Kd.R_reads' HO147.out).2.1); (case side3 =>  repeat (first | exact (Kd.R_reads' HO151.out).2.2 | (with_reducible refine Kd.C_alloc ?_ _) | (with_reducible refine Kd.C_drewN ?_ _) | (with_reducible refine Kd.C_drew ?_))); (case side4 => exact (Kd.R_reads' HO151.out).2.1); rintro e w' ⟨rfl, ⟨nd, rfl⟩⟩; obtain ⟨Ao134, co134, eo134⟩ := Kd.R_slice HO155.out; subst eo134; obtain ⟨Ao135, co135, eo135⟩ := Kd.R_slice HO159.out; subst eo135) | (go_at_call 35; (with_reducible refine (laws_mSame.calls kj63 _ _ t153 _ _ t157 true _ ?side1 ?side2 ?side3 ?side4 A124.out).mono ?_); (case side1 =>  repeat (first | exact (Kd.R_reads' HO155.out).2.2 | (with_reducible refine Kd.C_alloc ?_ _) | (with_reducible refine Kd.C_drewN ?_ _) | (with_reducible refine Kd.C_drew ?_))); (case side2 => exact (Kd.R_reads' HO155.out).2.1); (case side3 =>  repeat (first | exact (Kd.R_reads' HO159.out).2.2 | (with_reducible refine Kd.C_alloc ?_ _) | (with_reducible refine Kd.C_drewN ?_ _) | (with_reducible refine Kd.C_drew ?_))); (case side4 => exact (Kd.R_reads' HO159.out).2.1); rintro e w' ⟨rfl, ⟨nd, rfl⟩⟩))
         refine meetT_ hJ_j2 (by kernel_rfl) ?rel
         case rel => exact ⟨_, ((t160 != t152)), (by first | rfl | (simp; done) | (simp [*]; done)), H', ⟨by have := HJ14.out; have := HJ63.out; first | omega | exact Nat.le_refl _⟩, ⟨by (with_reducible repeat (first | apply qA | apply qN | apply qD)); exact Kd.R_mono HO147.out (fun _ hk => hk.1.2)⟩, ⟨by (with_reducible repeat (first | apply qA | apply qN | apply qD)); exact Kd.R_mono HO155.out (fun _ hk => hk.1.1.2)⟩, ⟨by (with_reducible repeat (first | refine kN ?_ _ | refine kD ?_ | refine kA ?_ _)); exact BK101.out⟩, ⟨by (with_reducible repeat (first | refine kN ?_ _ | refine kD ?_ | refine kA ?_ _)); exact BK102.out⟩, ⟨by repeat (first | (with_reducible first | exact HB.out | apply ba | apply bd | apply be | refine bs ?_ GE101.out | refine bs ?_ GE102.out) | exact HB.out)⟩⟩
      case rest => as_aux_lemma =>
       intro T_ wc hcut
       simp only [putT, putM, T, F, Nat.reduceAdd]
       (try dsimp only at hcut)
       generalize T_ 316 = u316 at hcut ⊢
       clear HC104
       (try clear c1); (try clear c2); (try clear p2); (try clear c3); (try clear c6); (try clear p6); (try clear c7); (try clear c8); (try clear c9); (try clear c10); (try clear c11); (try clear c12); (try clear c16); (try clear c20); (try clear c24); (try clear c25); (try clear c26); (try clear c27); (try clear c29); (try clear c30); (try clear c31); (try clear c32); (try clear c33); (try clear c34); (try clear c63); (try clear p64); (try clear c65); (try clear c71); (try clear c71b0); (try clear c71b1); (try clear c71b2); (try clear c72); (try clear c73); (try clear c73b0); (try clear c73b1); (try clear c74); (try clear c75); (try clear c76); (try clear c77); (try clear c78); (try clear c80); (try clear c80b0); (try clear c80b1); (try clear c81); (try clear c92); (try clear c93); (try clear c105); (try clear c118); (try clear c119); (try clear c119b0); (try clear c119b1); (try clear c120); (try clear c122); (try clear c123); (try clear c125); (try clear c126); (try clear c127); (try clear hcz116_0); (try clear hcz116_1); (try clear hcz97_0); (try clear hcz97_1); (try clear hfz116_0); (try clear hfz116_1); (try clear hfz97_0); (try clear hfz97_1); (try clear p2); (try clear p6); (try clear p64)
       obtain ⟨kq, x316_103, rfl, HA, HJ103, HO_37, HO_41, BK101, BK102, HB⟩ := hcut
       cases kq with
       | zero => exact absurd HA.out (by simp [laws_FnSetsWinOfAll.j2])
       | succ kj103 =>
        have H := HA.out
        clear HA
        simp only [laws_FnSetsWinOfAll.j2] at H
        replace H := ite_no H
        obtain ⟨c136, H⟩ := H
        replace c136 := Bool.eq_false_iff.mpr c136
        subst c136
        by_cases c137 : t148 = true
        ·subst c137
         have H1 : ((laws_mRises.f kj103 t145).bind fun t163 => (if t163 = true then ((laws_mRises.f kj103 t153).bind fun t164 => (if t164 = true then (if t142 = true then ((laws_mSame.f kj103 t145 (([t141] : List Int))).bind fun t168 => (if t168 = true then (if (t153.length : Int) = (wrap64 ((l2_1.length : Int) - 1)) then (laws_FnSetsWinOfAll.j3 kj103 t141 t142 t145 t153 (l2_1.length : Int) ((t153.length : Int) == (l2_1.length : Int)) a2_0 l2_1) else (none)) else (none))) else (laws_FnSetsWinOfAll.j3 kj103 t141 t142 t145 t153 (l2_1.length : Int) ((t153.length : Int) == (l2_1.length : Int)) a2_0 l2_1)) else (none))) else (none))) = some r := by rw [if_pos rfl] at H; exact H
         clear H
         have H := H1
         clear H1
         have HC138 := Aside0.mk H
         clear H
         have hnb139 := NB102_101.out
         have hnc139 := NB101_102.out
         have hcz140_0 : wc.cell? ⟨gb102, 0, none⟩ = some (.int .i64 a2_0) := (blk_cell BK102.out 0).trans rfl
         have hcz140_1 : wc.cell? ⟨gb102, 1, none⟩ = some (.slice A2_1 l2_1.length c2_1) := (blk_cell BK102.out 1).trans rfl
         have hfz140_0 := blk_frozen BK102.out 0
         have hfz140_1 := blk_frozen BK102.out 1
         go_upto_region 32 with (fail)
         refine cutT_ [F,F,F,F,F,F,F,F,F,F,F,F,F,F,F,F,F,F,F,F,F,F,F,F,F,F,F,F,F,F,F,F,F,F,F,F,F,F,F,F,F,F,F,F,F,F,F,F,F,F,F,F,F,F,F,F,F,F,F,F,F,F,F,F,F,F,F,F,F,F,F,F,F,F,F,F,F,F,F,F,F,F,F,F,F,F,F,F,F,F,F,F,F,F,F,F,F,F,F,F,F,F,F,F,F,F,F,F,F,F,F,F,F,F,F,F,F,F,F,F,F,F,F,F,F,F,F,F,F,F,F,F,F,F,F,F,F,F,F,F,F,F,F,F,F,F,F,F,F,F,F,F,F,F,F,F,F,F,F,F,F,F,F,F,F,F,F,F,F,F,F,F,F,F,F,F,F,F,F,F,F,F,F,F,F,F,F,F,F,F,F,F,F,F,F,F,F,F,F,F,F,F,F,F,F,F,F,F,F,F,F,F,F,F,F,F,F,F,F,F,F,F,F,F,F,F,F,F,F,F,F,F,F,F,F,F,F,F,F,F,F,F,F,F,F,F,F,F,F,F,F,F,F,F,F,F,F,F,F,F,F,F,F,F,F,F,F,F,F,F,F,F,F,F,F,F,F,F,F,F,F,F,F,F,F,F,F,F,F,F,F,F,F,F,F,F,F,F,F,F,F,F,F,F,F,F,F,F,F,F,F,F,F,F,F,F,F,F,F,F,F,T,T,T,T,T,T,T,T,T,T,T,T,T,T,T,T,T,T,T,T,T,T,T,T,T,T,T,T,T,T,T] (fun T_ wc_ => (fun v351 wc => ∃ (kq : Nat) (x351_137 : Bool), v351 = .bool x351_137 ∧ Aside0 (laws_FnSetsWinOfAll.j3 kq t141 t142 t145 t153 (l2_1.length : Int) x351_137 a2_0 l2_1 = some r) ∧ Aside0 (kq ≤ kj103) ∧ Aside0 (Kd.R (Kd.int .i64) 3 wc w.heap.size (fun k_ => some k_ ≠ (v154 : Value).ownBlock) v146 t145) ∧ Aside0 (Kd.R (Kd.int .i64) 3 wc w.heap.size (fun k_ => some k_ ≠ (v146 : Value).ownBlock) v154 t153) ∧ Aside0 (wc.heap[gb101]? = some (.cells #[.int .i64 a0_0, (.slice A0_1 l0_1.length c0_1)] 38 (0, 0))) ∧ Aside0 (wc.heap[gb102]? = some (.cells #[.int .i64 a2_0, (.slice A2_1 l2_1.length c2_1)] 38 (0, 0))) ∧ Aside0 (Below w.heap.size w wc)) (T_ 351) wc_) ?rest ?first
         case first => as_aux_lemma =>
          intro J_ K_ hJ_j3 hM_
          have H := HC138.out
          clear HC138
          replace H := oB H
          obtain ⟨t163, A1410, H⟩ := H
          (try dsimp only at H)
          have A141 := Aside0.mk A1410
          clear A1410
          replace H := ite_yes H
          obtain ⟨c142, H⟩ := H
          subst c142
          replace H := oB H
          obtain ⟨t164, A1430, H⟩ := H
          (try dsimp only at H)
          have A143 := Aside0.mk A1430
          clear A1430
          replace H := ite_yes H
          obtain ⟨c144, H⟩ := H
          subst c144
          by_cases c145 : t142 = true
          ·subst c145
           have H1 : ((laws_mSame.f kj103 t145 (([t141] : List Int))).bind fun t168 => (if t168 = true then (if (t153.length : Int) = (wrap64 ((l2_1.length : Int) - 1)) then (laws_FnSetsWinOfAll.j3 kj103 t141 true t145 t153 (l2_1.length : Int) ((t153.length : Int) == (l2_1.length : Int)) a2_0 l2_1) else (none)) else (none))) = some r := by rw [if_pos rfl] at H; exact H
           clear H
           have H := H1
           clear H1
           obtain ⟨y165, hy165⟩ : ∃ y_ : List Int, y_ = (([t141] : List Int)) := ⟨_, rfl⟩
           replace H : ((laws_mSame.f kj103 t145 y165).bind fun t168 => (if t168 = true then (if (t153.length : Int) = (wrap64 ((l2_1.length : Int) - 1)) then (laws_FnSetsWinOfAll.j3 kj103 t141 true t145 t153 (l2_1.length : Int) ((t153.length : Int) == (l2_1.length : Int)) a2_0 l2_1) else (none)) else (none))) = some r := by first | (rw [hy165]; with_reducible exact H) | (have H2_ := (Option.bind_some _ _).symm.trans H; rw [hy165]; with_reducible exact H2_) | (have H2_ := (Option.bind_some _ _).symm.trans H; with_reducible exact H2_) | with_reducible exact H | (rw [hy165]; exact H) | exact H
           have Ny165 := Aside0.mk hy165
           clear hy165
           replace H := oB H
           obtain ⟨t168, A1460, H⟩ := H
           (try dsimp only at H)
           have A146 := Aside0.mk A1460
           clear A1460
           replace H := ite_yes H
           obtain ⟨c147, H⟩ := H
           subst c147
           replace H := ite_yes H
           obtain ⟨c148, H⟩ := H
           have c148b0 : ((t153.length : Int) == (wrap64 ((l2_1.length : Int) - 1))) = true := beq_iff_eq.mpr c148
           have c148b1 : ((t153.length : Int) != (wrap64 ((l2_1.length : Int) - 1))) = false := bne_eq_false_iff_eq.mpr c148
           clear c148
           (first | rw [c148b0] | (simp only [i64_w, i32_w]; rw [c148b0]) | skip)
           as_aux_lemma =>
            have H' := Aside0.mk H
            clear H
            obtain ⟨Ao149, co149, eo149⟩ := Kd.R_slice HO_37.out
            subst eo149
            go_wp2_with (first | ((with_reducible refine gate_callee (f := 36) rfl ?_); refine goesL_ (some 322) rfl rfl Try.func36 (by kernel_rfl) rfl #[.slice Ao149 t145.length co149] rfl (by (try simp only [mA, mC, mN]); first | done | rfl) ?_; (with_reducible refine (laws_mRises.calls kj103 _ _ t145 true _ ?side1 ?side2 A141.out).mono ?_); (case side1 => repeat (first | exact (Kd.R_reads' HO_37.out).2.2 | (with_reducible refine Kd.C_alloc ?_ _) | (with_reducible refine Kd.C_drewN ?_ _) | (with_reducible refine Kd.C_drew ?_))); (case side2 => exact (Kd.R_reads' HO_37.out).2.1); rintro e w' ⟨rfl, ⟨nd, rfl⟩⟩; refine ⟨_, rfl, ?_⟩; obtain ⟨Ao150, co150, eo150⟩ := Kd.R_slice HO_41.out; subst eo150) | (go_at_call 36; (with_reducible refine (laws_mRises.calls kj103 _ _ t153 true _ ?side1 ?side2 A143.out).mono ?_); (case side1 =>  repeat (first | exact (Kd.R_reads' HO_41.out).2.2 | (with_reducible refine Kd.C_alloc ?_ _) | (with_reducible refine Kd.C_drewN ?_ _) | (with_reducible refine Kd.C_drew ?_))); (case side2 => exact (Kd.R_reads' HO_41.out).2.1); rintro e w' ⟨rfl, ⟨nd, rfl⟩⟩) | ((with_reducible refine gate_dst (N := 334) rfl ?_); (try (refine gate_guard (by rfl) ?_; dsimp only)); refine Kd.R_lit (Kd.int .i64) _ 3 ?hg (N := 334) ?hd (xs := ([t141] : List Int)) (inner := [.int .i64 t141]) (ok := fun _ => True) (okp := fun _ => True) ?hr ?hp (fun _ hk => hk) trivial (Below.refl _ _) (Nat.le_refl _) (by simp) ?_; (case hd => rfl); (case hg => rfl); (case hr => first | (go_simp; done) | (go_simp; rfl)); (case hp => exact (Reps.one (show Kd.M (Kd.int .i64) _ _ _ t141 [.int .i64 t141] from rfl) (Reps.none _ _))); intro v166 w151 ho152 hb hg_ hnew_; clear hg_ hnew_; (first | rw [← Ny165.out] at ho152 | (simp only [Int.reduceToNat] at ho152; rw [← Ny165.out] at ho152)); have HO167 := Aside0.mk (Kd.R_lower (Kd.R_new' (Kd.R_new' ho152 (Kd.R_lt (by (with_reducible repeat (first | apply qA | apply qN | apply qD)); exact HO_37.out))) (Kd.R_lt (by (with_reducible repeat (first | apply qA | apply qN | apply qD)); exact HO_41.out))) (below_size (by repeat (first | exact HB.out | apply ba | apply bd | apply be | refine bs ?_ GE101.out | refine bs ?_ GE102.out)))); replace HO_37 := Aside0.mk (Kd.R_elder' (by (with_reducible repeat (first | apply qA | apply qN | apply qD)); exact HO_37.out) (Kd.R_base ho152) hb); replace HO_41 := Aside0.mk (Kd.R_elder' (by (with_reducible repeat (first | apply qA | apply qN | apply qD)); exact HO_41.out) (Kd.R_base ho152) hb); replace BK101 := Aside0.mk (blk_below (g := gb101) (o := .cells #[.int .i64 a0_0, .slice A0_1 l0_1.length c0_1] 38 (0, 0)) (by (with_reducible repeat (first | refine kN ?_ _ | refine kD ?_ | refine kA ?_ _)); exact BK101.out) hb); replace BK102 := Aside0.mk (blk_below (g := gb102) (o := .cells #[.int .i64 a2_0, .slice A2_1 l2_1.length c2_1] 38 (0, 0)) (by (with_reducible repeat (first | refine kN ?_ _ | refine kD ?_ | refine kA ?_ _)); exact BK102.out) hb); replace HB := Aside0.mk (below_step (by repeat (first | exact HB.out | apply ba | apply bd | apply be | refine bs ?_ GE101.out | refine bs ?_ GE102.out)) hb); clear hb ho152; obtain ⟨Ao153, co153, eo153⟩ := Kd.R_slice HO167.out; subst eo153) | (go_at_call 35; (with_reducible refine (laws_mSame.calls kj103 _ _ t145 _ _ y165 true _ ?side1 ?side2 ?side3 ?side4 A146.out).mono ?_); (case side1 =>  repeat (first | exact (Kd.R_reads' HO_37.out).2.2 | (with_reducible refine Kd.C_alloc ?_ _) | (with_reducible refine Kd.C_drewN ?_ _) | (with_reducible refine Kd.C_drew ?_))); (case side2 => exact (Kd.R_reads' HO_37.out).2.1); (case side3 =>  repeat (first | exact (Kd.R_reads' HO167.out).2.2 | (with_reducible refine Kd.C_alloc ?_ _) | (with_reducible refine Kd.C_drewN ?_ _) | (with_reducible refine Kd.C_drew ?_))); (case side4 => exact (Kd.R_reads' HO167.out).2.1); rintro e w' ⟨rfl, ⟨nd, rfl⟩⟩))
            refine meetT_ hJ_j3 (by kernel_rfl) ?rel
            case rel => exact ⟨_, (((t153.length : Int) == (l2_1.length : Int))), (by first | rfl | (simp; done) | (simp [*]; done)), H', ⟨by have := HJ14.out; have := HJ63.out; have := HJ103.out; first | omega | exact Nat.le_refl _⟩, ⟨by (with_reducible repeat (first | apply qA | apply qN | apply qD)); exact Kd.R_mono HO_37.out (fun _ hk => hk.1)⟩, ⟨by (with_reducible repeat (first | apply qA | apply qN | apply qD)); exact Kd.R_mono HO_41.out (fun _ hk => hk.1)⟩, ⟨by (with_reducible repeat (first | refine kN ?_ _ | refine kD ?_ | refine kA ?_ _)); exact BK101.out⟩, ⟨by (with_reducible repeat (first | refine kN ?_ _ | refine kD ?_ | refine kA ?_ _)); exact BK102.out⟩, ⟨by repeat (first | (with_reducible first | exact HB.out | apply ba | apply bd | apply be | refine bs ?_ GE101.out | refine bs ?_ GE102.out) | exact HB.out)⟩⟩
          ·replace c145 := Bool.eq_false_iff.mpr c145
           subst c145
           have H1 : (laws_FnSetsWinOfAll.j3 kj103 t141 false t145 t153 (l2_1.length : Int) ((t153.length : Int) == (l2_1.length : Int)) a2_0 l2_1) = some r := by rw [if_neg (show ¬ (false = true) by decide)] at H; exact H
           clear H
           have H := H1
           clear H1
           as_aux_lemma =>
            have H' := Aside0.mk H
            clear H
            obtain ⟨Ao154, co154, eo154⟩ := Kd.R_slice HO_37.out
            subst eo154
            go_wp2_with (first | ((with_reducible refine gate_callee (f := 36) rfl ?_); refine goesL_ (some 322) rfl rfl Try.func36 (by kernel_rfl) rfl #[.slice Ao154 t145.length co154] rfl (by (try simp only [mA, mC, mN]); first | done | rfl) ?_; (with_reducible refine (laws_mRises.calls kj103 _ _ t145 true _ ?side1 ?side2 A141.out).mono ?_); (case side1 =>  repeat (first | exact (Kd.R_reads' HO_37.out).2.2 | (with_reducible refine Kd.C_alloc ?_ _) | (with_reducible refine Kd.C_drewN ?_ _) | (with_reducible refine Kd.C_drew ?_))); (case side2 => exact (Kd.R_reads' HO_37.out).2.1); rintro e w' ⟨rfl, ⟨nd, rfl⟩⟩; refine ⟨_, rfl, ?_⟩; obtain ⟨Ao155, co155, eo155⟩ := Kd.R_slice HO_41.out; subst eo155) | (go_at_call 36; (with_reducible refine (laws_mRises.calls kj103 _ _ t153 true _ ?side1 ?side2 A143.out).mono ?_); (case side1 =>  repeat (first | exact (Kd.R_reads' HO_41.out).2.2 | (with_reducible refine Kd.C_alloc ?_ _) | (with_reducible refine Kd.C_drewN ?_ _) | (with_reducible refine Kd.C_drew ?_))); (case side2 => exact (Kd.R_reads' HO_41.out).2.1); rintro e w' ⟨rfl, ⟨nd, rfl⟩⟩))
            refine meetT_ hJ_j3 (by kernel_rfl) ?rel
            case rel => exact ⟨_, (((t153.length : Int) == (l2_1.length : Int))), (by first | rfl | (simp; done) | (simp [*]; done)), H', ⟨by have := HJ14.out; have := HJ63.out; have := HJ103.out; first | omega | exact Nat.le_refl _⟩, ⟨by (with_reducible repeat (first | apply qA | apply qN | apply qD)); exact HO_37.out⟩, ⟨by (with_reducible repeat (first | apply qA | apply qN | apply qD)); exact HO_41.out⟩, ⟨by (with_reducible repeat (first | refine kN ?_ _ | refine kD ?_ | refine kA ?_ _)); exact BK101.out⟩, ⟨by (with_reducible repeat (first | refine kN ?_ _ | refine kD ?_ | refine kA ?_ _)); exact BK102.out⟩, ⟨by repeat (first | (with_reducible first | exact HB.out | apply ba | apply bd | apply be | refine bs ?_ GE101.out | refine bs ?_ GE102.out) | exact HB.out)⟩⟩
         case rest => as_aux_lemma =>
          intro T_ wc hcut
          simp only [putT, putM, T, F, Nat.reduceAdd]
          (try dsimp only at hcut)
          generalize T_ 351 = u351 at hcut ⊢
          clear HC138
          (try clear c1); (try clear c2); (try clear p2); (try clear c3); (try clear c6); (try clear p6); (try clear c7); (try clear c8); (try clear c9); (try clear c10); (try clear c11); (try clear c12); (try clear c13); (try clear c14); (try clear c16); (try clear c20); (try clear c24); (try clear c25); (try clear c26); (try clear c27); (try clear c29); (try clear c30); (try clear c31); (try clear c32); (try clear c33); (try clear c34); (try clear c36); (try clear c63); (try clear p64); (try clear c65); (try clear c71); (try clear c71b0); (try clear c71b1); (try clear c71b2); (try clear c72); (try clear c73); (try clear c73b0); (try clear c73b1); (try clear c74); (try clear c75); (try clear c76); (try clear c77); (try clear c78); (try clear c80); (try clear c80b0); (try clear c80b1); (try clear c81); (try clear c92); (try clear c93); (try clear c105); (try clear c118); (try clear c119); (try clear c119b0); (try clear c119b1); (try clear c120); (try clear c122); (try clear c123); (try clear c125); (try clear c126); (try clear c127); (try clear c136); (try clear c137); (try clear c139); (try clear c142); (try clear c144); (try clear c145); (try clear c147); (try clear c148); (try clear c148b0); (try clear c148b1); (try clear hcz116_0); (try clear hcz116_1); (try clear hcz140_0); (try clear hcz140_1); (try clear hcz97_0); (try clear hcz97_1); (try clear hfz116_0); (try clear hfz116_1); (try clear hfz140_0); (try clear hfz140_1); (try clear hfz97_0); (try clear hfz97_1); (try clear p2); (try clear p6); (try clear p64)
          obtain ⟨kq, x351_137, rfl, HA, HJ137, HO_37, HO_41, BK101, BK102, HB⟩ := hcut
          cases kq with
          | zero => exact absurd HA.out (by simp [laws_FnSetsWinOfAll.j3])
          | succ kj137 =>
           have H := HA.out
           clear HA
           simp only [laws_FnSetsWinOfAll.j3] at H
           replace H := ite_no H
           obtain ⟨c156, H⟩ := H
           replace c156 := Bool.eq_false_iff.mpr c156
           subst c156
           have H' := Aside0.mk H
           clear H
           go_wp2
           refine loopT_ [F,F,F,F,F,F,T,F,F,F,F,F,F,F,F,F,F,F,F,F,F,F,F,F,F,F,F,F,F,F,F,F,F,F,F,F,F,F,F,F,F,F,F,F,F,F,T,T,T,T,T,F,F,F,F,F,F,F,F,F,F,F,F,F,F,F,F,F,F,F,F,F,F,F,F,F,F,F,F,F,F,F,F,F,F,F,F,F,F,F,F,F,F,F,F,F,F,F,F,F,F,F,F,F,F,F,F,F,F,F,F,F,F,F,F,F,F,F,F,F,F,F,F,F,F,F,F,F,F,F,F,F,F,F,F,F,F,F,F,F,F,F,F,F,F,F,F,F,F,F,F,F,F,F,F,F,F,F,F,F,F,F,F,F,F,F,F,F,F,F,F,F,F,F,F,F,F,F,F,F,F,F,F,F,F,F,F,F,F,F,F,F,F,F,F,F,F,F,F,F,F,F,F,F,F,F,F,F,F,F,F,F,F,F,F,F,F,F,F,F,F,F,F,F,F,F,F,F,F,F,F,F,F,F,F,F,F,F,F,F,F,F,F,F,F,F,F,F,F,F,F,F,F,F,F,F,F,F,F,F,F,F,F,F,F,F,F,F,F,F,F,F,F,F,F,F,F,F,F,F,F,F,F,F,F,F,F,F,F,F,F,F,F,F,F,F,F,F,F,F,F,F,F,F,F,F,F,F,F,F,F,F,F,F,F,F,F,F,F,F,F,F,F,F,F,F,F,F,F,F,F,F,F,F,F,F,F,F,F,F,F,F,F,F,F,F,F,F,F,F,F,F,T,T,T,T,T,T,T,T,T,T,T,T,T,T,T,T,T,T,T,T,T,T,T,T,T,T,T,T,T,T,T,T,T,T,T,T,T,T,T,T,T,T,T,T,T,T,T,T,T,T,T,T,T,T,T,T] kj137 (fun kq_ T_ w_ => (fun kq v46 w' => ∃ (x46_5 : Int), v46 = .int .i64 x46_5 ∧ Aside0 (laws_FnSetsWinOfAll.l0 kq t141 t142 t145 t153 (l2_1.length : Int) x46_5 a2_0 l2_1 = some r) ∧ Aside0 (kq ≤ kj137) ∧ Aside0 (Kd.R (Kd.int .i64) 3 w' w.heap.size (fun k_ => some k_ ≠ (v154 : Value).ownBlock) v146 t145) ∧ Aside0 (Kd.R (Kd.int .i64) 3 w' w.heap.size (fun k_ => some k_ ≠ (v146 : Value).ownBlock) v154 t153) ∧ Aside0 (w'.heap[gb101]? = some (.cells #[.int .i64 a0_0, (.slice A0_1 l0_1.length c0_1)] 38 (0, 0))) ∧ Aside0 (w'.heap[gb102]? = some (.cells #[.int .i64 a2_0, (.slice A2_1 l2_1.length c2_1)] 38 (0, 0))) ∧ Aside0 (Below w.heap.size w w')) kq_ (T_ 46) w_) (by kernel_rfl) ?atStart ?round
           case atStart => exact ⟨(0), (by first | rfl | (simp; done) | (simp [*]; done)), H', ⟨Nat.le_refl _⟩, ⟨by exact HO_37.out⟩, ⟨by exact HO_41.out⟩, ⟨by exact BK101.out⟩, ⟨by exact BK102.out⟩, ⟨by repeat (first | (with_reducible first | exact HB.out | apply ba | apply bd | apply be | refine bs ?_ GE101.out | refine bs ?_ GE102.out) | exact HB.out)⟩⟩
           case round => as_aux_lemma =>
            intro gk T_ wr hrel J_ K_ hJ_l0 hM_
            simp only [putT, putM, T, F, Nat.reduceAdd]
            (try dsimp only at hrel)
            generalize T_ 46 = u46 at hrel ⊢
            clear H'
            (try clear c1); (try clear c2); (try clear p2); (try clear c3); (try clear c6); (try clear p6); (try clear c7); (try clear c8); (try clear c9); (try clear c10); (try clear c11); (try clear c12); (try clear c13); (try clear c14); (try clear c15); (try clear c16); (try clear c20); (try clear c24); (try clear c25); (try clear c26); (try clear c27); (try clear c29); (try clear c30); (try clear c31); (try clear c32); (try clear c33); (try clear c34); (try clear c36); (try clear c63); (try clear p64); (try clear c65); (try clear c71); (try clear c71b0); (try clear c71b1); (try clear c71b2); (try clear c72); (try clear c73); (try clear c73b0); (try clear c73b1); (try clear c74); (try clear c75); (try clear c76); (try clear c77); (try clear c78); (try clear c80); (try clear c80b0); (try clear c80b1); (try clear c81); (try clear c92); (try clear c93); (try clear c105); (try clear c118); (try clear c119); (try clear c119b0); (try clear c119b1); (try clear c120); (try clear c122); (try clear c123); (try clear c125); (try clear c126); (try clear c127); (try clear c136); (try clear c137); (try clear c139); (try clear c142); (try clear c144); (try clear c145); (try clear c147); (try clear c148); (try clear c148b0); (try clear c148b1); (try clear c156); (try clear hcz116_0); (try clear hcz116_1); (try clear hcz140_0); (try clear hcz140_1); (try clear hcz97_0); (try clear hcz97_1); (try clear hfz116_0); (try clear hfz116_1); (try clear hfz140_0); (try clear hfz140_1); (try clear hfz97_0); (try clear hfz97_1); (try clear p2); (try clear p6); (try clear p64)
            obtain ⟨x46_5, rfl, HA, HK5, HO_37, HO_41, BK101, BK102, HB⟩ := hrel
            cases gk with
            | zero => exact absurd HA.out (by simp [laws_FnSetsWinOfAll.l0])
            | succ k5 =>
             have H := HA.out
             clear HA
             simp only [laws_FnSetsWinOfAll.l0] at H
             by_cases c157 : x46_5 < (l2_1.length : Int)
             ·rw [if_pos c157] at H
              have c157b0 : decide (x46_5 < (l2_1.length : Int)) = true := decide_eq_true c157
              clear c157
              obtain ⟨y169, hy169⟩ : ∃ y_ : List Int, y_ = (([x46_5] : List Int)) := ⟨_, rfl⟩
              replace H : ((impl_IsBlocking.f k5 a2_0 l2_1 y169).bind fun bt172 => ((impl_IsWinning.f k5 a2_0 l2_1 (([x46_5] : List Int))).bind fun bt177 => (if bt172.2 = true then ((laws_mHas.f k5 t145 x46_5).bind fun t179 => (if (bt172.1 != t179) = true then (none) else (if bt177.2 = true then (if t142 = true then (if bt172.1 = true then (if ((t141 == x46_5) != bt177.1) = true then (none) else ((laws_mHas.f k5 t153 x46_5).bind fun t180 => (if t180 = true then (none) else (laws_FnSetsWinOfAll.j5 k5 t141 t142 t145 t153 (l2_1.length : Int) x46_5 false a2_0 l2_1)))) else (if ((t141 == x46_5) != false) = true then (none) else ((laws_mHas.f k5 t153 x46_5).bind fun t181 => (if t181 = true then (laws_FnSetsWinOfAll.j5 k5 t141 t142 t145 t153 (l2_1.length : Int) x46_5 bt177.1 a2_0 l2_1) else (laws_FnSetsWinOfAll.j5 k5 t141 t142 t145 t153 (l2_1.length : Int) x46_5 false a2_0 l2_1))))) else (if bt172.1 = true then (if (false != bt177.1) = true then (none) else ((laws_mHas.f k5 t153 x46_5).bind fun t182 => (if t182 = true then (none) else (laws_FnSetsWinOfAll.j5 k5 t141 t142 t145 t153 (l2_1.length : Int) x46_5 false a2_0 l2_1)))) else ((laws_mHas.f k5 t153 x46_5).bind fun t183 => (if t183 = true then (laws_FnSetsWinOfAll.j5 k5 t141 t142 t145 t153 (l2_1.length : Int) x46_5 bt177.1 a2_0 l2_1) else (laws_FnSetsWinOfAll.j5 k5 t141 t142 t145 t153 (l2_1.length : Int) x46_5 false a2_0 l2_1))))) else (none)))) else (none)))) = some r := by first | (rw [hy169]; with_reducible exact H) | (have H2_ := (Option.bind_some _ _).symm.trans H; rw [hy169]; with_reducible exact H2_) | (have H2_ := (Option.bind_some _ _).symm.trans H; with_reducible exact H2_) | with_reducible exact H | (rw [hy169]; exact H) | exact H
              have Ny169 := Aside0.mk hy169
              clear hy169
              replace H := oB H
              obtain ⟨⟨t172, t173⟩, A1580, H⟩ := H
              (try dsimp only at H)
              have A158 := Aside0.mk A1580
              clear A1580
              obtain ⟨y174, hy174⟩ : ∃ y_ : List Int, y_ = (([x46_5] : List Int)) := ⟨_, rfl⟩
              replace H : ((impl_IsWinning.f k5 a2_0 l2_1 y174).bind fun bt177 => (if t173 = true then ((laws_mHas.f k5 t145 x46_5).bind fun t179 => (if (t172 != t179) = true then (none) else (if bt177.2 = true then (if t142 = true then (if t172 = true then (if ((t141 == x46_5) != bt177.1) = true then (none) else ((laws_mHas.f k5 t153 x46_5).bind fun t180 => (if t180 = true then (none) else (laws_FnSetsWinOfAll.j5 k5 t141 t142 t145 t153 (l2_1.length : Int) x46_5 false a2_0 l2_1)))) else (if ((t141 == x46_5) != false) = true then (none) else ((laws_mHas.f k5 t153 x46_5).bind fun t181 => (if t181 = true then (laws_FnSetsWinOfAll.j5 k5 t141 t142 t145 t153 (l2_1.length : Int) x46_5 bt177.1 a2_0 l2_1) else (laws_FnSetsWinOfAll.j5 k5 t141 t142 t145 t153 (l2_1.length : Int) x46_5 false a2_0 l2_1))))) else (if t172 = true then (if (false != bt177.1) = true then (none) else ((laws_mHas.f k5 t153 x46_5).bind fun t182 => (if t182 = true then (none) else (laws_FnSetsWinOfAll.j5 k5 t141 t142 t145 t153 (l2_1.length : Int) x46_5 false a2_0 l2_1)))) else ((laws_mHas.f k5 t153 x46_5).bind fun t183 => (if t183 = true then (laws_FnSetsWinOfAll.j5 k5 t141 t142 t145 t153 (l2_1.length : Int) x46_5 bt177.1 a2_0 l2_1) else (laws_FnSetsWinOfAll.j5 k5 t141 t142 t145 t153 (l2_1.length : Int) x46_5 false a2_0 l2_1))))) else (none)))) else (none))) = some r := by first | (rw [hy174]; with_reducible exact H) | (have H2_ := (Option.bind_some _ _).symm.trans H; rw [hy174]; with_reducible exact H2_) | (have H2_ := (Option.bind_some _ _).symm.trans H; with_reducible exact H2_) | with_reducible exact H | (rw [hy174]; exact H) | exact H
              have Ny174 := Aside0.mk hy174
              clear hy174
              replace H := oB H
              obtain ⟨⟨t177, t178⟩, A1590, H⟩ := H
              (try dsimp only at H)
              have A159 := Aside0.mk A1590
              clear A1590
              have HC160 := Aside0.mk H
              clear H
              have hnb161 := NB102_101.out
              have hnc161 := NB101_102.out
              have hcz162_0 : wr.cell? ⟨gb102, 0, none⟩ = some (.int .i64 a2_0) := (blk_cell BK102.out 0).trans rfl
              have hcz162_1 : wr.cell? ⟨gb102, 1, none⟩ = some (.slice A2_1 l2_1.length c2_1) := (blk_cell BK102.out 1).trans rfl
              have hfz162_0 := blk_frozen BK102.out 0
              have hfz162_1 := blk_frozen BK102.out 1
              go_upto_region 38 with (first | ((with_reducible refine gate_dst (N := 360) rfl ?_); (try (refine gate_guard (by rfl) ?_; dsimp only)); refine Kd.R_lit (Kd.int .i64) _ 3 ?hg (N := 360) ?hd (xs := ([x46_5] : List Int)) (inner := [.int .i64 x46_5]) (ok := fun _ => True) (okp := fun _ => True) ?hr ?hp (fun _ hk => hk) trivial (Below.refl _ _) (Nat.le_refl _) (by simp) ?_; (case hd => rfl); (case hg => rfl); (case hr => first | (go_simp; done) | (go_simp; rfl)); (case hp => exact (Reps.one (show Kd.M (Kd.int .i64) _ _ _ x46_5 [.int .i64 x46_5] from rfl) (Reps.none _ _))); intro v170 w163 ho164 hb hg_ hnew_; clear hg_ hnew_; (first | rw [← Ny169.out] at ho164 | (simp only [Int.reduceToNat] at ho164; rw [← Ny169.out] at ho164)); have HO171 := Aside0.mk (Kd.R_lower (Kd.R_new' (Kd.R_new' ho164 (Kd.R_lt HO_37.out)) (Kd.R_lt HO_41.out)) (below_size HB.out)); replace HO_37 := Aside0.mk (Kd.R_elder' HO_37.out (Kd.R_base ho164) hb); replace HO_41 := Aside0.mk (Kd.R_elder' HO_41.out (Kd.R_base ho164) hb); replace BK101 := Aside0.mk (blk_below BK101.out hb); replace BK102 := Aside0.mk (blk_below BK102.out hb); replace HB := Aside0.mk (below_step HB.out hb); clear hb ho164; obtain ⟨Ao165, co165, eo165⟩ := Kd.R_slice HO171.out; subst eo165) | ((with_reducible refine gate_callee (f := 18) rfl ?_); refine goesL_ (some 361) rfl rfl Try.func18 (by kernel_rfl) rfl #[.agg #[.int .i64 a2_0, .slice A2_1 l2_1.length c2_1], .slice Ao165 y169.length co165] rfl (by (try simp only [mA, mC, mN]); first | done | rfl) ?_; (with_reducible refine (impl_IsBlocking.calls k5 a2_0 _ _ l2_1 _ _ y169 t172 t173 _ ?side1 ?side2 ?side3 ?side4 A158.out).mono ?_); (case side1 => repeat (first | exact (Kd.C_below HR2_1.out HB.out) | (with_reducible refine Kd.C_alloc ?_ _) | (with_reducible refine Kd.C_drewN ?_ _) | (with_reducible refine Kd.C_drew ?_))); (case side2 => exact HC2_1.out); (case side3 => repeat (first | exact (Kd.R_reads' HO171.out).2.2 | (with_reducible refine Kd.C_alloc ?_ _) | (with_reducible refine Kd.C_drewN ?_ _) | (with_reducible refine Kd.C_drew ?_))); (case side4 => exact (Kd.R_reads' HO171.out).2.1); rintro e w166 ⟨rfl, hb⟩; refine ⟨_, rfl, ?_⟩; replace HO_37 := Aside0.mk (Kd.R_below HO_37.out hb); replace HO_41 := Aside0.mk (Kd.R_below HO_41.out hb); replace HO171 := Aside0.mk (Kd.R_below HO171.out hb); replace BK101 := Aside0.mk (blk_below BK101.out hb); replace BK102 := Aside0.mk (blk_below BK102.out hb); replace HB := Aside0.mk (below_step HB.out hb); (try clear hb); (try clear hcz162_0 hcz162_1 hfz162_0 hfz162_1); have hcz167_0 : w166.cell? ⟨gb102, 0, none⟩ = some (.int .i64 a2_0) := (blk_cell BK102.out 0).trans rfl; have hcz167_1 : w166.cell? ⟨gb102, 1, none⟩ = some (.slice A2_1 l2_1.length c2_1) := (blk_cell BK102.out 1).trans rfl; have hfz167_0 := blk_frozen BK102.out 0; have hfz167_1 := blk_frozen BK102.out 1))
              go_upto_region 39 with (first | ((with_reducible refine gate_dst (N := 367) rfl ?_); (try (refine gate_guard (by rfl) ?_; dsimp only)); refine Kd.R_lit (Kd.int .i64) _ 3 ?hg (N := 367) ?hd (xs := ([x46_5] : List Int)) (inner := [.int .i64 x46_5]) (ok := fun _ => True) (okp := fun _ => True) ?hr ?hp (fun _ hk => hk) trivial (Below.refl _ _) (Nat.le_refl _) (by simp) ?_; (case hd => rfl); (case hg => rfl); (case hr => first | (go_simp; done) | (go_simp; rfl)); (case hp => exact (Reps.one (show Kd.M (Kd.int .i64) _ _ _ x46_5 [.int .i64 x46_5] from rfl) (Reps.none _ _))); intro v175 w168 ho169 hb hg_ hnew_; clear hg_ hnew_; (first | rw [← Ny174.out] at ho169 | (simp only [Int.reduceToNat] at ho169; rw [← Ny174.out] at ho169)); have HO176 := Aside0.mk (Kd.R_lower (Kd.R_new' (Kd.R_new' (Kd.R_new' ho169 (Kd.R_lt HO_37.out)) (Kd.R_lt HO_41.out)) (Kd.R_lt HO171.out)) (below_size HB.out)); replace HO_37 := Aside0.mk (Kd.R_elder' HO_37.out (Kd.R_base ho169) hb); replace HO_41 := Aside0.mk (Kd.R_elder' HO_41.out (Kd.R_base ho169) hb); replace HO171 := Aside0.mk (Kd.R_elder' HO171.out (Kd.R_base ho169) hb); replace BK101 := Aside0.mk (blk_below BK101.out hb); replace BK102 := Aside0.mk (blk_below BK102.out hb); replace HB := Aside0.mk (below_step HB.out hb); clear hb ho169; obtain ⟨Ao170, co170, eo170⟩ := Kd.R_slice HO176.out; subst eo170) | ((with_reducible refine gate_callee (f := 16) rfl ?_); refine goesL_ (some 368) rfl rfl Try.func16 (by kernel_rfl) rfl #[.agg #[.int .i64 a2_0, .slice A2_1 l2_1.length c2_1], .slice Ao170 y174.length co170] rfl (by (try simp only [mA, mC, mN]); first | done | rfl) ?_; (with_reducible refine (impl_IsWinning.calls k5 a2_0 _ _ l2_1 _ _ y174 t177 t178 _ ?side1 ?side2 ?side3 ?side4 A159.out).mono ?_); (case side1 => repeat (first | exact (Kd.C_below HR2_1.out HB.out) | (with_reducible refine Kd.C_alloc ?_ _) | (with_reducible refine Kd.C_drewN ?_ _) | (with_reducible refine Kd.C_drew ?_))); (case side2 => exact HC2_1.out); (case side3 => repeat (first | exact (Kd.R_reads' HO176.out).2.2 | (with_reducible refine Kd.C_alloc ?_ _) | (with_reducible refine Kd.C_drewN ?_ _) | (with_reducible refine Kd.C_drew ?_))); (case side4 => exact (Kd.R_reads' HO176.out).2.1); rintro e w171 ⟨rfl, hb⟩; refine ⟨_, rfl, ?_⟩; replace HO_37 := Aside0.mk (Kd.R_below HO_37.out hb); replace HO_41 := Aside0.mk (Kd.R_below HO_41.out hb); replace HO171 := Aside0.mk (Kd.R_below HO171.out hb); replace HO176 := Aside0.mk (Kd.R_below HO176.out hb); replace BK101 := Aside0.mk (blk_below BK101.out hb); replace BK102 := Aside0.mk (blk_below BK102.out hb); replace HB := Aside0.mk (below_step HB.out hb); (try clear hb)))
              (try simp only [Act.put, sA, sZ, sS])
              refine cutT_ [F,F,F,F,F,F,F,F,F,F,F,F,F,F,F,F,F,F,F,F,F,F,F,F,F,F,F,F,F,F,F,F,F,F,F,F,F,F,F,F,F,F,F,F,F,F,F,F,F,F,F,F,F,F,F,F,F,F,F,F,F,F,F,F,F,F,F,F,F,F,F,F,F,F,F,F,F,F,F,F,F,F,F,F,F,F,F,F,F,F,F,F,F,F,F,F,F,F,F,F,F,F,F,F,F,F,F,F,F,F,F,F,F,F,F,F,F,F,F,F,F,F,F,F,F,F,F,F,F,F,F,F,F,F,F,F,F,F,F,F,F,F,F,F,F,F,F,F,F,F,F,F,F,F,F,F,F,F,F,F,F,F,F,F,F,F,F,F,F,F,F,F,F,F,F,F,F,F,F,F,F,F,F,F,F,F,F,F,F,F,F,F,F,F,F,F,F,F,F,F,F,F,F,F,F,F,F,F,F,F,F,F,F,F,F,F,F,F,F,F,F,F,F,F,F,F,F,F,F,F,F,F,F,F,F,F,F,F,F,F,F,F,F,F,F,F,F,F,F,F,F,F,F,F,F,F,F,F,F,F,F,F,F,F,F,F,F,F,F,F,F,F,F,F,F,F,F,F,F,F,F,F,F,F,F,F,F,F,F,F,F,F,F,F,F,F,F,F,F,F,F,F,F,F,F,F,F,F,F,F,F,F,F,F,F,F,F,F,F,F,F,F,F,F,F,F,F,F,F,F,F,F,F,F,F,F,F,F,F,F,F,F,F,F,F,F,F,F,F,F,F,F,F,F,F,F,F,F,F,F,F,F,F,F,F,F,F,F,F,F,F,T,T,T,T,T,T,T,T,T,T,T,T,T,T,T,T,T,T,T,T,T,T,T,T,T,T,T,T,T,T,T,T,T,T,T,T,T] (fun T_ wc_ => (fun v407 wc => ∃ (kq : Nat) (x407_159 : Bool), v407 = .bool x407_159 ∧ Aside0 (laws_FnSetsWinOfAll.j5 kq t141 t142 t145 t153 (l2_1.length : Int) x46_5 x407_159 a2_0 l2_1 = some r) ∧ Aside0 (kq ≤ k5) ∧ Aside0 (Kd.R (Kd.int .i64) 3 wc w.heap.size (fun k_ => some k_ ≠ (v154 : Value).ownBlock) v146 t145) ∧ Aside0 (Kd.R (Kd.int .i64) 3 wc w.heap.size (fun k_ => some k_ ≠ (v146 : Value).ownBlock) v154 t153) ∧ Aside0 (wc.heap[gb101]? = some (.cells #[.int .i64 a0_0, (.slice A0_1 l0_1.length c0_1)] 38 (0, 0))) ∧ Aside0 (wc.heap[gb102]? = some (.cells #[.int .i64 a2_0, (.slice A2_1 l2_1.length c2_1)] 38 (0, 0))) ∧ Aside0 (Below w.heap.size w wc)) (T_ 407) wc_) ?rest ?first
              case first => as_aux_lemma =>
               intro J_ K_ hJ_j5 hM_
               have H := HC160.out
               clear HC160
               replace H := ite_yes H
               obtain ⟨c172, H⟩ := H
               subst c172
               replace H := oB H
               obtain ⟨t179, A1730, H⟩ := H
               (try dsimp only at H)
               have A173 := Aside0.mk A1730
               clear A1730
               replace H := ite_no H
               obtain ⟨c174, H⟩ := H
               replace c174 := of_nbne c174
               subst t172
               (try simp only [bne_self_eq_false])
               replace H := ite_yes H
               obtain ⟨c175, H⟩ := H
               subst c175
               by_cases c176 : t142 = true
               ·subst c176
                have H1 : (if t179 = true then (if ((t141 == x46_5) != t177) = true then (none) else ((laws_mHas.f k5 t153 x46_5).bind fun t180 => (if t180 = true then (none) else (laws_FnSetsWinOfAll.j5 k5 t141 true t145 t153 (l2_1.length : Int) x46_5 false a2_0 l2_1)))) else (if ((t141 == x46_5) != false) = true then (none) else ((laws_mHas.f k5 t153 x46_5).bind fun t181 => (if t181 = true then (laws_FnSetsWinOfAll.j5 k5 t141 true t145 t153 (l2_1.length : Int) x46_5 t177 a2_0 l2_1) else (laws_FnSetsWinOfAll.j5 k5 t141 true t145 t153 (l2_1.length : Int) x46_5 false a2_0 l2_1))))) = some r := by rw [if_pos rfl] at H; exact H
                clear H
                have H := H1
                clear H1
                by_cases c177 : t179 = true
                ·subst c177
                 have H1 : (if ((t141 == x46_5) != t177) = true then (none) else ((laws_mHas.f k5 t153 x46_5).bind fun t180 => (if t180 = true then (none) else (laws_FnSetsWinOfAll.j5 k5 t141 true t145 t153 (l2_1.length : Int) x46_5 false a2_0 l2_1)))) = some r := by rw [if_pos rfl] at H; exact H
                 clear H
                 have H := H1
                 clear H1
                 replace H := ite_no H
                 obtain ⟨c178, H⟩ := H
                 have c178b0 : ((t141 == x46_5) != t177) = false := by simpa using c178
                 (try (have c178b1 : decide ((t141 == x46_5) = t177) = true := by simpa using c178))
                 (try (have c178b2 : ((t141 == x46_5) == t177) = true := by simpa using c178))
                 clear c178
                 replace H := oB H
                 obtain ⟨t180, A1790, H⟩ := H
                 (try dsimp only at H)
                 have A179 := Aside0.mk A1790
                 clear A1790
                 replace H := ite_no H
                 obtain ⟨c180, H⟩ := H
                 replace c180 := Bool.eq_false_iff.mpr c180
                 subst c180
                 as_aux_lemma =>
                  have H' := Aside0.mk H
                  clear H
                  obtain ⟨Ao181, co181, eo181⟩ := Kd.R_slice HO_37.out
                  subst eo181
                  go_wp2_with (first | (go_at_call 37; (with_reducible refine (laws_mHas.calls k5 _ _ t145 x46_5 true _ ?side1 ?side2 A173.out).mono ?_); (case side1 => repeat (first | exact (Kd.R_reads' HO_37.out).2.2 | (with_reducible refine Kd.C_alloc ?_ _) | (with_reducible refine Kd.C_drewN ?_ _) | (with_reducible refine Kd.C_drew ?_))); (case side2 => exact (Kd.R_reads' HO_37.out).2.1); rintro e w' ⟨rfl, ⟨nd, rfl⟩⟩; obtain ⟨Ao182, co182, eo182⟩ := Kd.R_slice HO_41.out; subst eo182) | (go_at_call 37; (with_reducible refine (laws_mHas.calls k5 _ _ t153 x46_5 false _ ?side1 ?side2 A179.out).mono ?_); (case side1 =>  repeat (first | exact (Kd.R_reads' HO_41.out).2.2 | (with_reducible refine Kd.C_alloc ?_ _) | (with_reducible refine Kd.C_drewN ?_ _) | (with_reducible refine Kd.C_drew ?_))); (case side2 => exact (Kd.R_reads' HO_41.out).2.1); rintro e w' ⟨rfl, ⟨nd, rfl⟩⟩))
                  refine meetT_ hJ_j5 (by kernel_rfl) ?rel
                  case rel => exact ⟨_, (false), (by first | rfl | (simp; done) | (simp [*]; done)), H', ⟨by have := HJ14.out; have := HJ63.out; have := HJ103.out; have := HJ137.out; have := HK5.out; first | omega | exact Nat.le_refl _⟩, ⟨by (with_reducible repeat (first | apply qA | apply qN | apply qD)); exact Kd.R_mono HO_37.out (fun _ hk => hk.1.1)⟩, ⟨by (with_reducible repeat (first | apply qA | apply qN | apply qD)); exact Kd.R_mono HO_41.out (fun _ hk => hk.1.1)⟩, ⟨by (with_reducible repeat (first | refine kN ?_ _ | refine kD ?_ | refine kA ?_ _)); exact BK101.out⟩, ⟨by (with_reducible repeat (first | refine kN ?_ _ | refine kD ?_ | refine kA ?_ _)); exact BK102.out⟩, ⟨by repeat (first | (with_reducible first | exact HB.out | apply ba | apply bd | apply be | refine bs ?_ GE101.out | refine bs ?_ GE102.out) | exact HB.out)⟩⟩
                ·replace c177 := Bool.eq_false_iff.mpr c177
                 subst c177
                 have H1 : (if ((t141 == x46_5) != false) = true then (none) else ((laws_mHas.f k5 t153 x46_5).bind fun t181 => (if t181 = true then (laws_FnSetsWinOfAll.j5 k5 t141 true t145 t153 (l2_1.length : Int) x46_5 t177 a2_0 l2_1) else (laws_FnSetsWinOfAll.j5 k5 t141 true t145 t153 (l2_1.length : Int) x46_5 false a2_0 l2_1)))) = some r := by rw [if_neg (show ¬ (false = true) by decide)] at H; exact H
                 clear H
                 have H := H1
                 clear H1
                 replace H := ite_no H
                 obtain ⟨c183, H⟩ := H
                 have c183b0 : ((t141 == x46_5) != false) = false := by simpa using c183
                 (try (have c183b1 : decide ((t141 == x46_5) = false) = true := by simpa using c183))
                 (try (have c183b2 : ((t141 == x46_5) == false) = true := by simpa using c183))
                 clear c183
                 replace H := oB H
                 obtain ⟨t181, A1840, H⟩ := H
                 (try dsimp only at H)
                 have A184 := Aside0.mk A1840
                 clear A1840
                 by_cases c185 : t181 = true
                 ·subst c185
                  have H1 : (laws_FnSetsWinOfAll.j5 k5 t141 true t145 t153 (l2_1.length : Int) x46_5 t177 a2_0 l2_1) = some r := by rw [if_pos rfl] at H; exact H
                  clear H
                  have H := H1
                  clear H1
                  as_aux_lemma =>
                   have H' := Aside0.mk H
                   clear H
                   obtain ⟨Ao186, co186, eo186⟩ := Kd.R_slice HO_37.out
                   subst eo186
                   go_wp2_with (first | (go_at_call 37; (with_reducible refine (laws_mHas.calls k5 _ _ t145 x46_5 false _ ?side1 ?side2 A173.out).mono ?_); (case side1 =>  repeat (first | exact (Kd.R_reads' HO_37.out).2.2 | (with_reducible refine Kd.C_alloc ?_ _) | (with_reducible refine Kd.C_drewN ?_ _) | (with_reducible refine Kd.C_drew ?_))); (case side2 => exact (Kd.R_reads' HO_37.out).2.1); rintro e w' ⟨rfl, ⟨nd, rfl⟩⟩; obtain ⟨Ao187, co187, eo187⟩ := Kd.R_slice HO_41.out; subst eo187) | (go_at_call 37; (with_reducible refine (laws_mHas.calls k5 _ _ t153 x46_5 true _ ?side1 ?side2 A184.out).mono ?_); (case side1 =>  repeat (first | exact (Kd.R_reads' HO_41.out).2.2 | (with_reducible refine Kd.C_alloc ?_ _) | (with_reducible refine Kd.C_drewN ?_ _) | (with_reducible refine Kd.C_drew ?_))); (case side2 => exact (Kd.R_reads' HO_41.out).2.1); rintro e w' ⟨rfl, ⟨nd, rfl⟩⟩))
                   refine meetT_ hJ_j5 (by kernel_rfl) ?rel
                   case rel => exact ⟨_, (t177), (by first | rfl | (simp; done) | (simp [*]; done)), H', ⟨by have := HJ14.out; have := HJ63.out; have := HJ103.out; have := HJ137.out; have := HK5.out; first | omega | exact Nat.le_refl _⟩, ⟨by (with_reducible repeat (first | apply qA | apply qN | apply qD)); exact Kd.R_mono HO_37.out (fun _ hk => hk.1.1)⟩, ⟨by (with_reducible repeat (first | apply qA | apply qN | apply qD)); exact Kd.R_mono HO_41.out (fun _ hk => hk.1.1)⟩, ⟨by (with_reducible repeat (first | refine kN ?_ _ | refine kD ?_ | refine kA ?_ _)); exact BK101.out⟩, ⟨by (with_reducible repeat (first | refine kN ?_ _ | refine kD ?_ | refine kA ?_ _)); exact BK102.out⟩, ⟨by repeat (first | (with_reducible first | exact HB.out | apply ba | apply bd | apply be | refine bs ?_ GE101.out | refine bs ?_ GE102.out) | exact HB.out)⟩⟩
                 ·replace c185 := Bool.eq_false_iff.mpr c185
                  subst c185
                  have H1 : (laws_FnSetsWinOfAll.j5 k5 t141 true t145 t153 (l2_1.length : Int) x46_5 false a2_0 l2_1) = some r := by rw [if_neg (show ¬ (false = true) by decide)] at H; exact H
                  clear H
                  have H := H1
                  clear H1
                  as_aux_lemma =>
                   have H' := Aside0.mk H
                   clear H
                   obtain ⟨Ao188, co188, eo188⟩ := Kd.R_slice HO_37.out
                   subst eo188
                   go_wp2_with (first | (go_at_call 37; (with_reducible refine (laws_mHas.calls k5 _ _ t145 x46_5 false _ ?side1 ?side2 A173.out).mono ?_); (case side1 =>  repeat (first | exact (Kd.R_reads' HO_37.out).2.2 | (with_reducible refine Kd.C_alloc ?_ _) | (with_reducible refine Kd.C_drewN ?_ _) | (with_reducible refine Kd.C_drew ?_))); (case side2 => exact (Kd.R_reads' HO_37.out).2.1); rintro e w' ⟨rfl, ⟨nd, rfl⟩⟩; obtain ⟨Ao189, co189, eo189⟩ := Kd.R_slice HO_41.out; subst eo189) | (go_at_call 37; (with_reducible refine (laws_mHas.calls k5 _ _ t153 x46_5 false _ ?side1 ?side2 A184.out).mono ?_); (case side1 =>  repeat (first | exact (Kd.R_reads' HO_41.out).2.2 | (with_reducible refine Kd.C_alloc ?_ _) | (with_reducible refine Kd.C_drewN ?_ _) | (with_reducible refine Kd.C_drew ?_))); (case side2 => exact (Kd.R_reads' HO_41.out).2.1); rintro e w' ⟨rfl, ⟨nd, rfl⟩⟩))
                   refine meetT_ hJ_j5 (by kernel_rfl) ?rel
                   case rel => exact ⟨_, (false), (by first | rfl | (simp; done) | (simp [*]; done)), H', ⟨by have := HJ14.out; have := HJ63.out; have := HJ103.out; have := HJ137.out; have := HK5.out; first | omega | exact Nat.le_refl _⟩, ⟨by (with_reducible repeat (first | apply qA | apply qN | apply qD)); exact Kd.R_mono HO_37.out (fun _ hk => hk.1.1)⟩, ⟨by (with_reducible repeat (first | apply qA | apply qN | apply qD)); exact Kd.R_mono HO_41.out (fun _ hk => hk.1.1)⟩, ⟨by (with_reducible repeat (first | refine kN ?_ _ | refine kD ?_ | refine kA ?_ _)); exact BK101.out⟩, ⟨by (with_reducible repeat (first | refine kN ?_ _ | refine kD ?_ | refine kA ?_ _)); exact BK102.out⟩, ⟨by repeat (first | (with_reducible first | exact HB.out | apply ba | apply bd | apply be | refine bs ?_ GE101.out | refine bs ?_ GE102.out) | exact HB.out)⟩⟩
               ·replace c176 := Bool.eq_false_iff.mpr c176
                subst c176
                have H1 : (if t179 = true then (if (false != t177) = true then (none) else ((laws_mHas.f k5 t153 x46_5).bind fun t182 => (if t182 = true then (none) else (laws_FnSetsWinOfAll.j5 k5 t141 false t145 t153 (l2_1.length : Int) x46_5 false a2_0 l2_1)))) else ((laws_mHas.f k5 t153 x46_5).bind fun t183 => (if t183 = true then (laws_FnSetsWinOfAll.j5 k5 t141 false t145 t153 (l2_1.length : Int) x46_5 t177 a2_0 l2_1) else (laws_FnSetsWinOfAll.j5 k5 t141 false t145 t153 (l2_1.length : Int) x46_5 false a2_0 l2_1)))) = some r := by rw [if_neg (show ¬ (false = true) by decide)] at H; exact H
                clear H
                have H := H1
                clear H1
                by_cases c190 : t179 = true
                ·subst c190
                 have H1 : (if (false != t177) = true then (none) else ((laws_mHas.f k5 t153 x46_5).bind fun t182 => (if t182 = true then (none) else (laws_FnSetsWinOfAll.j5 k5 t141 false t145 t153 (l2_1.length : Int) x46_5 false a2_0 l2_1)))) = some r := by rw [if_pos rfl] at H; exact H
                 clear H
                 have H := H1
                 clear H1
                 replace H := ite_no H
                 obtain ⟨c191, H⟩ := H
                 have c191b0 : (false != t177) = false := by simpa using c191
                 (try (have c191b1 : decide (false = t177) = true := by simpa using c191))
                 (try (have c191b2 : (false == t177) = true := by simpa using c191))
                 clear c191
                 replace H := oB H
                 obtain ⟨t182, A1920, H⟩ := H
                 (try dsimp only at H)
                 have A192 := Aside0.mk A1920
                 clear A1920
                 replace H := ite_no H
                 obtain ⟨c193, H⟩ := H
                 replace c193 := Bool.eq_false_iff.mpr c193
                 subst c193
                 as_aux_lemma =>
                  have H' := Aside0.mk H
                  clear H
                  obtain ⟨Ao194, co194, eo194⟩ := Kd.R_slice HO_37.out
                  subst eo194
                  go_wp2_with (first | (go_at_call 37; (with_reducible refine (laws_mHas.calls k5 _ _ t145 x46_5 true _ ?side1 ?side2 A173.out).mono ?_); (case side1 =>  repeat (first | exact (Kd.R_reads' HO_37.out).2.2 | (with_reducible refine Kd.C_alloc ?_ _) | (with_reducible refine Kd.C_drewN ?_ _) | (with_reducible refine Kd.C_drew ?_))); (case side2 => exact (Kd.R_reads' HO_37.out).2.1); rintro e w' ⟨rfl, ⟨nd, rfl⟩⟩; obtain ⟨Ao195, co195, eo195⟩ := Kd.R_slice HO_41.out; subst eo195) | (go_at_call 37; (with_reducible refine (laws_mHas.calls k5 _ _ t153 x46_5 false _ ?side1 ?side2 A192.out).mono ?_); (case side1 =>  repeat (first | exact (Kd.R_reads' HO_41.out).2.2 | (with_reducible refine Kd.C_alloc ?_ _) | (with_reducible refine Kd.C_drewN ?_ _) | (with_reducible refine Kd.C_drew ?_))); (case side2 => exact (Kd.R_reads' HO_41.out).2.1); rintro e w' ⟨rfl, ⟨nd, rfl⟩⟩))
                  refine meetT_ hJ_j5 (by kernel_rfl) ?rel
                  case rel => exact ⟨_, (false), (by first | rfl | (simp; done) | (simp [*]; done)), H', ⟨by have := HJ14.out; have := HJ63.out; have := HJ103.out; have := HJ137.out; have := HK5.out; first | omega | exact Nat.le_refl _⟩, ⟨by (with_reducible repeat (first | apply qA | apply qN | apply qD)); exact Kd.R_mono HO_37.out (fun _ hk => hk.1.1)⟩, ⟨by (with_reducible repeat (first | apply qA | apply qN | apply qD)); exact Kd.R_mono HO_41.out (fun _ hk => hk.1.1)⟩, ⟨by (with_reducible repeat (first | refine kN ?_ _ | refine kD ?_ | refine kA ?_ _)); exact BK101.out⟩, ⟨by (with_reducible repeat (first | refine kN ?_ _ | refine kD ?_ | refine kA ?_ _)); exact BK102.out⟩, ⟨by repeat (first | (with_reducible first | exact HB.out | apply ba | apply bd | apply be | refine bs ?_ GE101.out | refine bs ?_ GE102.out) | exact HB.out)⟩⟩
                ·replace c190 := Bool.eq_false_iff.mpr c190
                 subst c190
                 have H1 : ((laws_mHas.f k5 t153 x46_5).bind fun t183 => (if t183 = true then (laws_FnSetsWinOfAll.j5 k5 t141 false t145 t153 (l2_1.length : Int) x46_5 t177 a2_0 l2_1) else (laws_FnSetsWinOfAll.j5 k5 t141 false t145 t153 (l2_1.length : Int) x46_5 false a2_0 l2_1))) = some r := by rw [if_neg (show ¬ (false = true) by decide)] at H; exact H
                 clear H
                 have H := H1
                 clear H1
                 replace H := oB H
                 obtain ⟨t183, A1960, H⟩ := H
                 (try dsimp only at H)
                 have A196 := Aside0.mk A1960
                 clear A1960
                 by_cases c197 : t183 = true
                 ·subst c197
                  have H1 : (laws_FnSetsWinOfAll.j5 k5 t141 false t145 t153 (l2_1.length : Int) x46_5 t177 a2_0 l2_1) = some r := by rw [if_pos rfl] at H; exact H
                  clear H
                  have H := H1
                  clear H1
                  as_aux_lemma =>
                   have H' := Aside0.mk H
                   clear H
                   obtain ⟨Ao198, co198, eo198⟩ := Kd.R_slice HO_37.out
                   subst eo198
                   go_wp2_with (first | (go_at_call 37; (with_reducible refine (laws_mHas.calls k5 _ _ t145 x46_5 false _ ?side1 ?side2 A173.out).mono ?_); (case side1 =>  repeat (first | exact (Kd.R_reads' HO_37.out).2.2 | (with_reducible refine Kd.C_alloc ?_ _) | (with_reducible refine Kd.C_drewN ?_ _) | (with_reducible refine Kd.C_drew ?_))); (case side2 => exact (Kd.R_reads' HO_37.out).2.1); rintro e w' ⟨rfl, ⟨nd, rfl⟩⟩; obtain ⟨Ao199, co199, eo199⟩ := Kd.R_slice HO_41.out; subst eo199) | (go_at_call 37; (with_reducible refine (laws_mHas.calls k5 _ _ t153 x46_5 true _ ?side1 ?side2 A196.out).mono ?_); (case side1 =>  repeat (first | exact (Kd.R_reads' HO_41.out).2.2 | (with_reducible refine Kd.C_alloc ?_ _) | (with_reducible refine Kd.C_drewN ?_ _) | (with_reducible refine Kd.C_drew ?_))); (case side2 => exact (Kd.R_reads' HO_41.out).2.1); rintro e w' ⟨rfl, ⟨nd, rfl⟩⟩))
                   refine meetT_ hJ_j5 (by kernel_rfl) ?rel
                   case rel => exact ⟨_, (t177), (by first | rfl | (simp; done) | (simp [*]; done)), H', ⟨by have := HJ14.out; have := HJ63.out; have := HJ103.out; have := HJ137.out; have := HK5.out; first | omega | exact Nat.le_refl _⟩, ⟨by (with_reducible repeat (first | apply qA | apply qN | apply qD)); exact Kd.R_mono HO_37.out (fun _ hk => hk.1.1)⟩, ⟨by (with_reducible repeat (first | apply qA | apply qN | apply qD)); exact Kd.R_mono HO_41.out (fun _ hk => hk.1.1)⟩, ⟨by (with_reducible repeat (first | refine kN ?_ _ | refine kD ?_ | refine kA ?_ _)); exact BK101.out⟩, ⟨by (with_reducible repeat (first | refine kN ?_ _ | refine kD ?_ | refine kA ?_ _)); exact BK102.out⟩, ⟨by repeat (first | (with_reducible first | exact HB.out | apply ba | apply bd | apply be | refine bs ?_ GE101.out | refine bs ?_ GE102.out) | exact HB.out)⟩⟩
                 ·replace c197 := Bool.eq_false_iff.mpr c197
                  subst c197
                  have H1 : (laws_FnSetsWinOfAll.j5 k5 t141 false t145 t153 (l2_1.length : Int) x46_5 false a2_0 l2_1) = some r := by rw [if_neg (show ¬ (false = true) by decide)] at H; exact H
                  clear H
                  have H := H1
                  clear H1
                  as_aux_lemma =>
                   have H' := Aside0.mk H
                   clear H
                   obtain ⟨Ao200, co200, eo200⟩ := Kd.R_slice HO_37.out
                   subst eo200
                   go_wp2_with (first | (go_at_call 37; (with_reducible refine (laws_mHas.calls k5 _ _ t145 x46_5 false _ ?side1 ?side2 A173.out).mono ?_); (case side1 =>  repeat (first | exact (Kd.R_reads' HO_37.out).2.2 | (with_reducible refine Kd.C_alloc ?_ _) | (with_reducible refine Kd.C_drewN ?_ _) | (with_reducible refine Kd.C_drew ?_))); (case side2 => exact (Kd.R_reads' HO_37.out).2.1); rintro e w' ⟨rfl, ⟨nd, rfl⟩⟩; obtain ⟨Ao201, co201, eo201⟩ := Kd.R_slice HO_41.out; subst eo201) | (go_at_call 37; (with_reducible refine (laws_mHas.calls k5 _ _ t153 x46_5 false _ ?side1 ?side2 A196.out).mono ?_); (case side1 =>  repeat (first | exact (Kd.R_reads' HO_41.out).2.2 | (with_reducible refine Kd.C_alloc ?_ _) | (with_reducible refine Kd.C_drewN ?_ _) | (with_reducible refine Kd.C_drew ?_))); (case side2 => exact (Kd.R_reads' HO_41.out).2.1); rintro e w' ⟨rfl, ⟨nd, rfl⟩⟩))
                   refine meetT_ hJ_j5 (by kernel_rfl) ?rel
                   case rel => exact ⟨_, (false), (by first | rfl | (simp; done) | (simp [*]; done)), H', ⟨by have := HJ14.out; have := HJ63.out; have := HJ103.out; have := HJ137.out; have := HK5.out; first | omega | exact Nat.le_refl _⟩, ⟨by (with_reducible repeat (first | apply qA | apply qN | apply qD)); exact Kd.R_mono HO_37.out (fun _ hk => hk.1.1)⟩, ⟨by (with_reducible repeat (first | apply qA | apply qN | apply qD)); exact Kd.R_mono HO_41.out (fun _ hk => hk.1.1)⟩, ⟨by (with_reducible repeat (first | refine kN ?_ _ | refine kD ?_ | refine kA ?_ _)); exact BK101.out⟩, ⟨by (with_reducible repeat (first | refine kN ?_ _ | refine kD ?_ | refine kA ?_ _)); exact BK102.out⟩, ⟨by repeat (first | (with_reducible first | exact HB.out | apply ba | apply bd | apply be | refine bs ?_ GE101.out | refine bs ?_ GE102.out) | exact HB.out)⟩⟩
              case rest => as_aux_lemma =>
               intro T_ wc hcut
               simp only [putT, putM, T, F, Nat.reduceAdd]
               (try dsimp only at hcut)
               generalize T_ 407 = u407 at hcut ⊢
               clear HC160
               (try clear c1); (try clear c2); (try clear p2); (try clear c3); (try clear c6); (try clear p6); (try clear c7); (try clear c8); (try clear c9); (try clear c10); (try clear c11); (try clear c12); (try clear c13); (try clear c14); (try clear c15); (try clear c16); (try clear c17); (try clear c18); (try clear c19); (try clear c20); (try clear c24); (try clear c25); (try clear c26); (try clear c27); (try clear c29); (try clear c30); (try clear c31); (try clear c32); (try clear c33); (try clear c34); (try clear c36); (try clear c63); (try clear p64); (try clear c65); (try clear c71); (try clear c71b0); (try clear c71b1); (try clear c71b2); (try clear c72); (try clear c73); (try clear c73b0); (try clear c73b1); (try clear c74); (try clear c75); (try clear c76); (try clear c77); (try clear c78); (try clear c80); (try clear c80b0); (try clear c80b1); (try clear c81); (try clear c92); (try clear c93); (try clear c105); (try clear c118); (try clear c119); (try clear c119b0); (try clear c119b1); (try clear c120); (try clear c122); (try clear c123); (try clear c125); (try clear c126); (try clear c127); (try clear c136); (try clear c137); (try clear c139); (try clear c142); (try clear c144); (try clear c145); (try clear c147); (try clear c148); (try clear c148b0); (try clear c148b1); (try clear c156); (try clear c157); (try clear c157b0); (try clear c161); (try clear c172); (try clear c174); (try clear c175); (try clear c176); (try clear c177); (try clear c178); (try clear c178b0); (try clear c178b1); (try clear c178b2); (try clear c180); (try clear c183); (try clear c183b0); (try clear c183b1); (try clear c183b2); (try clear c185); (try clear c190); (try clear c191); (try clear c191b0); (try clear c191b1); (try clear c191b2); (try clear c193); (try clear c197); (try clear hcz116_0); (try clear hcz116_1); (try clear hcz140_0); (try clear hcz140_1); (try clear hcz167_0); (try clear hcz167_1); (try clear hcz97_0); (try clear hcz97_1); (try clear hfz116_0); (try clear hfz116_1); (try clear hfz140_0); (try clear hfz140_1); (try clear hfz167_0); (try clear hfz167_1); (try clear hfz97_0); (try clear hfz97_1); (try clear p2); (try clear p6); (try clear p64)
               obtain ⟨kq, x407_159, rfl, HA, HJ159, HO_37, HO_41, BK101, BK102, HB⟩ := hcut
               cases kq with
               | zero => exact absurd HA.out (by simp [laws_FnSetsWinOfAll.j5])
               | succ kj159 =>
                have H := HA.out
                clear HA
                simp only [laws_FnSetsWinOfAll.j5] at H
                replace H := ite_no H
                obtain ⟨c202, H⟩ := H
                replace c202 := Bool.eq_false_iff.mpr c202
                subst c202
                as_aux_lemma =>
                 have H' := Aside0.mk H
                 clear H
                 go_wp2
                 refine roundT_ kj159 ?measure hJ_l0 (by kernel_rfl) ?rel
                 case measure => have := HJ14.out; have := HJ63.out; have := HJ103.out; have := HJ137.out; have := HK5.out; have := HJ159.out; omega
                 case rel => exact ⟨(wrap64 (x46_5 + 1)), (by first | rfl | (simp; done) | (simp [*]; done)), H', ⟨by have := HJ14.out; have := HJ63.out; have := HJ103.out; have := HJ137.out; have := HK5.out; have := HJ159.out; omega⟩, ⟨by exact HO_37.out⟩, ⟨by exact HO_41.out⟩, ⟨by exact BK101.out⟩, ⟨by exact BK102.out⟩, ⟨by repeat (first | (with_reducible first | exact HB.out | apply ba | apply bd | apply be | refine bs ?_ GE101.out | refine bs ?_ GE102.out) | exact HB.out)⟩⟩
             ·rw [if_neg c157] at H
              have c157b0 : decide (x46_5 < (l2_1.length : Int)) = false := decide_eq_false c157
              clear c157
              as_aux_lemma =>
               obtain rfl := Option.some.inj H
               go_wp2
               go_ret
               exact ⟨by first | rfl | (simp <;> rfl) | (simp [*] <;> rfl), by repeat (first | (with_reducible first | exact HB.out | apply ba | apply bd | apply be | refine bs ?_ GE101.out | refine bs ?_ GE102.out) | exact HB.out)⟩
        ·replace c137 := Bool.eq_false_iff.mpr c137
         subst c137
         have H1 : (some true) = some r := by rw [if_neg (show ¬ (false = true) by decide)] at H; exact H
         clear H
         have H := H1
         clear H1
         as_aux_lemma =>
          obtain rfl := Option.some.inj H
          go_wp2
          go_ret
          exact ⟨by first | rfl | (simp <;> rfl) | (simp [*] <;> rfl), by repeat (first | (with_reducible first | exact HB.out | apply ba | apply bd | apply be | refine bs ?_ GE101.out | refine bs ?_ GE102.out) | exact HB.out)⟩
end Go.Proofs.Ytaajmdpkbplgjaa.Q
namespace Go.Proofs.Ytaajmdpkbplgjaa.Q
open Go.RowKit Go.Proofs.YtaajmdpkbplgjaaW.PrintWords Go.Proofs.YtaajmdpkbplgjaaW.PrintLast Go.Proofs.YtaajmdpkbplgjaaW.PrintMore Go.Proofs.YtaajmdpkbplgjaaM
set_option linter.unusedVariables false
set_option linter.unusedSimpArgs false
def bitB (m i : Nat) : Bool := decide (m / 2 ^ i % 2 = 1)
def setN (m : Nat) : List Int := ((List.range 62).filter (bitB m)).map fun (i : Nat) => (i : Int)
def setTo (m i : Nat) : List Int := ((List.range i).filter (bitB m)).map fun (i : Nat) => (i : Int)
theorem bitB_high {m i j : Nat} (h : m / 2 ^ i = 0) (hij : i ≤ j) : bitB m j = false := by
  unfold bitB
  have : m < 2 ^ i := by
    rcases Nat.lt_or_ge m (2 ^ i) with h1 | h1
    · exact h1
    · have := Nat.div_pos h1 (Nat.two_pow_pos i)
      omega
  have h2 : 2 ^ i ≤ 2 ^ j := Nat.pow_le_pow_right (by omega) hij
  rw [Nat.div_eq_of_lt (by omega)]
  rfl
theorem setTo_done {m i : Nat} (h : m / 2 ^ i = 0) (hi : i ≤ 62) : setTo m i = setN m := by
  unfold setTo setN
  rw [show List.range 62 = List.range i ++ (List.range (62 - i)).map (i + ·) by rw [← List.range_add]; congr 1; omega, List.filter_append]
  have : ((List.range (62 - i)).map (i + ·)).filter (bitB m) = [] := by
    rw [List.filter_eq_nil_iff]
    intro j hj
    obtain ⟨a, _, rfl⟩ := List.mem_map.1 hj
    rw [bitB_high h (by omega)]
    decide
  rw [this, List.append_nil]
theorem setTo_succ (m i : Nat) : setTo m (i + 1) = if bitB m i = true then setTo m i ++ [(i : Int)] else setTo m i := by
  unfold setTo
  rw [List.range_succ, List.filter_append, List.map_append]
  by_cases h : bitB m i = true
  · rw [if_pos h]
    simp [h]
  · rw [if_neg h]
    simp [h]
theorem setTo_len (m i : Nat) : (setTo m i).length ≤ i := by
  unfold setTo
  rw [List.length_map]
  have := List.length_filter_le (bitB m) (List.range i)
  rw [List.length_range] at this
  exact this
theorem setN_to {m n : Nat} (h : m < 2 ^ n) (hn : n ≤ 62) : setN m = setTo m n := (setTo_done (Nat.div_eq_of_lt h) hn).symm
theorem setTo_in {m n : Nat} : ∀ x ∈ setTo m n, 0 ≤ x ∧ x < (n : Int) ∧ bitB m x.toNat = true := by
  intro x hx
  obtain ⟨i, hi, rfl⟩ := List.mem_map.1 hx
  rw [List.mem_filter, List.mem_range] at hi
  exact ⟨by omega, by omega, by rw [Int.toNat_natCast]; exact hi.2⟩
theorem setTo_all (m n : Nat) (q : Nat → Bool) : ((setTo m n).all fun x => q x.toNat) = (List.range n).all fun i => !(bitB m i) || q i := by
  unfold setTo
  rw [List.all_map, List.all_filter]
  rfl
def leastB (W : List Bool) (n m : Nat) : Bool := W.getD m false && (List.range n).all fun i => !(bitB m i) || !(W.getD (m - 2 ^ i) false)
def takeL (P : Nat → Bool) (i : Nat) : List (List Int) := ((List.range i).filter P).map setN
theorem takeL_succ (P : Nat → Bool) (i : Nat) : takeL P (i + 1) = if P i = true then takeL P i ++ [setN i] else takeL P i := by
  unfold takeL
  rw [List.range_succ, List.filter_append, List.map_append]
  by_cases h : P i = true
  · rw [if_pos h]
    simp [h]
  · rw [if_neg h]
    simp [h]
theorem takeL_len (P : Nat → Bool) (i : Nat) : (takeL P i).length ≤ i := by
  unfold takeL
  rw [List.length_map]
  have := List.length_filter_le P (List.range i)
  rw [List.length_range] at this
  exact this
theorem takeL_mem {P : Nat → Bool} {i : Nat} : ∀ x ∈ takeL P i, ∃ m, m < i ∧ P m = true ∧ x = setN m := by
  intro x hx
  obtain ⟨m, hm, rfl⟩ := List.mem_map.1 hx
  rw [List.mem_filter, List.mem_range] at hm
  exact ⟨m, hm.1, hm.2, rfl⟩
theorem andNot_pow (m i : Nat) (hm : m < 2 ^ 62) (hi : i ≤ 61) (h : bitB m i = true) : Go.bits .andNot .i64 (m : Int) ((2 ^ i : Nat) : Int) = ((m - 2 ^ i : Nat) : Int) := by
  have hp : 2 ^ i ≤ 2 ^ 61 := Nat.pow_le_pow_right (by omega) hi
  have hb : m / 2 ^ i % 2 = 1 := by simpa [bitB] using h
  have hmi : m - 2 ^ i < 2 ^ 62 := Nat.lt_of_le_of_lt (Nat.sub_le _ _) hm
  have key : m &&& (2 ^ 64 - 1 - 2 ^ i) = m - 2 ^ i := by
    have hge : 2 ^ i ≤ m := by
      rcases Nat.lt_or_ge m (2 ^ i) with h1 | h1
      · rw [Nat.div_eq_of_lt h1] at hb; omega
      · exact h1
    have h0 : (m - 2 ^ i) / 2 ^ i % 2 = 0 := by
      have e : m = (m - 2 ^ i) + 2 ^ i := by omega
      have e2 : m / 2 ^ i = (m - 2 ^ i) / 2 ^ i + 1 := by
        conv => lhs; rw [e]
        exact Nat.add_div_right _ (Nat.two_pow_pos i)
      omega
    have hor := or_pow i (m - 2 ^ i) h0
    rw [Nat.sub_add_cancel hge] at hor
    apply Nat.eq_of_testBit_eq
    intro j
    rw [Nat.testBit_and, show 2 ^ 64 - 1 - 2 ^ i = 2 ^ 64 - (2 ^ i + 1) by omega, Nat.testBit_two_pow_sub_succ (by omega : 2 ^ i < 2 ^ 64)]
    have hmj : m.testBit j = ((m - 2 ^ i).testBit j || (2 ^ i).testBit j) := by rw [← Nat.testBit_or, hor]
    by_cases e : j = i
    · subst e
      have : (m - 2 ^ j).testBit j = false := by
        rw [Nat.testBit_eq_decide_div_mod_eq, h0]
        rfl
      rw [this, Nat.testBit_two_pow_self]
      simp
    · have h2 : (2 ^ i).testBit j = false := Nat.testBit_two_pow_of_ne (fun h => e h.symm)
      rw [hmj, h2]
      by_cases hj : j < 64
      · simp [hj]
      · have : (m - 2 ^ i).testBit j = false := Nat.testBit_lt_two_pow (Nat.lt_of_lt_of_le hmi (Nat.pow_le_pow_right (by omega) (by omega)))
        rw [this]
        simp
  have hbv : ((BitVec.ofInt 64 (m : Int)) &&& ~~~(BitVec.ofInt 64 ((2 ^ i : Nat) : Int))).toNat = m - 2 ^ i := by
    rw [BitVec.toNat_and, BitVec.toNat_not, BitVec.ofInt_natCast, BitVec.ofInt_natCast, BitVec.toNat_ofNat, BitVec.toNat_ofNat, Nat.mod_eq_of_lt (by omega : m < 2 ^ 64), Nat.mod_eq_of_lt (by omega : 2 ^ i < 2 ^ 64)]
    exact key
  show IntKind.i64.wrap (((BitVec.ofInt 64 (m : Int)) &&& ~~~(BitVec.ofInt 64 ((2 ^ i : Nat) : Int))).toNat : Int) = _
  rw [hbv]
  exact (fun (x : Nat) (hx : x < 2 ^ 62) => i64_wrap (x := (x : Int)) (by omega) (by omega)) (m - 2 ^ i) hmi
theorem impl_votesOf.at_l (n N : Nat) (hN : N ≤ 1000000) (P : Int → Option Bool) (p : Nat → Bool) (hP : ∀ m, m < N → P (m : Int) = some (p m)) : ∀ (d m k : Nat) (acc : List Bool), m + d = N → d < k → acc.length = N → acc.take m = ((List.range N).map p).take m → impl_votesOf.l0 k P (N : Int) (m : Int) (n : Int) acc = some ((n : Int), (List.range N).map p) := by
  intro d
  induction d with
  | zero =>
    intro m k acc h hk hlen ht
    obtain ⟨k, rfl⟩ : ∃ j, k = j + 1 := ⟨k - 1, by omega⟩
    simp only [impl_votesOf.l0]
    rw [List.take_of_length_le (by omega), List.take_of_length_le (by simp; omega)] at ht
    rw [if_neg (by omega), ht]
  | succ d ih =>
    intro m k acc h hk hlen ht
    obtain ⟨k, rfl⟩ : ∃ j, k = j + 1 := ⟨k - 1, by omega⟩
    have hm : m < N := by omega
    simp only [impl_votesOf.l0]
    rw [if_pos (by omega), hP m hm, Option.bind_some, if_pos (by omega), if_pos (by omega), w64i (n := N) (by omega) (by omega) (by omega), Int.toNat_natCast]
    refine ih (m + 1) k (acc.set m (p m)) (by omega) (by omega) (by simpa using hlen) ?_
    rw [List.take_succ_eq_append_getElem (by simp; omega), List.take_succ_eq_append_getElem (by simp; omega), List.take_set_of_le (by omega), ht]
    simp
theorem impl_votesOf.ev (n : Nat) (hn : n ≤ 19) (g : Nat → Int → Option Bool) (p : Nat → Bool) (hg : ∀ m : Nat, m < 2 ^ n → Ev (fun k => g k (m : Int)) (p m)) : Ev (fun k => impl_votesOf.f k (n : Int) (g k)) ((n : Int), (List.range (2 ^ n)).map p) := by
  have hp : 2 ^ n ≤ 2 ^ 19 := Nat.pow_le_pow_right (by omega) hn
  have h0 : 0 < 2 ^ n := Nat.two_pow_pos n
  generalize hN : 2 ^ n = N at *
  obtain ⟨K, hK⟩ := ev_all N (fun k m => g k (m : Int)) p hg
  refine ⟨max K (N + 1), fun k hk => ?_⟩
  simp only [impl_votesOf.f]
  rw [if_pos (by omega), shl_one n (by omega), hN, if_pos (by omega), Int.toNat_natCast, if_pos (by omega), Option.bind_some, List.length_replicate]
  exact impl_votesOf.at_l n N (by omega) (g k) p (fun m hm => hK k (by omega) m hm) N 0 k _ (by omega) (by omega) (by simp) (by simp)
theorem impl_has.v (m i : Nat) (hm : m < 2 ^ 62) (hi : i ≤ 62) : impl_has.f (m : Int) (i : Int) = some (decide (m / 2 ^ i % 2 = 1)) := by
  unfold impl_has.f
  have hlt : m / 2 ^ i < 2 ^ 62 := Nat.lt_of_le_of_lt (Nat.div_le_self _ _) hm
  rw [if_pos (by omega), shr_nat m i (by omega), and_one _ hlt]
  congr 1
  by_cases h : m / 2 ^ i % 2 = 1
  · simp [h]
  · have : m / 2 ^ i % 2 = 0 := by omega
    simp [this]
theorem impl_Committee_weight.ev_l (q : Int) (ws : List Int) (m : Nat) (hm : m < 2 ^ 62) (hl : ws.length ≤ 60) (hw : ∀ x ∈ ws, 0 ≤ x ∧ x ≤ 1000000000) : ∀ (d i : Nat) (s : Int), i + d = ws.length → 0 ≤ s → s + wsum (ws.drop i) (m / 2 ^ i) ≤ 1000000000000 → Ev (fun k => impl_Committee_weight.l0 k (m : Int) s ws (ws.length : Int) (i : Int)) (s + wsum (ws.drop i) (m / 2 ^ i)) := by
  intro d
  induction d with
  | zero =>
    intro i s h _ _
    refine ev_step ?_
    simp only [impl_Committee_weight.l0]
    rw [ev_neg (by omega), ev_now, List.drop_of_length_le (by omega)]
    simp [wsum]
  | succ d ih =>
    intro i s h h0 h1
    refine ev_step ?_
    simp only [impl_Committee_weight.l0]
    have hi : i < ws.length := by omega
    have hx := hw ws[i] (List.getElem_mem hi)
    have hd : wsum (ws.drop i) (m / 2 ^ i) = (if m / 2 ^ i % 2 = 1 then ws[i] else 0) + wsum (ws.drop (i + 1)) (m / 2 ^ (i + 1)) := by
      rw [wsum_drop ws i _ hi, Nat.div_div_eq_div_mul, ← Nat.pow_succ]
    have hb := wsum_bounds (ws.drop (i + 1)) (fun x hx => (hw x (List.mem_of_mem_drop hx)).1) (m / 2 ^ (i + 1))
    rw [ev_pos (by omega), ev_pos (by omega), ev_pos (by omega), ev_bind (ev_of (impl_has.v m i hm (by omega))), w64i (n := ws.length) (by omega) (by omega) (by omega), rd_lt ws i hi, hd]
    rw [hd] at h1
    by_cases hbit : m / 2 ^ i % 2 = 1
    · rw [if_pos hbit] at h1 ⊢
      rw [ev_pos (by simpa using hbit), w64 (by omega) (by omega), ← Int.add_assoc]
      exact ih (i + 1) (s + ws[i]) (by omega) (by omega) (by omega)
    · rw [if_neg hbit] at h1 ⊢
      rw [ev_neg (by simpa using hbit), Int.zero_add]
      exact ih (i + 1) s (by omega) h0 (by omega)
theorem impl_Committee_weight.ev (q : Int) (ws : List Int) (m : Nat) (hm : m < 2 ^ 62) (hl : ws.length ≤ 60) (hw : ∀ x ∈ ws, 0 ≤ x ∧ x ≤ 1000000000) : Ev (fun k => impl_Committee_weight.f k q ws (m : Int)) (wsum ws m) := by
  have hb := wsum_bounds ws (fun x hx => (hw x hx).1) m
  have hs := sum_bounds ws 1000000000 hw
  have := impl_Committee_weight.ev_l q ws m hm hl hw ws.length 0 0 (by omega) (by omega) (by simp; omega)
  simpa [impl_Committee_weight.f] using this
theorem impl_Committee_votes.ev (q : Int) (ws : List Int) (hl : ws.length ≤ 9) (hw : ∀ x ∈ ws, 0 ≤ x ∧ x ≤ 1000000000) : Ev (fun k => impl_Committee_votes.f k q ws) ((ws.length : Int), winsL q ws) := by
  have hp : 2 ^ ws.length ≤ 2 ^ 9 := Nat.pow_le_pow_right (by omega) hl
  refine impl_votesOf.ev ws.length (by omega) (fun k => impl_Committee_votes_1.f k q ws) (fun m => decide (q ≤ wsum ws m)) (fun m hm => ?_)
  simp only [impl_Committee_votes_1.f]
  rw [ev_bind (impl_Committee_weight.ev q ws m (by omega) (by omega) hw), ev_now]
theorem impl_sumOf.ev_l (l : List Int) (hl : l.length ≤ 9223372036854775807) : ∀ (d i : Nat) (s : Int), i + d = l.length → Ev (fun k => impl_sumOf.l0 k s l (l.length : Int) (i : Int)) (wfold (l.drop i) s) := by
  intro d
  induction d with
  | zero =>
    intro i s h
    refine ev_step ?_
    simp only [impl_sumOf.l0]
    rw [ev_neg (by omega), ev_now, List.drop_of_length_le (by omega)]
    rfl
  | succ d ih =>
    intro i s h
    refine ev_step ?_
    simp only [impl_sumOf.l0]
    have hi : i < l.length := by omega
    rw [ev_pos (by omega), ev_pos (by omega), ev_pos (by omega), w64i (n := l.length) (by omega) (by omega) hl, rd_lt l i hi, wfold_take l i hi]
    exact ih (i + 1) _ (by omega)
theorem impl_sumOf.ev (l : List Int) (hl : l.length ≤ 9223372036854775807) : Ev (fun k => impl_sumOf.f k l) (wfold l 0) := impl_sumOf.ev_l l hl l.length 0 0 (by omega)
theorem impl_within.v (a b c : Int) : impl_within.f a b c = some (decide (b ≤ a) && decide (a ≤ c)) := by
  unfold impl_within.f
  by_cases h : b ≤ a
  · rw [if_pos h]; simp [h]
  · rw [if_neg h]; simp [h]
theorem impl_IsCommittee.ev (q : Int) (l : List Int) (hl : l.length ≤ 9223372036854775807) : Ev (fun k => impl_IsCommittee.f k q l) (goodB q l) := by
  simp only [impl_IsCommittee.f]
  unfold goodB
  by_cases h1 : 1 ≤ l.length
  · rw [ev_pos (by omega)]
    by_cases h2 : l.length ≤ 9
    · rw [ev_pos (by omega), ev_bind (ev_of (show impl_areIn.f l 0 1000 = some _ from rfl))]
      cases hb : (l.all fun x => decide (0 ≤ x) && decide (x ≤ 1000)) with
      | true =>
        rw [ev_pos rfl, ev_bind (impl_sumOf.ev l hl), ev_bind (ev_of (impl_within.v _ _ _)), ev_now, wfold_w l h2 hb]
        simp [h1, h2]
      | false =>
        rw [ev_neg (by simp), ev_now]
        simp
    · rw [ev_neg (by omega), ev_now]
      simp [h2]
  · rw [ev_neg (by omega), ev_now]
    simp [h1]
def incB : List Int → Bool
  | a :: b :: l => decide (a < b) && incB (b :: l)
  | _ => true
theorem incB_short {l : List Int} (h : l.length ≤ 1) : incB l = true := by
  cases l with
  | nil => rfl
  | cons a l =>
    cases l with
    | nil => rfl
    | cons b l => simp at h
theorem incB_at (l : List Int) (i : Nat) (h0 : 0 < i) (h : i < l.length) : incB (l.drop (i - 1)) = (decide (l[i - 1] < l[i]) && incB (l.drop i)) := by
  rw [List.drop_eq_getElem_cons (show i - 1 < l.length by omega), show i - 1 + 1 = i by omega, List.drop_eq_getElem_cons h]
  rfl
theorem incB_tail {a : Int} {l : List Int} (h : incB (a :: l) = true) : incB l = true := by
  cases l with
  | nil => rfl
  | cons b l =>
    simp only [incB, Bool.and_eq_true] at h
    exact h.2
def setB (n : Int) (l : List Int) : Bool := (l.all fun x => decide (0 ≤ x) && decide (x ≤ n - 1)) && incB l
theorem setB_in {n : Int} {l : List Int} (h : setB n l = true) : ∀ x ∈ l, 0 ≤ x ∧ x < n := by
  intro x hx
  simp only [setB, Bool.and_eq_true, List.all_eq_true] at h
  have := h.1 x hx
  simp at this
  omega
def orBits (m : Nat) (l : List Int) : Nat := l.foldl (fun m x => m ||| 2 ^ x.toNat) m
def maskN (l : List Int) : Nat := orBits 0 l
theorem orBits_lt (n : Nat) : ∀ (l : List Int) (m : Nat), m < 2 ^ n → (∀ x ∈ l, 0 ≤ x ∧ x < (n : Int)) → orBits m l < 2 ^ n
  | [], m, h, _ => h
  | a :: l, m, h, hb => by
    have h1 := hb a List.mem_cons_self
    refine orBits_lt n l (m ||| 2 ^ a.toNat) (Nat.or_lt_two_pow h (Nat.pow_lt_pow_right (by omega) (by omega))) (fun x hx => hb x (List.mem_cons_of_mem _ hx))
theorem maskN_lt (n : Nat) (l : List Int) (hb : ∀ x ∈ l, 0 ≤ x ∧ x < (n : Int)) : maskN l < 2 ^ n := orBits_lt n l 0 (Nat.two_pow_pos n) hb
theorem setB_mask {n : Nat} {l : List Int} (h : setB (n : Int) l = true) : maskN l < 2 ^ n := maskN_lt n l (setB_in h)
def mAt (l : List (List Int)) (i : Nat) : Nat := maskN (l.getD i [])
def gOrd (l : List (List Int)) (i : Nat) : Bool := decide (i = 0) || decide (cmpL (l.getD (i - 1) []) (l.getD i []) < 0)
def gInS (l : List (List Int)) (i j : Nat) : Bool := !(decide (mAt l i &&& mAt l j = mAt l i)) && !(decide (mAt l i &&& mAt l j = mAt l j))
def gS (l : List (List Int)) (i : Nat) : Bool := gOrd l i && (List.range' 0 i).all (gInS l i)
structure GoodG (n : Int) (l : List (List Int)) : Prop where
  n1 : 1 ≤ n
  n9 : n ≤ 9
  ne : l.length ≠ 0
  sets : ∀ x ∈ l, x.length ≠ 0 ∧ setB n x = true
  gs : ∀ i, i < l.length → gS l i = true
theorem bitB_test (m i : Nat) : bitB m i = m.testBit i := by rw [bitB, Nat.testBit_eq_decide_div_mod_eq]
theorem orBits_test : ∀ (x : List Int) (m i : Nat), (∀ y ∈ x, 0 ≤ y) → (orBits m x).testBit i = (m.testBit i || x.contains (i : Int))
  | [], m, i, _ => by simp [orBits]
  | y :: x, m, i, h => by
    have hy := h y List.mem_cons_self
    have ih := orBits_test x (m ||| 2 ^ y.toNat) i (fun z hz => h z (List.mem_cons_of_mem _ hz))
    show (orBits (m ||| 2 ^ y.toNat) x).testBit i = _
    rw [ih, Nat.testBit_or, Nat.testBit_two_pow, List.contains_cons, Bool.or_assoc]
    congr 2
    by_cases e : y.toNat = i
    · rw [decide_eq_true e, beq_iff_eq.2 (show (i : Int) = y by omega)]
    · rw [decide_eq_false e, beq_eq_false_iff_ne.2 (show (i : Int) ≠ y by omega)]
theorem maskN_test (x : List Int) (i : Nat) (h : ∀ y ∈ x, 0 ≤ y) : (maskN x).testBit i = x.contains (i : Int) := by
  rw [maskN, orBits_test x 0 i h]
  simp
theorem sub_pow_test (m i j : Nat) (h : m.testBit i = true) : (m - 2 ^ i).testBit j = (m.testBit j && !(decide (j = i))) := by
  have hb : m / 2 ^ i % 2 = 1 := by rw [Nat.testBit_eq_decide_div_mod_eq] at h; simpa using h
  have hge : 2 ^ i ≤ m := by
    rcases Nat.lt_or_ge m (2 ^ i) with h1 | h1
    · rw [Nat.div_eq_of_lt h1] at hb; omega
    · exact h1
  have h0 : (m - 2 ^ i) / 2 ^ i % 2 = 0 := by
    have e : m = (m - 2 ^ i) + 2 ^ i := by omega
    have e2 : m / 2 ^ i = (m - 2 ^ i) / 2 ^ i + 1 := by
      conv => lhs; rw [e]
      exact Nat.add_div_right _ (Nat.two_pow_pos i)
    omega
  have hor := or_pow i (m - 2 ^ i) h0
  rw [Nat.sub_add_cancel hge] at hor
  have hmj : m.testBit j = ((m - 2 ^ i).testBit j || (2 ^ i).testBit j) := by rw [← Nat.testBit_or, hor]
  by_cases e : j = i
  · subst e
    rw [decide_eq_true rfl, Bool.not_true, Bool.and_false, Nat.testBit_eq_decide_div_mod_eq, h0]
    rfl
  · rw [hmj, Nat.testBit_two_pow_of_ne (fun h => e h.symm), decide_eq_false e]
    simp
theorem setN_contains (m i : Nat) (hi : i < 62) : (setN m).contains (i : Int) = m.testBit i := by
  rw [← bitB_test, Bool.eq_iff_iff, List.contains_iff_mem, setN, List.mem_map]
  constructor
  · rintro ⟨j, hj, e⟩
    rw [List.mem_filter] at hj
    rw [← show j = i by omega]
    exact hj.2
  · intro h
    exact ⟨i, List.mem_filter.2 ⟨List.mem_range.2 hi, h⟩, rfl⟩
theorem wsum_one (ws : List Int) (i : Nat) (h : i < ws.length) : wsum ws (2 ^ i) = ws[i] := by
  have := wsum_add ws i 0 h (by simp)
  rw [Nat.zero_add, wsum_zero] at this
  omega
theorem full_bit (n i : Nat) (h : i < n) : bitB (2 ^ n - 1) i = true := by
  rw [bitB_test, Nat.testBit_two_pow_sub_one, decide_eq_true h]
theorem wsum_out (ws : List Int) (m i : Nat) (h : i < ws.length) (hb : bitB m i = true) : wsum ws (m - 2 ^ i) = wsum ws m - ws[i] := by
  rw [bitB_test] at hb
  have h0 := sub_pow_test m i i hb
  have h1 : (m - 2 ^ i) / 2 ^ i % 2 = 0 := by
    rw [Nat.testBit_eq_decide_div_mod_eq] at h0
    simp at h0
    omega
  have hge : 2 ^ i ≤ m := by
    rcases Nat.lt_or_ge m (2 ^ i) with h2 | h2
    · rw [Nat.testBit_lt_two_pow h2] at hb; cases hb
    · exact h2
  have := wsum_add ws i (m - 2 ^ i) h h1
  rw [Nat.sub_add_cancel hge] at this
  omega
theorem getD_lt (ws : List Int) (i : Nat) (h : i < ws.length) : ws.getD i 0 = ws[i] := by rw [List.getD_eq_getElem?_getD, List.getElem?_eq_getElem h, Option.getD_some]
def aloneB (q : Int) (ws : List Int) (i : Nat) : Bool := decide (q ≤ ws.getD i 0)
def vetoB (q : Int) (ws : List Int) (i : Nat) : Bool := decide (ws.sum - ws.getD i 0 < q)
theorem wins_one {q : Int} {ws : List Int} (i : Nat) (h : i < ws.length) (hp : 2 ^ i < 2 ^ ws.length) : (winsL q ws).getD (2 ^ i) false = aloneB q ws i := by
  rw [winsL_getD q ws _ hp, wsum_one ws i h, aloneB, getD_lt ws i h]
theorem wins_out {q : Int} {ws : List Int} (i : Nat) (h : i < ws.length) : (winsL q ws).getD (2 ^ ws.length - 1 - 2 ^ i) false = !(vetoB q ws i) := by
  have hp := Nat.two_pow_pos ws.length
  rw [winsL_getD q ws (2 ^ ws.length - 1 - 2 ^ i) (Nat.lt_of_le_of_lt (Nat.sub_le _ _) (by omega)), wsum_out ws _ i h (full_bit _ _ h), wsum_full, vetoB, getD_lt ws i h, Bool.eq_iff_iff]
  simp
theorem spec_l1In.v (a b c : Int) : spec_l1In.f a b c = some (decide (b ≤ a) && decide (a ≤ c)) := by
  unfold spec_l1In.f
  by_cases h : b ≤ a
  · rw [if_pos h]; simp [h]
  · rw [if_neg h]; simp [h]
theorem spec_voSum.ev_l (l : List Int) (hl : l.length ≤ 9223372036854775807) : ∀ (d i : Nat) (s : Int), i + d = l.length → Ev (fun k => spec_voSum.l0 k s l (l.length : Int) (i : Int)) (wfold (l.drop i) s) := by
  intro d
  induction d with
  | zero =>
    intro i s h
    refine ev_step ?_
    simp only [spec_voSum.l0]
    rw [ev_neg (by omega), ev_now, List.drop_of_length_le (by omega)]
    rfl
  | succ d ih =>
    intro i s h
    refine ev_step ?_
    simp only [spec_voSum.l0]
    have hi : i < l.length := by omega
    rw [ev_pos (by omega), ev_pos (by omega), ev_pos (by omega), w64i (n := l.length) (by omega) (by omega) hl, rd_lt l i hi, wfold_take l i hi]
    exact ih (i + 1) _ (by omega)
theorem spec_voSum.ev (l : List Int) (hl : l.length ≤ 9223372036854775807) : Ev (fun k => spec_voSum.f k l) (wfold l 0) := spec_voSum.ev_l l hl l.length 0 0 (by omega)
theorem spec_l1All.ev_l (l : List Int) (lo hi : Int) (hl : l.length ≤ 9223372036854775807) : ∀ (d i : Nat), i + d = l.length → Ev (fun k => spec_l1All.l0 k lo hi l (l.length : Int) (i : Int)) ((l.drop i).all fun x => decide (lo ≤ x) && decide (x ≤ hi)) := by
  intro d
  induction d with
  | zero =>
    intro i h
    refine ev_step ?_
    simp only [spec_l1All.l0]
    rw [ev_neg (by omega), ev_now, List.drop_of_length_le (by omega)]
    rfl
  | succ d ih =>
    intro i h
    refine ev_step ?_
    simp only [spec_l1All.l0]
    have hi' : i < l.length := by omega
    rw [ev_pos (by omega), ev_pos (by omega), ev_pos (by omega), w64i (n := l.length) (by omega) (by omega) hl, rd_lt l i hi', List.drop_eq_getElem_cons hi', List.all_cons, ev_bind (ev_of (spec_l1In.v _ _ _))]
    cases hb : (decide (lo ≤ l[i]) && decide (l[i] ≤ hi)) with
    | true =>
      rw [ev_pos rfl, Bool.true_and]
      exact ih (i + 1) (by omega)
    | false =>
      rw [ev_neg (by decide), ev_now]
      rfl
theorem spec_l1All.ev (l : List Int) (lo hi : Int) (hl : l.length ≤ 9223372036854775807) : Ev (fun k => spec_l1All.f k l lo hi) (l.all fun x => decide (lo ≤ x) && decide (x ≤ hi)) := spec_l1All.ev_l l lo hi hl l.length 0 (by omega)
theorem spec_voGood.ev (q : Int) (l : List Int) (hl : l.length ≤ 9223372036854775807) : Ev (fun k => spec_voGood.f k q l) (goodB q l) := by
  simp only [spec_voGood.f]
  rw [ev_bind (ev_of (spec_l1In.v _ _ _))]
  unfold goodB
  by_cases h1 : 1 ≤ (l.length : Int) ∧ (l.length : Int) ≤ 9
  · rw [ev_pos (by simp [h1]), ev_bind (spec_l1All.ev l 0 1000 hl)]
    refine ev_step ?_
    simp only [spec_voGood.j0]
    cases hb : (l.all fun x => decide (0 ≤ x) && decide (x ≤ 1000)) with
    | true =>
      rw [ev_neg (by simp), ev_bind (spec_voSum.ev l hl), ev_bind (ev_of (spec_l1In.v _ _ _)), ev_now, wfold_w l (by omega) hb]
      have e1 : 1 ≤ l.length := by omega
      have e2 : l.length ≤ 9 := by omega
      simp [e1, e2]
    | false =>
      rw [ev_pos (by simp), ev_now]
      simp
  · rw [ev_neg (by simpa using h1)]
    refine ev_step ?_
    simp only [spec_voGood.j0]
    rw [ev_pos (by simp), ev_now]
    have : ¬ (1 ≤ l.length ∧ l.length ≤ 9) := by omega
    by_cases e1 : 1 ≤ l.length
    · have e2 : ¬ l.length ≤ 9 := by omega
      simp [e2]
    · simp [e1]
def dicB (q : Int) (ws : List Int) (i : Nat) : Bool := aloneB q ws i && vetoB q ws i
def firstI (p : Nat → Bool) : Nat → Nat → Int × Bool
  | 0, _ => (0, false)
  | d + 1, i => if p i = true then ((i : Int), true) else firstI p d (i + 1)
def dicV (q : Int) (ws : List Int) : Int × Bool := if goodB q ws = true then firstI (dicB q ws) ws.length 0 else (0, false)
theorem impl_DictatorOf.ev_l {q : Int} {ws : List Int} (hc : GoodC q ws) : ∀ (d i : Nat), i + d = ws.length → Ev (fun k => impl_DictatorOf.l0 k (ws.length : Int) (i : Int) (ws.length : Int) (winsL q ws)) (firstI (dicB q ws) d i) := by
  have h9 := hc.l9
  have hp := hc.pow
  have hwl := winsL_length q ws
  have hall : impl_votes_all.f (ws.length : Int) (winsL q ws) = some ((2 ^ ws.length - 1 : Nat) : Int) := by
    simp only [impl_votes_all.f]
    rw [if_pos (by omega), shl_one ws.length (by omega), w64 (by omega) (by omega)]
    congr 1
    omega
  intro d
  induction d with
  | zero =>
    intro i h
    refine ev_step ?_
    simp only [impl_DictatorOf.l0]
    rw [ev_neg (by omega), ev_now]
    rfl
  | succ d ih =>
    intro i h
    refine ev_step ?_
    simp only [impl_DictatorOf.l0]
    have hi : i < ws.length := by omega
    have hpi : 2 ^ i < 2 ^ ws.length := Nat.pow_lt_pow_right (by omega) hi
    have hih := ih (i + 1) (by omega)
    have h1 := wins_one (q := q) i hi hpi
    have h2 := wins_out (q := q) i hi
    have hpi0 := Nat.two_pow_pos i
    rw [show ((i + 1 : Nat) : Int) = (i : Int) + 1 by omega] at hih
    show Ev _ (if dicB q ws i = true then ((i : Int), true) else firstI (dicB q ws) d (i + 1))
    rw [ev_pos (by omega), ev_pos (by omega), shl_one i (by omega), ev_pos (by omega), ev_pos (by omega), rdOf_nat, h1, w64i (n := ws.length) (by omega) (by omega) (by omega), dicB]
    cases ha : aloneB q ws i with
    | false =>
      rw [ev_neg (by decide), Bool.false_and, if_neg (by decide)]
      exact hih
    | true =>
      rw [ev_pos rfl, ev_bind (ev_of hall), andNot_pow _ i (by omega) (by omega) (full_bit _ _ hi), ev_pos (Int.natCast_nonneg _), ev_pos (Int.ofNat_lt.2 (by rw [hwl]; exact Nat.lt_of_le_of_lt (Nat.sub_le _ _) (by omega))), rdOf_nat, h2, Bool.true_and]
      cases hv : vetoB q ws i with
      | true => rw [ev_neg (by decide), ev_now, if_pos rfl]
      | false =>
        rw [ev_pos (by decide), if_neg (by decide)]
        exact hih
theorem impl_DictatorOf.ev (q : Int) (ws : List Int) (hl : ws.length ≤ 9223372036854775807) : Ev (fun k => impl_DictatorOf.f k q ws) (dicV q ws) := by
  simp only [impl_DictatorOf.f]
  rw [ev_bind (impl_IsCommittee.ev q ws hl)]
  unfold dicV
  cases hg : goodB q ws with
  | false => rw [ev_neg (by decide), ev_now, if_neg (by decide)]
  | true =>
    have hc := (good_iff q ws).1 hg
    rw [ev_pos rfl, if_pos rfl, ev_bind (impl_Committee_votes.ev q ws hc.l9 hc.wb)]
    exact impl_DictatorOf.ev_l hc ws.length 0 (by omega)
theorem spec_DictatorOf.ev_l {q : Int} {ws : List Int} (hc : GoodC q ws) : ∀ (d i : Nat), i + d = ws.length → Ev (fun k => spec_DictatorOf.l0 k ws (ws.length : Int) (i : Int) q ws) (firstI (dicB q ws) d i) := by
  have h9 := hc.l9
  have hsum := hc.sum
  have hS := spec_voSum.ev ws (by omega)
  rw [wfold_sum ws 0 (fun x hx => by have := hc.w x hx; omega) (by omega) (by omega), Int.zero_add] at hS
  intro d
  induction d with
  | zero =>
    intro i h
    refine ev_step ?_
    simp only [spec_DictatorOf.l0]
    rw [ev_neg (by omega), ev_now]
    rfl
  | succ d ih =>
    intro i h
    refine ev_step ?_
    simp only [spec_DictatorOf.l0]
    have hi : i < ws.length := by omega
    have hw := hc.w ws[i] (List.getElem_mem hi)
    have hih := ih (i + 1) (by omega)
    rw [show ((i + 1 : Nat) : Int) = (i : Int) + 1 by omega] at hih
    show Ev _ (if dicB q ws i = true then ((i : Int), true) else firstI (dicB q ws) d (i + 1))
    rw [ev_pos (by omega), ev_pos (by omega), ev_pos (by omega), rd_lt ws i hi, w64i (n := ws.length) (by omega) (by omega) (by omega), dicB, aloneB, vetoB, getD_lt ws i hi]
    by_cases c : ws[i] ≥ q
    · rw [ev_pos c, ev_bind hS, w64 (x := ws.sum - ws[i]) (by omega) (by omega), decide_eq_true (show q ≤ ws[i] from c), Bool.true_and]
      by_cases c2 : ws.sum - ws[i] < q
      · rw [ev_pos c2, ev_now, if_pos (decide_eq_true c2)]
      · rw [ev_neg c2, if_neg (by simpa using c2)]
        exact hih
    · rw [ev_neg c, decide_eq_false (show ¬ q ≤ ws[i] from c), Bool.false_and, if_neg (by decide)]
      exact hih
theorem spec_DictatorOf.ev (q : Int) (ws : List Int) (hl : ws.length ≤ 9223372036854775807) : Ev (fun k => spec_DictatorOf.f k q ws) (dicV q ws) := by
  simp only [spec_DictatorOf.f]
  rw [ev_bind (spec_voGood.ev q ws hl)]
  unfold dicV
  cases hg : goodB q ws with
  | false => rw [ev_neg (by decide), ev_now, if_neg (by decide)]
  | true =>
    have hc := (good_iff q ws).1 hg
    rw [ev_pos rfl, if_pos rfl]
    exact spec_DictatorOf.ev_l hc ws.length 0 (by omega)
def dualC (q : Int) (ws : List Int) : Int × List Int × Bool := if goodB q ws = true then (ws.sum - q + 1, ws, true) else (0, [], false)
theorem impl_DualCommittee.ev (q : Int) (ws : List Int) (hl : ws.length ≤ 9223372036854775807) : Ev (fun k => impl_DualCommittee.f k q ws) (dualC q ws) := by
  simp only [impl_DualCommittee.f]
  rw [ev_bind (impl_IsCommittee.ev q ws hl)]
  unfold dualC
  cases hg : goodB q ws with
  | false => rw [ev_neg (by decide), ev_now, if_neg (by decide)]
  | true =>
    have hc := (good_iff q ws).1 hg
    have h9 := hc.l9
    have hsum := hc.sum
    have h1 := hc.q1
    have h2 := hc.qs
    have hS := impl_sumOf.ev ws hl
    rw [wfold_sum ws 0 (fun x hx => by have := hc.w x hx; omega) (by omega) (by omega), Int.zero_add] at hS
    have hcl : slices_Clone_int_int.f ws = some ws := by
      have : ws.length < 17592186044416 := by omega
      simp [slices_Clone_int_int.f, this]
    rw [ev_pos rfl, if_pos rfl, ev_bind hS, ev_bind (ev_of hcl), ev_now, w64 (x := ws.sum - q) (by omega) (by omega), w64 (by omega) (by omega)]
theorem dual_good {q : Int} {ws : List Int} (hc : GoodC q ws) : goodB (ws.sum - q + 1) ws = true := by
  refine (good_iff _ ws).2 ⟨hc.l1, hc.l9, hc.w, ?_, ?_⟩
  · have := hc.qs; omega
  · have := hc.q1; omega
theorem impl_setOf.ev_l (m : Nat) (hm : m < 2 ^ 62) : ∀ (d i : Nat), i + d = 62 → Ev (fun k => impl_setOf.l0 k (m : Int) (setTo m i) (i : Int)) (setN m) := by
  intro d
  induction d with
  | zero =>
    intro i h
    refine ev_step ?_
    simp only [impl_setOf.l0]
    have e : m / 2 ^ i = 0 := by rw [show i = 62 by omega]; exact Nat.div_eq_of_lt hm
    rw [ev_pos (by omega), shr_nat m i (by omega), e, ev_neg (by omega), ev_now, setTo_done e (by omega)]
  | succ d ih =>
    intro i h
    refine ev_step ?_
    simp only [impl_setOf.l0]
    have hlt : m / 2 ^ i < 2 ^ 62 := Nat.lt_of_le_of_lt (Nat.div_le_self _ _) hm
    have hl := setTo_len m i
    rw [ev_pos (by omega), shr_nat m i (by omega), w64 (by omega) (by omega)]
    by_cases e : m / 2 ^ i = 0
    · rw [ev_neg (by omega), ev_now, setTo_done e (by omega)]
    · rw [ev_pos (Int.natCast_pos.2 (Nat.pos_of_ne_zero e)), and_one _ hlt]
      have := ih (i + 1) (by omega)
      rw [setTo_succ] at this
      by_cases hb : m / 2 ^ i % 2 = 1
      · rw [if_pos (by simp [bitB, hb])] at this
        rw [ev_pos (by rw [hb]; rfl), ev_pos (by omega)]
        exact this
      · rw [if_neg (by simp [bitB]; omega)] at this
        rw [ev_neg (c := ((m / 2 ^ i % 2 : Nat) : Int) = 1) (fun h_ => hb (Int.ofNat_inj.1 h_))]
        exact this
theorem impl_setOf.ev (m : Nat) (hm : m < 2 ^ 62) : Ev (fun k => impl_setOf.f k (m : Int)) (setN m) := impl_setOf.ev_l m hm 62 0 (by omega)
theorem impl_votes_isLeast.ev_l (W : List Bool) (n m : Nat) (hW : W.length = 2 ^ n) (hn : n ≤ 18) (hm : m < 2 ^ n) : ∀ (d i : Nat), i + d = n → Ev (fun k => impl_votes_isLeast.l0 k (m : Int) (n : Int) (i : Int) (n : Int) W) ((List.range' i d).all fun i => !(bitB m i) || !(W.getD (m - 2 ^ i) false)) := by
  have hp : 2 ^ n ≤ 2 ^ 18 := Nat.pow_le_pow_right (by omega) hn
  intro d
  induction d with
  | zero =>
    intro i h
    refine ev_step ?_
    simp only [impl_votes_isLeast.l0]
    rw [ev_neg (by omega), ev_now]
    rfl
  | succ d ih =>
    intro i h
    refine ev_step ?_
    simp only [impl_votes_isLeast.l0]
    have hih := ih (i + 1) (by omega)
    rw [ev_pos (by omega), ev_bind (ev_of (show impl_has.f (m : Int) (i : Int) = some (bitB m i) from impl_has.v m i (by omega) (by omega))), w64 (by omega) (by omega), List.range'_succ, List.all_cons]
    by_cases hb : bitB m i = true
    · have hpi : 2 ^ i ≤ 2 ^ n := Nat.pow_le_pow_right (by omega) (by omega)
      have hsub : m - 2 ^ i < W.length := by rw [hW]; exact Nat.lt_of_le_of_lt (Nat.sub_le _ _) hm
      rw [ev_pos hb, ev_pos (by omega), shl_one i (by omega), andNot_pow m i (by omega) (by omega) hb, ev_pos (Int.natCast_nonneg _), ev_pos (Int.ofNat_lt.2 hsub), rdOf_nat, hb]
      cases hw : W.getD (m - 2 ^ i) false with
      | true =>
        rw [ev_pos rfl, ev_now]
        rfl
      | false =>
        rw [ev_neg (by decide)]
        exact hih
    · rw [ev_neg hb, Bool.eq_false_iff.2 hb]
      exact hih
theorem impl_votes_isLeast.ev (W : List Bool) (n m : Nat) (hW : W.length = 2 ^ n) (hn : n ≤ 18) (hm : m < 2 ^ n) : Ev (fun k => impl_votes_isLeast.f k (n : Int) W (m : Int)) (leastB W n m) := by
  simp only [impl_votes_isLeast.f]
  rw [ev_pos (by omega), ev_pos (by omega), rdOf_nat, leastB]
  cases hw : W.getD m false with
  | true =>
    rw [ev_pos rfl, Bool.true_and, List.range_eq_range']
    exact impl_votes_isLeast.ev_l W n m hW hn hm n 0 (by omega)
  | false =>
    rw [ev_neg (by decide), ev_now]
    rfl
theorem impl_votes_sets.at_l (W : List Bool) (hW : W.length ≤ 1000000) (P : Int → Option Bool) (p : Nat → Bool) (K : Nat) (hP : ∀ m, m < W.length → P (m : Int) = some (p m)) (hS : ∀ k, K ≤ k → ∀ m, m < W.length → impl_setOf.f k (m : Int) = some (setN m)) : ∀ (d i k : Nat), i + d = W.length → K + d < k → impl_votes_sets.l0 k P W (takeL p i) (i : Int) = some (takeL p W.length) := by
  intro d
  induction d with
  | zero =>
    intro i k h hk
    obtain ⟨k, rfl⟩ : ∃ j, k = j + 1 := ⟨k - 1, by omega⟩
    simp only [impl_votes_sets.l0]
    rw [if_neg (by omega), show i = W.length by omega]
  | succ d ih =>
    intro i k h hk
    obtain ⟨k, rfl⟩ : ∃ j, k = j + 1 := ⟨k - 1, by omega⟩
    have hi : i < W.length := by omega
    have hl := takeL_len p i
    have hih := ih (i + 1) k (by omega) (by omega)
    rw [takeL_succ] at hih
    simp only [impl_votes_sets.l0]
    rw [if_pos (by omega), hP i hi, Option.bind_some, w64 (by omega) (by omega), hS k (by omega) i hi, Option.bind_some]
    cases hp : p i with
    | true =>
      rw [hp, if_pos rfl] at hih
      rw [if_pos rfl, if_pos (by omega)]
      exact hih
    | false =>
      rw [hp, if_neg (by decide)] at hih
      rw [if_neg (by decide)]
      exact hih
theorem impl_votes_sets.ev (W : List Bool) (hW : W.length ≤ 1000000) (P : Nat → Int → Option Bool) (p : Nat → Bool) (hP : ∀ m, m < W.length → Ev (fun k => P k (m : Int)) (p m)) : Ev (fun k => impl_votes_sets.g k W (P k)) (Go.Proofs.YtaajmdpkbplgjaaS.sortL (takeL p W.length)) := by
  obtain ⟨K1, h1⟩ := ev_all W.length (fun k m => P k (m : Int)) p hP
  obtain ⟨K2, h2⟩ := ev_all W.length (fun k m => impl_setOf.f k (m : Int)) setN (fun m hm => impl_setOf.ev m (by omega))
  refine ⟨max K1 (K2 + W.length + 1), fun k hk => ?_⟩
  have hl := takeL_len p W.length
  simp only [impl_votes_sets.g]
  rw [show impl_votes_sets.l0 k (P k) W [] 0 = some (takeL p W.length) from impl_votes_sets.at_l W hW (P k) p K2 (fun m hm => h1 k (by omega) m hm) h2 W.length 0 k (by omega) (by omega), Option.bind_some, if_pos (by omega)]
theorem impl_votes_least.ev (W : List Bool) (n : Nat) (hW : W.length = 2 ^ n) (hn : n ≤ 18) : Ev (fun k => impl_votes_least.f k (n : Int) W) (Go.Proofs.YtaajmdpkbplgjaaS.sortL (takeL (leastB W n) W.length)) := by
  have hp : 2 ^ n ≤ 2 ^ 18 := Nat.pow_le_pow_right (by omega) hn
  exact impl_votes_sets.ev W (by omega) (fun k x => impl_votes_isLeast.f k (n : Int) W x) (leastB W n) (fun m hm => impl_votes_isLeast.ev W n m hW hn (by omega))
theorem sortL_in {P : Nat → Bool} {n N : Nat} (hN : N ≤ 2 ^ n) (hn : n ≤ 62) : ∀ x ∈ Go.Proofs.YtaajmdpkbplgjaaS.sortL (takeL P N), x.length ≤ n ∧ ∀ y ∈ x, 0 ≤ y ∧ y < (n : Int) := by
  intro x hx
  obtain ⟨a, ha, _, rfl⟩ := takeL_mem x ((Go.Proofs.YtaajmdpkbplgjaaS.sortL_perm _).mem_iff.1 hx)
  rw [setN_to (m := a) (n := n) (by omega) hn]
  exact ⟨setTo_len a n, fun y hy => by have := setTo_in y hy; omega⟩
theorem sortL_len (xs : List (List Int)) : (Go.Proofs.YtaajmdpkbplgjaaS.sortL xs).length = xs.length := (Go.Proofs.YtaajmdpkbplgjaaS.sortL_perm xs).length_eq
def takeI (P : Nat → Bool) (i : Nat) : List Int := ((List.range i).filter P).map fun (i : Nat) => (i : Int)
theorem takeI_succ (P : Nat → Bool) (i : Nat) : takeI P (i + 1) = if P i = true then takeI P i ++ [(i : Int)] else takeI P i := by
  unfold takeI
  rw [List.range_succ, List.filter_append, List.map_append]
  by_cases h : P i = true
  · rw [if_pos h]
    simp [h]
  · rw [if_neg h]
    simp [h]
theorem takeI_len (P : Nat → Bool) (i : Nat) : (takeI P i).length ≤ i := by
  unfold takeI
  rw [List.length_map]
  have := List.length_filter_le P (List.range i)
  rw [List.length_range] at this
  exact this
theorem takeI_congr {P Q : Nat → Bool} {n : Nat} (h : ∀ i, i < n → P i = Q i) : takeI P n = takeI Q n := by
  unfold takeI
  congr 1
  exact List.filter_congr (fun i hi => h i (List.mem_range.1 hi))
theorem impl_members.ev_l (n : Nat) (hn : n ≤ 1000000) (p : Int → Bool) : ∀ (d i : Nat), i + d = n → Ev (fun k => impl_members.l0 k (fun x => some (p x)) (n : Int) (takeI (fun i => p (i : Int)) i) (i : Int)) (takeI (fun i => p (i : Int)) n) := by
  intro d
  induction d with
  | zero =>
    intro i h
    refine ev_step ?_
    simp only [impl_members.l0]
    rw [ev_neg (by omega), ev_now, show i = n by omega]
  | succ d ih =>
    intro i h
    refine ev_step ?_
    simp only [impl_members.l0, Option.bind_some]
    have hl := takeI_len (fun i => p (i : Int)) i
    have hih := ih (i + 1) (by omega)
    rw [takeI_succ] at hih
    rw [ev_pos (by omega), w64 (by omega) (by omega)]
    by_cases hp : p (i : Int) = true
    · rw [if_pos hp] at hih
      rw [ev_pos hp, ev_pos (by omega)]
      exact hih
    · rw [if_neg hp] at hih
      rw [ev_neg hp]
      exact hih
theorem impl_members.ev (n : Nat) (hn : n ≤ 1000000) (p : Int → Bool) : Ev (fun k => impl_members.g k (n : Int) (fun x => some (p x))) (takeI (fun i => p (i : Int)) n) := impl_members.ev_l n hn p n 0 (by omega)
def idleP (L : List (List Int)) (i : Nat) : Bool := !(L.any fun s => s.contains (i : Int))
theorem impl_votes_idle.ev (W : List Bool) (n : Nat) (hW : W.length = 2 ^ n) (hn : n ≤ 18) : Ev (fun k => impl_votes_idle.f k (n : Int) W) (takeI (idleP (Go.Proofs.YtaajmdpkbplgjaaS.sortL (takeL (leastB W n) W.length))) n) := by
  simp only [impl_votes_idle.f]
  rw [ev_pos (by omega), ev_bind (impl_votes_least.ev W n hW hn)]
  exact impl_members.ev n (by omega) _
theorem wsum_mono (ws : List Int) (h : ∀ x ∈ ws, 0 ≤ x) : ∀ m m' : Nat, (∀ i, m.testBit i = true → m'.testBit i = true) → wsum ws m ≤ wsum ws m' := by
  induction ws with
  | nil => intro m m' _; simp [wsum]
  | cons w ws ih =>
    intro m m' hs
    have h1 := ih (fun x hx => h x (List.mem_cons_of_mem _ hx)) (m / 2) (m' / 2) (fun i hi => by
      have := hs (i + 1) (by rw [Nat.testBit_succ]; exact hi)
      rw [Nat.testBit_succ] at this
      exact this)
    have h2 := hs 0
    have h3 := h w List.mem_cons_self
    simp only [Nat.testBit_zero, decide_eq_true_eq] at h2
    simp only [wsum]
    split <;> split <;> omega
theorem wins_mono {q : Int} {ws : List Int} (h : ∀ x ∈ ws, 0 ≤ x) {m m' : Nat} (hm : m < 2 ^ ws.length) (hm' : m' < 2 ^ ws.length) (hs : ∀ i, m.testBit i = true → m'.testBit i = true) (hw : (winsL q ws).getD m false = true) : (winsL q ws).getD m' false = true := by
  rw [winsL_getD _ _ _ hm, decide_eq_true_eq] at hw
  rw [winsL_getD _ _ _ hm', decide_eq_true_eq]
  have := wsum_mono ws h m m' hs
  omega
theorem leastB_bits {W : List Bool} {n m : Nat} (h : leastB W n m = true) : W.getD m false = true ∧ ∀ i, i < n → m.testBit i = true → W.getD (m - 2 ^ i) false = false := by
  simp only [leastB, Bool.and_eq_true, List.all_eq_true, List.mem_range] at h
  refine ⟨h.1, fun i hi hb => ?_⟩
  have := h.2 i hi
  rw [bitB_test, hb] at this
  simpa using this
theorem leastB_of {W : List Bool} {n m : Nat} (h1 : W.getD m false = true) (h2 : ∀ i, i < n → m.testBit i = true → W.getD (m - 2 ^ i) false = false) : leastB W n m = true := by
  simp only [leastB, Bool.and_eq_true, List.all_eq_true, List.mem_range]
  refine ⟨h1, fun i hi => ?_⟩
  rw [bitB_test]
  cases hb : m.testBit i with
  | false => rfl
  | true => rw [h2 i hi hb]; rfl
theorem pow_le_of_bit {m i : Nat} (h : m.testBit i = true) : 2 ^ i ≤ m := by
  rcases Nat.lt_or_ge m (2 ^ i) with h2 | h2
  · rw [Nat.testBit_lt_two_pow h2] at h; cases h
  · exact h2
theorem least_sub (W : List Bool) (n : Nat) : ∀ m, m < 2 ^ n → W.getD m false = true → ∃ m', m' < 2 ^ n ∧ leastB W n m' = true ∧ ∀ i, m'.testBit i = true → m.testBit i = true := by
  intro m
  induction m using Nat.strongRecOn with
  | ind m ih =>
    intro hm hw
    by_cases h : ∀ i, i < n → m.testBit i = true → W.getD (m - 2 ^ i) false = false
    · exact ⟨m, hm, leastB_of hw h, fun _ h => h⟩
    · have h := Classical.not_forall.1 h
      obtain ⟨i, h⟩ := h
      simp only [Classical.not_imp, Bool.not_eq_false] at h
      obtain ⟨hi, hb, hv⟩ := h
      have hp := pow_le_of_bit hb
      have h0 := Nat.two_pow_pos i
      obtain ⟨m', a, b, c⟩ := ih (m - 2 ^ i) (by omega) (by omega) hv
      refine ⟨m', a, b, fun j hj => ?_⟩
      have := c j hj
      rw [sub_pow_test m i j hb] at this
      simp only [Bool.and_eq_true] at this
      exact this.1
theorem takeI_mem {P : Nat → Bool} {n : Nat} {x : Int} : x ∈ takeI P n ↔ ∃ i : Nat, i < n ∧ P i = true ∧ x = (i : Int) := by
  simp only [takeI, List.mem_map, List.mem_filter, List.mem_range]
  constructor
  · rintro ⟨i, ⟨h1, h2⟩, rfl⟩; exact ⟨i, h1, h2, rfl⟩
  · rintro ⟨i, h1, h2, rfl⟩; exact ⟨i, ⟨h1, h2⟩, rfl⟩
theorem takeI_has (P : Nat → Bool) (n i : Nat) (hi : i < n) : (takeI P n).contains (i : Int) = P i := by
  rw [Bool.eq_iff_iff, List.contains_iff_mem, takeI_mem]
  constructor
  · rintro ⟨j, _, h2, h3⟩
    have : i = j := by omega
    rw [this]; exact h2
  · intro h; exact ⟨i, hi, h, rfl⟩
theorem incB_snoc (l : List Int) (a : Int) (h : incB l = true) (hb : ∀ x ∈ l, x < a) : incB (l ++ [a]) = true := by
  induction l with
  | nil => rfl
  | cons b l ih =>
    have h1 := ih (incB_tail h) (fun x hx => hb x (List.mem_cons_of_mem _ hx))
    cases l with
    | nil => simp [incB]; exact hb b List.mem_cons_self
    | cons c l =>
      simp only [incB, Bool.and_eq_true] at h
      simp only [List.cons_append, incB, Bool.and_eq_true]
      exact ⟨h.1, h1⟩
theorem takeI_inc (P : Nat → Bool) : ∀ n, incB (takeI P n) = true := by
  intro n
  induction n with
  | zero => rfl
  | succ n ih =>
    rw [takeI_succ]
    split
    · refine incB_snoc _ _ ih (fun x hx => ?_)
      obtain ⟨i, h1, _, rfl⟩ := takeI_mem.1 hx
      omega
    · exact ih
theorem takeI_set (P : Nat → Bool) (n : Nat) : setB (n : Int) (takeI P n) = true := by
  simp only [setB, Bool.and_eq_true, List.all_eq_true, decide_eq_true_eq]
  refine ⟨fun x hx => ?_, takeI_inc P n⟩
  obtain ⟨i, h1, _, rfl⟩ := takeI_mem.1 hx
  omega
theorem takeI_one (i : Nat) : ∀ n, i < n → takeI (fun j => decide (j = i)) n = [(i : Int)] := by
  have h0 : ∀ n, n ≤ i → takeI (fun j => decide (j = i)) n = [] := by
    intro n hn
    induction n with
    | zero => rfl
    | succ n ih => rw [takeI_succ, if_neg (by simp; omega), ih (by omega)]
  intro n hn
  induction n with
  | zero => omega
  | succ n ih =>
    rw [takeI_succ]
    by_cases e : n = i
    · rw [if_pos (by simpa using e), e, h0 i (Nat.le_refl _)]
      rfl
    · rw [if_neg (by simpa using e), ih (by omega)]
theorem takeI_but (i : Nat) : ∀ n, (takeI (fun j => !(decide (j = i))) n).length = if i < n then n - 1 else n := by
  intro n
  induction n with
  | zero => rfl
  | succ n ih =>
    rw [takeI_succ]
    by_cases e : n = i
    · rw [if_neg (by simp [e]), ih]
      split <;> split <;> omega
    · rw [if_pos (by simp [e]), List.length_append, ih]
      simp only [List.length_cons, List.length_nil]
      split <;> split <;> omega
theorem takeI_few {P : Nat → Bool} {i : Nat} (h : P i = false) : ∀ n, i < n → (takeI P n).length < n := by
  intro n hn
  induction n with
  | zero => omega
  | succ n ih =>
    rw [takeI_succ]
    by_cases e : n = i
    · rw [e, h, if_neg (by decide)]
      have := takeI_len P i
      omega
    · have := ih (by omega)
      split
      · rw [List.length_append]; simp only [List.length_cons, List.length_nil]; omega
      · omega
theorem maskN_takeI (P : Nat → Bool) (n i : Nat) : (maskN (takeI P n)).testBit i = (decide (i < n) && P i) := by
  rw [maskN_test _ _ (fun y hy => by obtain ⟨j, _, _, rfl⟩ := takeI_mem.1 hy; omega)]
  by_cases h : i < n
  · rw [takeI_has P n i h, decide_eq_true h, Bool.true_and]
  · rw [decide_eq_false h, Bool.false_and]
    cases hc : (takeI P n).contains (i : Int) with
    | false => rfl
    | true =>
      obtain ⟨j, h1, _, h3⟩ := takeI_mem.1 (List.contains_iff_mem.1 hc)
      omega
theorem compl_test (n m i : Nat) (hm : m < 2 ^ n) : (2 ^ n - 1 - m).testBit i = (decide (i < n) && !(m.testBit i)) := by
  rw [show 2 ^ n - 1 - m = 2 ^ n - (m + 1) by omega, Nat.testBit_two_pow_sub_succ hm]
theorem maskN_oth (s : List Int) (n : Nat) (hs : setB (n : Int) s = true) : maskN (takeI (fun i => !(s.contains (i : Int))) n) = 2 ^ n - 1 - maskN s := by
  apply Nat.eq_of_testBit_eq
  intro i
  rw [maskN_takeI, compl_test n _ i (setB_mask hs), maskN_test s i (fun y hy => (setB_in hs y hy).1)]
theorem maskN_one (i : Nat) : maskN [(i : Int)] = 2 ^ i := by
  simp [maskN, orBits]
theorem one_set {n i : Nat} (h : i < n) : setB (n : Int) [(i : Int)] = true := by
  simp [setB, incB]
  omega
def dumB (q : Int) (ws : List Int) (i : Nat) : Bool := idleP (Go.Proofs.YtaajmdpkbplgjaaS.sortL (takeL (leastB (winsL q ws) ws.length) (winsL q ws).length)) i
theorem dumB_iff {q : Int} {ws : List Int} (hc : GoodC q ws) (i : Nat) (hi : i < ws.length) : dumB q ws i = true ↔ ∀ m, m < 2 ^ ws.length → leastB (winsL q ws) ws.length m = true → m.testBit i = false := by
  have h9 := hc.l9
  unfold dumB idleP
  rw [Bool.not_eq_true', List.any_eq_false]
  constructor
  · intro h m hm hl
    have := h (setN m) ((Go.Proofs.YtaajmdpkbplgjaaS.sortL_perm _).mem_iff.2 (List.mem_map.2 ⟨m, List.mem_filter.2 ⟨List.mem_range.2 (by rw [winsL_length]; exact hm), hl⟩, rfl⟩))
    rw [setN_contains m i (by omega)] at this
    simpa using this
  · intro h x hx
    obtain ⟨m, h1, h2, rfl⟩ := takeL_mem x ((Go.Proofs.YtaajmdpkbplgjaaS.sortL_perm _).mem_iff.1 hx)
    rw [winsL_length] at h1
    rw [setN_contains m i (by omega), h m h1 h2]
    decide
theorem wins_none {q : Int} {ws : List Int} (hc : GoodC q ws) : (winsL q ws).getD 0 false = false := by
  rw [winsL_getD q ws 0 (Nat.two_pow_pos _), wsum_zero, decide_eq_false_iff_not]
  have := hc.q1
  omega
theorem wins_full {q : Int} {ws : List Int} (hc : GoodC q ws) : (winsL q ws).getD (2 ^ ws.length - 1) false = true := by
  have := hc.pow
  rw [winsL_getD q ws _ (by omega), wsum_full, decide_eq_true_eq]
  exact hc.qs
theorem veto_in {q : Int} {ws : List Int} (hc : GoodC q ws) {i m : Nat} (hi : i < ws.length) (hv : vetoB q ws i = true) (hm : m < 2 ^ ws.length) (hw : (winsL q ws).getD m false = true) : m.testBit i = true := by
  cases hb : m.testBit i with
  | true => rfl
  | false =>
    have h1 := wins_out (q := q) i hi
    rw [hv] at h1
    have h2 := wins_mono hc.w0 hm (show 2 ^ ws.length - 1 - 2 ^ i < 2 ^ ws.length from Nat.lt_of_le_of_lt (Nat.sub_le _ _) (Nat.sub_lt (Nat.two_pow_pos _) (by decide))) (fun j hj => by
      rw [sub_pow_test _ i j (by rw [← bitB_test]; exact full_bit _ _ hi), Nat.testBit_two_pow_sub_one]
      have hjn : j < ws.length := by
        rcases Nat.lt_or_ge j ws.length with h | h
        · exact h
        · rw [Nat.testBit_lt_two_pow (Nat.lt_of_lt_of_le hm (Nat.pow_le_pow_right (by omega) h))] at hj; cases hj
      have hji : j ≠ i := fun e => by rw [e, hb] at hj; cases hj
      simp [hjn, hji]) hw
    rw [h1] at h2
    cases h2
theorem alone_least {q : Int} {ws : List Int} (hc : GoodC q ws) {i : Nat} (hi : i < ws.length) (ha : aloneB q ws i = true) : leastB (winsL q ws) ws.length (2 ^ i) = true := by
  have hp : 2 ^ i < 2 ^ ws.length := Nat.pow_lt_pow_right (by omega) hi
  refine leastB_of (by rw [wins_one i hi hp, ha]) (fun j hj hb => ?_)
  rw [Nat.testBit_two_pow] at hb
  have : i = j := by simpa using hb
  rw [this, Nat.sub_self]
  exact wins_none hc
theorem dum_alone {q : Int} {ws : List Int} (hc : GoodC q ws) {i : Nat} (hi : i < ws.length) (hd : dumB q ws i = true) : aloneB q ws i = false := by
  cases ha : aloneB q ws i with
  | false => rfl
  | true =>
    have := (dumB_iff hc i hi).1 hd (2 ^ i) (Nat.pow_lt_pow_right (by omega) hi) (alone_least hc hi ha)
    rw [Nat.testBit_two_pow_self] at this
    cases this
theorem dum_veto {q : Int} {ws : List Int} (hc : GoodC q ws) {i : Nat} (hi : i < ws.length) (hd : dumB q ws i = true) : vetoB q ws i = false := by
  cases hv : vetoB q ws i with
  | false => rfl
  | true =>
    have := hc.pow
    obtain ⟨m, h1, h2, _⟩ := least_sub (winsL q ws) ws.length (2 ^ ws.length - 1) (by omega) (wins_full hc)
    have h3 := veto_in hc hi hv h1 (leastB_bits h2).1
    rw [(dumB_iff hc i hi).1 hd m h1 h2] at h3
    cases h3
theorem some_real {q : Int} {ws : List Int} (hc : GoodC q ws) : ∃ i, i < ws.length ∧ dumB q ws i = false := by
  have := hc.pow
  obtain ⟨m, h1, h2, _⟩ := least_sub (winsL q ws) ws.length (2 ^ ws.length - 1) (by omega) (wins_full hc)
  have h0 : m ≠ 0 := fun e => by
    have := (leastB_bits h2).1
    rw [e, wins_none hc] at this
    cases this
  obtain ⟨i, hi⟩ := Nat.exists_testBit_of_ne_zero h0
  have hn : i < ws.length := by
    rcases Nat.lt_or_ge i ws.length with h | h
    · exact h
    · rw [Nat.testBit_lt_two_pow (Nat.lt_of_lt_of_le h1 (Nat.pow_le_pow_right (by omega) h))] at hi; cases hi
  refine ⟨i, hn, ?_⟩
  cases hd : dumB q ws i with
  | false => rfl
  | true =>
    rw [(dumB_iff hc i hn).1 hd m h1 h2] at hi
    cases hi
theorem getD_sum {ws : List Int} (h : ∀ x ∈ ws, 0 ≤ x) {i j : Nat} (hi : i < ws.length) (hj : j < ws.length) (hij : i ≠ j) : ws.getD i 0 + ws.getD j 0 ≤ ws.sum := by
  have h1 := wsum_add ws j (2 ^ i) hj (by
    have := Nat.testBit_two_pow (n := i) (m := j)
    rw [Nat.testBit_eq_decide_div_mod_eq] at this
    have h2 : decide (i = j) = false := decide_eq_false hij
    rw [h2] at this
    simp at this
    omega)
  rw [wsum_one ws i hi] at h1
  have h2 := (wsum_bounds ws h (2 ^ i + 2 ^ j)).2
  rw [getD_lt ws i hi, getD_lt ws j hj]
  omega
theorem dic_veto {q : Int} {ws : List Int} (hc : GoodC q ws) {i j : Nat} (hi : i < ws.length) (hj : j < ws.length) (hd : dicB q ws i = true) : vetoB q ws j = decide (j = i) := by
  unfold dicB at hd
  rw [Bool.and_eq_true] at hd
  by_cases e : j = i
  · rw [e, hd.2, decide_eq_true rfl]
  · rw [decide_eq_false e]
    have h1 := hd.1
    simp only [aloneB, decide_eq_true_eq] at h1
    have := getD_sum hc.w0 hi hj (Ne.symm e)
    simp only [vetoB, decide_eq_false_iff_not]
    omega
theorem dic_dum {q : Int} {ws : List Int} (hc : GoodC q ws) {i j : Nat} (hi : i < ws.length) (hj : j < ws.length) (hd : dicB q ws i = true) : dumB q ws j = !(decide (j = i)) := by
  unfold dicB at hd
  rw [Bool.and_eq_true] at hd
  by_cases e : j = i
  · rw [e, decide_eq_true rfl]
    cases h : dumB q ws i with
    | false => rfl
    | true => have := dum_alone hc hi h; rw [hd.1] at this; cases this
  · rw [decide_eq_false e]
    refine (dumB_iff hc j hj).2 (fun m hm hl => ?_)
    cases hb : m.testBit j with
    | false => rfl
    | true =>
      obtain ⟨h1, h2⟩ := leastB_bits hl
      have h3 := veto_in hc hi hd.2 hm h1
      have h4 := h2 j hj hb
      have hp : 2 ^ i < 2 ^ ws.length := Nat.pow_lt_pow_right (by omega) hi
      have h5 := wins_mono (m := 2 ^ i) (m' := m - 2 ^ j) hc.w0 hp (Nat.lt_of_le_of_lt (Nat.sub_le _ _) hm) (fun k hk => by
        rw [Nat.testBit_two_pow] at hk
        have hk : i = k := by simpa using hk
        rw [sub_pow_test m j k hb, ← hk, h3, decide_eq_false (Ne.symm e)]
        rfl) (by rw [wins_one i hi hp]; exact hd.1)
      rw [h4] at h5
      cases h5
theorem firstI_some {p : Nat → Bool} : ∀ (d i : Nat), (firstI p d i).2 = true → ∃ j, i ≤ j ∧ j < i + d ∧ p j = true ∧ firstI p d i = ((j : Int), true)
  | 0, i, h => by cases h
  | d + 1, i, h => by
    unfold firstI at h ⊢
    by_cases c : p i = true
    · rw [if_pos c]; exact ⟨i, Nat.le_refl _, by omega, c, rfl⟩
    · rw [if_neg c] at h ⊢
      obtain ⟨j, h1, h2, h3, h4⟩ := firstI_some d (i + 1) h
      exact ⟨j, by omega, by omega, h3, h4⟩
theorem firstI_none {p : Nat → Bool} : ∀ (d i : Nat), (firstI p d i).2 = false → ∀ j, i ≤ j → j < i + d → p j = false
  | 0, i, _, j, h1, h2 => by omega
  | d + 1, i, h, j, h1, h2 => by
    unfold firstI at h
    by_cases c : p i = true
    · rw [if_pos c] at h; cases h
    · rw [if_neg c] at h
      rcases Nat.eq_or_lt_of_le h1 with e | e
      · rw [← e]; simpa using c
      · exact firstI_none d (i + 1) h j e (by omega)
theorem dicV_some {q : Int} {ws : List Int} (h : (dicV q ws).2 = true) : GoodC q ws ∧ ∃ i, i < ws.length ∧ dicB q ws i = true ∧ dicV q ws = ((i : Int), true) := by
  unfold dicV at h ⊢
  by_cases hg : goodB q ws = true
  · rw [if_pos hg] at h ⊢
    obtain ⟨j, _, h2, h3, h4⟩ := firstI_some _ _ h
    exact ⟨(good_iff q ws).1 hg, j, by omega, h3, h4⟩
  · rw [if_neg hg] at h; cases h
theorem dicV_none {q : Int} {ws : List Int} (hg : goodB q ws = true) (h : (dicV q ws).2 = false) : ∀ i, i < ws.length → dicB q ws i = false := by
  intro i hi
  unfold dicV at h
  rw [if_pos hg] at h
  exact firstI_none _ _ h i (Nat.zero_le _) (by omega)
theorem dic_at {q : Int} {ws : List Int} (hg : goodB q ws = true) {i : Nat} (hi : i < ws.length) : ((dicV q ws).2 && decide ((dicV q ws).1 = (i : Int))) = (vetoB q ws i && aloneB q ws i) := by
  have hc := (good_iff q ws).1 hg
  have e : (vetoB q ws i && aloneB q ws i) = dicB q ws i := by unfold dicB; rw [Bool.and_comm]
  rw [e]
  cases h : (dicV q ws).2 with
  | false => rw [dicV_none hg h i hi]; rfl
  | true =>
    obtain ⟨_, j, hj, h1, h2⟩ := dicV_some h
    rw [h2, Bool.true_and]
    by_cases e2 : j = i
    · rw [← e2, h1, decide_eq_true rfl]
    · rw [decide_eq_false (fun h => e2 (by omega))]
      have h3 := dic_veto hc hj hi h1
      rw [decide_eq_false (Ne.symm e2)] at h3
      rw [dicB, h3, Bool.and_false]
theorem rd_L2_lt (l : List (List Int)) (i : Nat) (h : i < l.length) : rd_L2 l (i : Int) = l[i] := by simp [rd_L2, h]
theorem spec_voList.ev_l (m : Nat) (hm : m < 2 ^ 62) : ∀ (d i : Nat), i + d = 62 → Ev (fun k => spec_voList.l0 k (m : Int) (setTo m i) (i : Int)) (setN m) := by
  intro d
  induction d with
  | zero =>
    intro i h
    refine ev_step ?_
    simp only [spec_voList.l0]
    have e : m / 2 ^ i = 0 := by rw [show i = 62 by omega]; exact Nat.div_eq_of_lt hm
    rw [ev_pos (by omega), shr_nat m i (by omega), e, ev_neg (by omega), ev_now, setTo_done e (by omega)]
  | succ d ih =>
    intro i h
    refine ev_step ?_
    simp only [spec_voList.l0]
    have hl := setTo_len m i
    have et : Int.tmod ((m / 2 ^ i : Nat) : Int) 2 = ((m / 2 ^ i % 2 : Nat) : Int) := (Int.ofNat_tmod (m / 2 ^ i) 2).symm
    rw [ev_pos (by omega), shr_nat m i (by omega), w64 (by omega) (by omega)]
    by_cases e : m / 2 ^ i = 0
    · rw [ev_neg (by omega), ev_now, setTo_done e (by omega)]
    · rw [ev_pos (Int.natCast_pos.2 (Nat.pos_of_ne_zero e)), et]
      have := ih (i + 1) (by omega)
      rw [setTo_succ] at this
      by_cases hb : m / 2 ^ i % 2 = 1
      · rw [if_pos (by simp [bitB, hb])] at this
        rw [ev_pos (by rw [hb]; rfl), ev_pos (by omega)]
        exact this
      · rw [if_neg (by simp [bitB]; omega)] at this
        rw [ev_neg (c := ((m / 2 ^ i % 2 : Nat) : Int) = 1) (fun h_ => hb (Int.ofNat_inj.1 h_))]
        exact this
theorem spec_voList.ev (m : Nat) (hm : m < 2 ^ 62) : Ev (fun k => spec_voList.f k (m : Int)) (setN m) := spec_voList.ev_l m hm 62 0 (by omega)
theorem spec_voBefore.ev_l (a b : List Int) (ha : a.length ≤ 9223372036854775807) : ∀ (d i : Nat), i + d = a.length → i ≤ b.length → Ev (fun k => spec_voBefore.l0 k a b (i : Int)) (decide (cmpL (a.drop i) (b.drop i) < 0)) := by
  intro d
  induction d with
  | zero =>
    intro i h hb
    refine ev_step ?_
    simp only [spec_voBefore.l0]
    rw [ev_neg (by omega)]
    refine ev_step ?_
    simp only [spec_voBefore.j1]
    rw [ev_neg (by simp), ev_now, List.drop_of_length_le (by omega)]
    by_cases hc : (a.length : Int) < (b.length : Int)
    · rw [decide_eq_true hc, List.drop_eq_getElem_cons (by omega)]
      rfl
    · rw [decide_eq_false hc, List.drop_of_length_le (by omega)]
      rfl
  | succ d ih =>
    intro i h hb
    refine ev_step ?_
    simp only [spec_voBefore.l0]
    have hi : i < a.length := by omega
    rw [ev_pos (by omega)]
    refine ev_step ?_
    simp only [spec_voBefore.j1]
    by_cases hc : (i : Int) < (b.length : Int)
    · have hib : i < b.length := by omega
      rw [ev_pos (decide_eq_true hc), ev_pos (by omega), ev_pos (by omega), ev_pos (by omega), rd_lt a i hi, rd_lt b i hib, w64i (n := a.length) (by omega) (by omega) ha, List.drop_eq_getElem_cons hi, List.drop_eq_getElem_cons hib]
      by_cases h1 : a[i] = b[i]
      · have e : cmpL (a[i] :: a.drop (i + 1)) (b[i] :: b.drop (i + 1)) = cmpL (a.drop (i + 1)) (b.drop (i + 1)) := by simp only [cmpL]; rw [if_neg (by omega), if_neg (by omega)]
        rw [ev_pos h1, e]
        exact ih (i + 1) (by omega) (by omega)
      · rw [ev_neg h1, ev_now]
        by_cases h2 : a[i] < b[i]
        · have e : cmpL (a[i] :: a.drop (i + 1)) (b[i] :: b.drop (i + 1)) = -1 := by simp only [cmpL]; rw [if_pos h2]
          rw [e, decide_eq_true h2]; rfl
        · have e : cmpL (a[i] :: a.drop (i + 1)) (b[i] :: b.drop (i + 1)) = 1 := by simp only [cmpL]; rw [if_neg h2, if_pos (by omega)]
          rw [e, decide_eq_false h2]; rfl
    · rw [ev_neg (by simp; omega), ev_now, List.drop_eq_getElem_cons hi, List.drop_of_length_le (by omega : b.length ≤ i), decide_eq_false (by omega)]
      rfl
theorem spec_voBefore.ev (a b : List Int) (ha : a.length ≤ 9223372036854775807) : Ev (fun k => spec_voBefore.f k a b) (decide (cmpL a b < 0)) := spec_voBefore.ev_l a b ha a.length 0 (by omega) (by omega)
def upL (xs : List (List Int)) : Prop := xs.Pairwise fun a b => cmpL a b ≤ 0
theorem upL_sorted {xs ys : List (List Int)} (hp : ys.Perm xs) (h : upL ys) : ys = Go.Proofs.YtaajmdpkbplgjaaS.sortL xs := by
  refine Go.Proofs.YtaajmdpkbplgjaaS.sortL_of hp (List.Pairwise.imp (fun {a b} hab => ?_) h)
  have := cmpL_swap a b
  show decide (cmpL b a < 0) = false
  exact decide_eq_false (by omega)
theorem upL_insert {xs : List (List Int)} {s : List Int} {y : Nat} (h : upL xs) (h1 : ∀ j (hj : j < xs.length), j < y → cmpL xs[j] s < 0) (h2 : ∀ hy : y < xs.length, ¬ (cmpL xs[y] s < 0)) : upL (xs.take y ++ s :: xs.drop y) := by
  have hp := h
  rw [← List.take_append_drop y xs, upL, List.pairwise_append] at hp
  rw [upL, List.pairwise_append, List.pairwise_cons]
  have hd : ∀ b ∈ xs.drop y, cmpL s b ≤ 0 := by
    intro b hb
    obtain ⟨j, hj, rfl⟩ := List.getElem_of_mem hb
    rw [List.length_drop] at hj
    have hy : y < xs.length := by omega
    rw [List.getElem_drop]
    have h3 := h2 hy
    have h4 := cmpL_swap s xs[y]
    have h5 : cmpL xs[y] xs[y + j] ≤ 0 := by
      rcases Nat.eq_zero_or_pos j with e | e
      · subst e
        simp only [Nat.add_zero]
        rw [cmpL_self]
        omega
      · rw [upL, List.pairwise_iff_getElem] at h
        exact h y (y + j) hy (by omega) (by omega)
    exact cmpL_le_trans s xs[y] xs[y + j] (by omega) h5
  refine ⟨hp.1, ⟨hd, hp.2.1⟩, fun a ha b hb => ?_⟩
  obtain ⟨j, hj, rfl⟩ := List.getElem_of_mem ha
  rw [List.length_take] at hj
  rw [List.getElem_take]
  have h3 := h1 j (by omega) (by omega)
  rcases List.mem_cons.1 hb with rfl | hb
  · omega
  · exact cmpL_le_trans _ s b (by omega) (hd b hb)
theorem spec_voSorted.ev_l1 (l : List (List Int)) (hl : l.length < 1000000) (hx : ∀ x ∈ l, x.length ≤ 9223372036854775807) (i : Nat) (hi : i < l.length) (out : List (List Int)) (ho : out.length = i) (hup : upL out) (hpm : out.Perm (l.take i)) (hnext : ∀ out' : List (List Int), out'.length = i + 1 → upL out' → out'.Perm (l.take (i + 1)) → Ev (fun k => spec_voSorted.l0 k out' l ((i : Int) + 1)) (Go.Proofs.YtaajmdpkbplgjaaS.sortL l)) : ∀ (d y : Nat), y + d = out.length → (∀ j (hj : j < out.length), j < y → cmpL out[j] l[i] < 0) → Ev (fun k => spec_voSorted.l1 k out l (i : Int) l[i] (y : Int)) (Go.Proofs.YtaajmdpkbplgjaaS.sortL l) := by
  have hgo : ∀ y : Nat, y ≤ out.length → (∀ j (hj : j < out.length), j < y → cmpL out[j] l[i] < 0) → (∀ hy : y < out.length, ¬ (cmpL out[y] l[i] < 0)) → Ev (fun k => if out.length < 5000000000000 then spec_voSorted.l0 k (out.take ((y : Int)).toNat ++ l[i] :: out.drop ((y : Int)).toNat) l (wrap64 ((i : Int) + 1)) else none) (Go.Proofs.YtaajmdpkbplgjaaS.sortL l) := by
    intro y hy h1 h2
    rw [ev_pos (by omega), Int.toNat_natCast, w64 (by omega) (by omega)]
    refine hnext _ ?_ (upL_insert hup h1 h2) ?_
    · rw [List.length_append, List.length_cons, List.length_take, List.length_drop]
      omega
    · refine List.perm_middle.trans ?_
      rw [List.take_append_drop, List.take_succ_eq_append_getElem hi]
      exact (List.Perm.cons _ hpm).trans (List.perm_append_singleton _ _).symm
  intro d
  induction d with
  | zero =>
    intro y hy h1
    refine ev_step ?_
    simp only [spec_voSorted.l1]
    rw [ev_neg (by omega)]
    exact hgo y (by omega) h1 (fun h => by omega)
  | succ d ih =>
    intro y hy h1
    refine ev_step ?_
    simp only [spec_voSorted.l1]
    have hyl : y < out.length := by omega
    have hmem : out[y] ∈ l := List.mem_of_mem_take (hpm.mem_iff.1 (List.getElem_mem hyl))
    rw [ev_pos (by omega), rdOf_lt [] out y hyl, ev_bind (spec_voBefore.ev out[y] l[i] (hx _ hmem))]
    by_cases c : cmpL out[y] l[i] < 0
    · rw [ev_pos (decide_eq_true c), w64 (by omega) (by omega)]
      refine ih (y + 1) (by omega) (fun j hj hjy => ?_)
      rcases Nat.lt_or_ge j y with e | e
      · exact h1 j hj e
      · have : j = y := by omega
        subst this
        exact c
    · rw [ev_neg (by simp [c])]
      exact hgo y (by omega) h1 (fun _ => c)
theorem spec_voSorted.ev_l0 (l : List (List Int)) (hl : l.length < 1000000) (hx : ∀ x ∈ l, x.length ≤ 9223372036854775807) : ∀ (d i : Nat) (out : List (List Int)), i + d = l.length → out.length = i → upL out → out.Perm (l.take i) → Ev (fun k => spec_voSorted.l0 k out l (i : Int)) (Go.Proofs.YtaajmdpkbplgjaaS.sortL l) := by
  intro d
  induction d with
  | zero =>
    intro i out h ho hup hpm
    refine ev_step ?_
    simp only [spec_voSorted.l0]
    rw [List.take_of_length_le (by omega)] at hpm
    rw [ev_neg (by omega), ev_now]
    exact upL_sorted hpm hup
  | succ d ih =>
    intro i out h ho hup hpm
    refine ev_step ?_
    simp only [spec_voSorted.l0]
    have hi : i < l.length := by omega
    rw [ev_pos (by omega), ev_pos (by omega), rdOf_lt [] l i hi]
    exact spec_voSorted.ev_l1 l hl hx i hi out ho hup hpm (fun out' h1 h2 h3 => ih (i + 1) out' (by omega) h1 h2 h3) out.length 0 (by omega) (fun j _ hj => by omega)
theorem spec_voSorted.ev (l : List (List Int)) (hl : l.length < 1000000) (hx : ∀ x ∈ l, x.length ≤ 9223372036854775807) : Ev (fun k => spec_voSorted.f k l) (Go.Proofs.YtaajmdpkbplgjaaS.sortL l) := spec_voSorted.ev_l0 l hl hx l.length 0 [] (by omega) rfl List.Pairwise.nil (by simp)
theorem spec_voLeast.ev_l1 (W : List Bool) (n : Nat) (hW : W.length = 2 ^ n) (hn : n ≤ 18) (m : Nat) (hm : m < W.length) (out : List (List Int)) (ho : out.length ≤ 1000000) (R : List (List Int)) : ∀ (d j : Nat) (b : Bool), j + d = (setN m).length → Ev (fun k => spec_voLeast.l0 k W (if (b && ((setN m).drop j).all fun x => !(W.getD (m - 2 ^ x.toNat) false)) = true then out ++ [setN m] else out) W (W.length : Int) ((m : Int) + 1)) R → Ev (fun k => spec_voLeast.l1 k W out (m : Int) b W (W.length : Int) (m : Int) (setN m) ((setN m).length : Int) (j : Int)) R := by
  have hp : 2 ^ n ≤ 2 ^ 18 := Nat.pow_le_pow_right (by omega) hn
  have hto := setN_to (m := m) (n := n) (by omega) (by omega)
  have hln : (setN m).length ≤ n := by rw [hto]; exact setTo_len m n
  intro d
  induction d with
  | zero =>
    intro j b h hR
    refine ev_step ?_
    simp only [spec_voLeast.l1]
    rw [List.drop_of_length_le (by omega), List.all_nil, Bool.and_true] at hR
    rw [ev_neg (by omega), w64 (x := (m : Int) + 1) (by omega) (by omega)]
    cases b with
    | true =>
      rw [if_pos rfl] at hR
      rw [ev_pos rfl, ev_bind (spec_voList.ev m (by omega)), ev_pos (by omega)]
      exact hR
    | false =>
      rw [if_neg (by decide)] at hR
      rw [ev_neg (by decide)]
      exact hR
  | succ d ih =>
    intro j b h hR
    refine ev_step ?_
    simp only [spec_voLeast.l1]
    have hj : j < (setN m).length := by omega
    have hx := setTo_in (m := m) (n := n) (setN m)[j] (by rw [← hto]; exact List.getElem_mem hj)
    rw [List.drop_eq_getElem_cons hj, List.all_cons] at hR
    rw [ev_pos (by omega), ev_pos (by omega), ev_pos (by omega), w64 (x := (j : Int) + 1) (by omega) (by omega), rd_lt (setN m) j hj]
    cases b with
    | true =>
      obtain ⟨c, hc⟩ := Int.eq_ofNat_of_zero_le hx.1
      have hcb : bitB m c = true := by have := hx.2.2; rw [hc, Int.toNat_natCast] at this; exact this
      have hcn : c < n := by have := hx.2.1; omega
      have hge : 2 ^ c ≤ m := by
        have hbb : m / 2 ^ c % 2 = 1 := by simpa [bitB] using hcb
        rcases Nat.lt_or_ge m (2 ^ c) with h1 | h1
        · rw [Nat.div_eq_of_lt h1] at hbb; omega
        · exact h1
      have h0 : 0 < 2 ^ c := Nat.two_pow_pos c
      have e1 : wrap64 ((m : Int) - ((2 ^ c : Nat) : Int)) = ((m - 2 ^ c : Nat) : Int) := by
        rw [w64 (by omega) (by omega)]
        omega
      rw [hc, Int.toNat_natCast, Bool.true_and] at hR
      rw [ev_pos rfl, hc, ev_pos (by omega), shl_one c (by omega), e1, ev_pos (by omega), ev_pos (by omega), rdOf_nat]
      exact ih (j + 1) _ (by omega) hR
    | false =>
      rw [Bool.false_and] at hR
      rw [ev_neg (by decide)]
      exact ih (j + 1) false (by omega) (by rw [Bool.false_and]; exact hR)
theorem leastB_set (W : List Bool) (n m : Nat) (hm : m < 2 ^ n) (hn : n ≤ 62) : leastB W n m = (W.getD m false && (setN m).all fun x => !(W.getD (m - 2 ^ x.toNat) false)) := by
  rw [leastB, setN_to hm hn]
  congr 1
  exact (setTo_all m n (fun i => !(W.getD (m - 2 ^ i) false))).symm
theorem spec_voLeast.ev_l0 (W : List Bool) (n : Nat) (hW : W.length = 2 ^ n) (hn : n ≤ 18) : ∀ (d m : Nat), m + d = W.length → Ev (fun k => spec_voLeast.l0 k W (takeL (leastB W n) m) W (W.length : Int) (m : Int)) (Go.Proofs.YtaajmdpkbplgjaaS.sortL (takeL (leastB W n) W.length)) := by
  have hp : 2 ^ n ≤ 2 ^ 18 := Nat.pow_le_pow_right (by omega) hn
  intro d
  induction d with
  | zero =>
    intro m h
    refine ev_step ?_
    simp only [spec_voLeast.l0]
    have hl := takeL_len (leastB W n) m
    rw [ev_neg (by omega), ev_bind (spec_voSorted.ev _ (by omega) (fun x hx => by
      obtain ⟨a, ha, _, rfl⟩ := takeL_mem x hx
      have := setTo_len a n
      rw [← setN_to (m := a) (n := n) (by omega) (by omega)] at this
      omega)), ev_now, show m = W.length by omega]
  | succ d ih =>
    intro m h
    refine ev_step ?_
    simp only [spec_voLeast.l0]
    have hm : m < W.length := by omega
    have hl := takeL_len (leastB W n) m
    have hih := ih (m + 1) (by omega)
    rw [takeL_succ, leastB_set W n m (by omega) (by omega)] at hih
    have ew : W.getD m false = W[m] := by simp [hm]
    rw [ev_pos (by omega), ev_pos (by omega), ev_pos (by omega), rdOf_lt false W m hm]
    cases hw : W[m] with
    | true =>
      rw [ew, hw] at hih
      rw [ev_pos rfl, ev_bind (spec_voList.ev m (by omega))]
      refine spec_voLeast.ev_l1 W n hW hn m hm _ (by omega) _ (setN m).length 0 true (by omega) ?_
      rw [List.drop_zero]
      exact hih
    | false =>
      rw [ew, hw, Bool.false_and, if_neg (by decide)] at hih
      rw [ev_neg (by decide), w64 (by omega) (by omega)]
      exact hih
theorem spec_voLeast.ev (W : List Bool) (n : Nat) (hW : W.length = 2 ^ n) (hn : n ≤ 18) : Ev (fun k => spec_voLeast.f k W) (Go.Proofs.YtaajmdpkbplgjaaS.sortL (takeL (leastB W n) W.length)) := spec_voLeast.ev_l0 W n hW hn W.length 0 (by omega)
theorem spec_voAll.v (n : Nat) (hn : n ≤ 60) : spec_voAll.f (n : Int) = some ((2 ^ n - 1 : Nat) : Int) := by
  unfold spec_voAll.f
  have h0 : 0 < 2 ^ n := Nat.two_pow_pos n
  have h : 2 ^ n ≤ 2 ^ 60 := Nat.pow_le_pow_right (by omega) hn
  rw [if_pos (by omega), shl_one n (by omega), w64 (by omega) (by omega)]
  congr 1
  omega
theorem spec_bit (m i : Nat) (hm : m < 2 ^ 62) (hi : i ≤ 62) : Int.tmod (shr .i64 (m : Int) (i : Int)) 2 = ((m / 2 ^ i % 2 : Nat) : Int) := by
  rw [shr_nat m i (by omega)]
  generalize m / 2 ^ i = x
  rw [Int.tmod_eq_emod_of_nonneg (by omega)]
  omega
theorem spec_voWeight.ev_l (q : Int) (ws : List Int) (m : Nat) (hm : m < 2 ^ 62) (hl : ws.length ≤ 60) (hw : ∀ x ∈ ws, 0 ≤ x ∧ x ≤ 1000000000) : ∀ (d i : Nat) (s : Int), i + d = ws.length → 0 ≤ s → s + wsum (ws.drop i) (m / 2 ^ i) ≤ 1000000000000 → Ev (fun k => spec_voWeight.l0 k (m : Int) s ws (ws.length : Int) (i : Int)) (s + wsum (ws.drop i) (m / 2 ^ i)) := by
  intro d
  induction d with
  | zero =>
    intro i s h _ _
    refine ev_step ?_
    simp only [spec_voWeight.l0]
    rw [ev_neg (by omega), ev_now, List.drop_of_length_le (by omega)]
    simp [wsum]
  | succ d ih =>
    intro i s h h0 h1
    refine ev_step ?_
    simp only [spec_voWeight.l0]
    have hi : i < ws.length := by omega
    have hx := hw ws[i] (List.getElem_mem hi)
    have hd : wsum (ws.drop i) (m / 2 ^ i) = (if m / 2 ^ i % 2 = 1 then ws[i] else 0) + wsum (ws.drop (i + 1)) (m / 2 ^ (i + 1)) := by
      rw [wsum_drop ws i _ hi, Nat.div_div_eq_div_mul, ← Nat.pow_succ]
    have hb := wsum_bounds (ws.drop (i + 1)) (fun x hx => (hw x (List.mem_of_mem_drop hx)).1) (m / 2 ^ (i + 1))
    rw [ev_pos (by omega), ev_pos (by omega), ev_pos (by omega), spec_bit m i hm (by omega), w64i (n := ws.length) (by omega) (by omega) (by omega), rd_lt ws i hi, hd]
    rw [hd] at h1
    by_cases hbit : m / 2 ^ i % 2 = 1
    · rw [if_pos hbit] at h1 ⊢
      rw [ev_pos (by rw [hbit]; rfl), w64 (by omega) (by omega), ← Int.add_assoc]
      exact ih (i + 1) (s + ws[i]) (by omega) (by omega) (by omega)
    · rw [if_neg hbit] at h1 ⊢
      rw [ev_neg (by omega), Int.zero_add]
      exact ih (i + 1) s (by omega) h0 (by omega)
theorem spec_voWeight.ev (q : Int) (ws : List Int) (m : Nat) (hm : m < 2 ^ 62) (hl : ws.length ≤ 60) (hw : ∀ x ∈ ws, 0 ≤ x ∧ x ≤ 1000000000) : Ev (fun k => spec_voWeight.f k q ws (m : Int)) (wsum ws m) := by
  have hb := wsum_bounds ws (fun x hx => (hw x hx).1) m
  have hs := sum_bounds ws 1000000000 hw
  have := spec_voWeight.ev_l q ws m hm hl hw ws.length 0 0 (by omega) (by omega) (by simp; omega)
  simpa [spec_voWeight.f] using this
theorem winsL_take (q : Int) (ws : List Int) (m : Nat) (h : m < 2 ^ ws.length) : (winsL q ws).take (m + 1) = (winsL q ws).take m ++ [decide (q ≤ wsum ws m)] := by
  rw [List.take_succ_eq_append_getElem (by rw [winsL_length]; exact h), winsL_get]
theorem spec_voWins.ev_l (q : Int) (ws : List Int) (hl : ws.length ≤ 9) (hw : ∀ x ∈ ws, 0 ≤ x ∧ x ≤ 1000000000) : ∀ (d m : Nat), m + d = 2 ^ ws.length → Ev (fun k => spec_voWins.l0 k ((winsL q ws).take m) (m : Int) q ws) (winsL q ws) := by
  have hp : 2 ^ ws.length ≤ 2 ^ 9 := Nat.pow_le_pow_right (by omega) hl
  have h0 : 0 < 2 ^ ws.length := Nat.two_pow_pos _
  intro d
  induction d with
  | zero =>
    intro m h
    refine ev_step ?_
    simp only [spec_voWins.l0]
    rw [ev_bind (ev_of (spec_voAll.v ws.length (by omega))), ev_neg (by omega), ev_now, List.take_of_length_le (by rw [winsL_length]; omega)]
  | succ d ih =>
    intro m h
    refine ev_step ?_
    simp only [spec_voWins.l0]
    rw [ev_bind (ev_of (spec_voAll.v ws.length (by omega))), ev_pos (by omega), ev_bind (spec_voWeight.ev q ws m (by omega) (by omega) hw), ev_pos (by simp; omega), w64i (n := 512) (by omega) (by omega) (by omega)]
    have := ih (m + 1) (by omega)
    rw [winsL_take q ws m (by omega)] at this
    exact this
theorem spec_voWins.ev (q : Int) (ws : List Int) (hl : ws.length ≤ 9) (hw : ∀ x ∈ ws, 0 ≤ x ∧ x ≤ 1000000000) : Ev (fun k => spec_voWins.f k q ws) (winsL q ws) := by
  have := spec_voWins.ev_l q ws hl hw (2 ^ ws.length) 0 (by omega)
  simpa [spec_voWins.f] using this
def dumV (q : Int) (ws : List Int) : List Int × Bool := if goodB q ws = true then (takeI (idleP (Go.Proofs.YtaajmdpkbplgjaaS.sortL (takeL (leastB (winsL q ws) ws.length) (winsL q ws).length))) ws.length, true) else ([], false)
theorem impl_DummiesOf.ev (q : Int) (ws : List Int) (hl : ws.length ≤ 9223372036854775807) : Ev (fun k => impl_DummiesOf.f k q ws) (dumV q ws) := by
  simp only [impl_DummiesOf.f]
  rw [ev_bind (impl_IsCommittee.ev q ws hl)]
  unfold dumV
  cases hg : goodB q ws with
  | false => rw [ev_neg (by decide), ev_now, if_neg (by decide)]
  | true =>
    have hc := (good_iff q ws).1 hg
    have h9 := hc.l9
    have hwl := winsL_length q ws
    have hi := impl_votes_idle.ev (winsL q ws) ws.length hwl (by omega)
    rw [ev_pos rfl, if_pos rfl, ev_bind (impl_Committee_votes.ev q ws h9 hc.wb), ev_bind hi, ev_now]
def usedR (s : List Int) (acc : List Bool) : List Bool := s.foldl (fun acc x => acc.set x.toNat true) acc
def usedL (L : List (List Int)) (acc : List Bool) : List Bool := L.foldl (fun acc s => usedR s acc) acc
theorem usedR_len (s : List Int) : ∀ acc : List Bool, (usedR s acc).length = acc.length := by
  induction s with
  | nil => intro acc; rfl
  | cons x s ih =>
    intro acc
    show (usedR s _).length = _
    rw [ih, List.length_set]
theorem usedR_get (s : List Int) : ∀ (acc : List Bool) (j : Nat), j < acc.length → (∀ x ∈ s, 0 ≤ x) → (usedR s acc).getD j false = (acc.getD j false || s.contains (j : Int)) := by
  induction s with
  | nil => intro acc j _ _; simp [usedR]
  | cons x s ih =>
    intro acc j hj hx
    have h0 := hx x List.mem_cons_self
    show (usedR s (acc.set x.toNat true)).getD j false = _
    rw [ih _ j (by rw [List.length_set]; exact hj) (fun y hy => hx y (List.mem_cons_of_mem _ hy)), List.contains_cons]
    by_cases e : x.toNat = j
    · have e1 : ((j : Int) == x) = true := beq_iff_eq.2 (by omega)
      rw [e1, ← e, List.getD_eq_getElem?_getD, List.getElem?_set_self (by omega)]
      simp
    · have e1 : ((j : Int) == x) = false := beq_eq_false_iff_ne.2 (by omega)
      rw [e1, List.getD_eq_getElem?_getD, List.getElem?_set_ne e, List.getD_eq_getElem?_getD, Bool.false_or]
theorem usedL_get (L : List (List Int)) : ∀ (acc : List Bool) (j : Nat), j < acc.length → (∀ s ∈ L, ∀ x ∈ s, 0 ≤ x) → (usedL L acc).getD j false = (acc.getD j false || L.any fun s => s.contains (j : Int)) := by
  induction L with
  | nil => intro acc j _ _; simp [usedL]
  | cons s L ih =>
    intro acc j hj hx
    show (usedL L (usedR s acc)).getD j false = _
    rw [ih _ j (by rw [usedR_len]; exact hj) (fun t ht => hx t (List.mem_cons_of_mem _ ht)), usedR_get s acc j hj (hx s List.mem_cons_self), List.any_cons, Bool.or_assoc]
theorem spec_DummiesOf.ev_l2 (U : List Bool) (hU : U.length ≤ 1000000) : ∀ (d i : Nat), i + d = U.length → Ev (fun k => spec_DummiesOf.l2 k (takeI (fun i => !(U.getD i false)) i) U (U.length : Int) (i : Int)) (takeI (fun i => !(U.getD i false)) U.length, true) := by
  intro d
  induction d with
  | zero =>
    intro i h
    refine ev_step ?_
    simp only [spec_DummiesOf.l2]
    rw [ev_neg (by omega), ev_now, show i = U.length by omega]
  | succ d ih =>
    intro i h
    refine ev_step ?_
    simp only [spec_DummiesOf.l2]
    have hi : i < U.length := by omega
    have hl := takeI_len (fun i => !(U.getD i false)) i
    have hih := ih (i + 1) (by omega)
    rw [takeI_succ] at hih
    rw [ev_pos (by omega), ev_pos (by omega), ev_pos (by omega), rdOf_nat, w64 (by omega) (by omega)]
    cases hu : U.getD i false with
    | true =>
      rw [hu, if_neg (by decide)] at hih
      rw [ev_pos rfl]
      exact hih
    | false =>
      rw [hu, if_pos (by decide)] at hih
      rw [ev_neg (by decide), ev_pos (by omega)]
      exact hih
theorem spec_DummiesOf.ev_l1 (L : List (List Int)) (hL : L.length ≤ 1000000) (N i : Nat) (hi : i < L.length) (hs : L[i].length ≤ 1000000) (hx : ∀ x ∈ L[i], 0 ≤ x ∧ x < (N : Int)) (R : List Int × Bool) : ∀ (d j : Nat) (acc : List Bool), j + d = L[i].length → acc.length = N → Ev (fun k => spec_DummiesOf.l0 k (usedR (L[i].drop j) acc) L (L.length : Int) ((i : Int) + 1)) R → Ev (fun k => spec_DummiesOf.l1 k acc L (L.length : Int) (i : Int) L[i] (L[i].length : Int) (j : Int)) R := by
  intro d
  induction d with
  | zero =>
    intro j acc h ha hn
    refine ev_step ?_
    simp only [spec_DummiesOf.l1]
    rw [List.drop_of_length_le (by omega)] at hn
    rw [ev_neg (by omega), w64i (i := (i : Int)) (n := L.length) (by omega) (by omega) (by omega)]
    exact hn
  | succ d ih =>
    intro j acc h ha hn
    refine ev_step ?_
    simp only [spec_DummiesOf.l1]
    have hj : j < L[i].length := by omega
    have hxj := hx _ (List.getElem_mem hj)
    rw [List.drop_eq_getElem_cons hj] at hn
    rw [ev_pos (by omega), ev_pos (by omega), ev_pos (by omega), rd_lt L[i] j hj, ev_pos hxj.1, ev_pos (by omega), w64i (i := (j : Int)) (n := L[i].length) (by omega) (by omega) (by omega)]
    exact ih (j + 1) _ (by omega) (by rw [List.length_set]; exact ha) hn
theorem spec_DummiesOf.ev_l0 (L : List (List Int)) (hL : L.length ≤ 1000000) (N : Nat) (hN : N ≤ 1000000) (hs : ∀ s ∈ L, s.length ≤ 1000000 ∧ ∀ x ∈ s, 0 ≤ x ∧ x < (N : Int)) : ∀ (d i : Nat) (acc : List Bool), i + d = L.length → acc.length = N → Ev (fun k => spec_DummiesOf.l0 k acc L (L.length : Int) (i : Int)) (takeI (fun j => !((usedL (L.drop i) acc).getD j false)) N, true) := by
  intro d
  induction d with
  | zero =>
    intro i acc h ha
    refine ev_step ?_
    simp only [spec_DummiesOf.l0]
    rw [ev_neg (by omega), List.drop_of_length_le (by omega)]
    have := spec_DummiesOf.ev_l2 acc (by omega) acc.length 0 (by omega)
    rw [ha] at this ⊢
    exact this
  | succ d ih =>
    intro i acc h ha
    refine ev_step ?_
    simp only [spec_DummiesOf.l0]
    have hi : i < L.length := by omega
    have hsi := hs _ (List.getElem_mem hi)
    rw [ev_pos (by omega), ev_pos (by omega), ev_pos (by omega), rd_L2_lt L i hi, List.drop_eq_getElem_cons hi]
    refine spec_DummiesOf.ev_l1 L hL N i hi hsi.1 hsi.2 _ L[i].length 0 acc (by omega) ha ?_
    rw [List.drop_zero]
    exact ih (i + 1) _ (by omega) (by rw [usedR_len]; exact ha)
theorem spec_DummiesOf.ev (q : Int) (ws : List Int) (hl : ws.length ≤ 9223372036854775807) : Ev (fun k => spec_DummiesOf.f k q ws) (dumV q ws) := by
  simp only [spec_DummiesOf.f]
  rw [ev_bind (spec_voGood.ev q ws hl)]
  unfold dumV
  cases hg : goodB q ws with
  | false => rw [ev_neg (by decide), ev_now, if_neg (by decide)]
  | true =>
    have hc := (good_iff q ws).1 hg
    have h9 := hc.l9
    have hp := hc.pow
    have hwl := winsL_length q ws
    have hlen := takeL_len (leastB (winsL q ws) ws.length) (winsL q ws).length
    have hin := fun s hs => sortL_in (P := leastB (winsL q ws) ws.length) (N := (winsL q ws).length) (n := ws.length) (by omega) (by omega) s hs
    rw [ev_pos rfl, if_pos rfl, ev_pos (by omega), ev_pos (by omega), Int.toNat_natCast, ev_bind (spec_voWins.ev q ws h9 hc.wb), ev_bind (spec_voLeast.ev (winsL q ws) ws.length hwl (by omega))]
    have := spec_DummiesOf.ev_l0 (Go.Proofs.YtaajmdpkbplgjaaS.sortL (takeL (leastB (winsL q ws) ws.length) (winsL q ws).length)) (by rw [sortL_len]; omega) ws.length (by omega) (fun s hs => ⟨by have := (hin s hs).1; omega, (hin s hs).2⟩) _ 0 (List.replicate ws.length false) (Nat.zero_add _) (by simp)
    rw [List.drop_zero, takeI_congr (Q := idleP (Go.Proofs.YtaajmdpkbplgjaaS.sortL (takeL (leastB (winsL q ws) ws.length) (winsL q ws).length))) (fun j hj => ?_)] at this
    · exact this
    · rw [usedL_get _ _ j (by rw [List.length_replicate]; exact hj) (fun s hs x hx => ((hin s hs).2 x hx).1), idleP]
      have : (List.replicate ws.length false).getD j false = false := by
        rw [List.getD_eq_getElem?_getD, List.getElem?_eq_getElem (by rw [List.length_replicate]; exact hj)]
        simp
      rw [this, Bool.false_or]
theorem dumV_len (q : Int) (ws : List Int) : (dumV q ws).1.length ≤ 10 := by
  unfold dumV
  split
  · next h =>
    have := ((good_iff q ws).1 h).l9
    have h2 := takeI_len (idleP (Go.Proofs.YtaajmdpkbplgjaaS.sortL (takeL (leastB (winsL q ws) ws.length) (winsL q ws).length))) ws.length
    show (takeI _ _).length ≤ 10
    omega
  · simp
theorem laws_mHas.ev_l (l : List Int) (a : Int) (hl : l.length ≤ 9223372036854775807) : ∀ (d i : Nat), i + d = l.length → Ev (fun k => laws_mHas.l0 k a l (l.length : Int) (i : Int)) ((l.drop i).contains a) := by
  intro d
  induction d with
  | zero =>
    intro i h
    refine ev_step ?_
    simp only [laws_mHas.l0]
    rw [ev_neg (by omega), ev_now, List.drop_of_length_le (by omega)]
    rfl
  | succ d ih =>
    intro i h
    refine ev_step ?_
    simp only [laws_mHas.l0]
    have hi : i < l.length := by omega
    rw [ev_pos (by omega), ev_pos (by omega), ev_pos (by omega), rd_lt l i hi, w64i (n := l.length) (by omega) (by omega) hl, List.drop_eq_getElem_cons hi, List.contains_cons]
    by_cases c : l[i] = a
    · rw [ev_pos c, ev_now, c, beq_self_eq_true, Bool.true_or]
    · rw [ev_neg c, beq_eq_false_iff_ne.2 (fun h => c h.symm), Bool.false_or]
      exact ih (i + 1) (by omega)
theorem laws_mHas.ev (l : List Int) (a : Int) (hl : l.length ≤ 9223372036854775807) : Ev (fun k => laws_mHas.f k l a) (l.contains a) := laws_mHas.ev_l l a hl l.length 0 (by omega)
def othI (s : List Int) (n : Nat) : List Int := takeI (fun i => !(s.contains (i : Int))) n
theorem laws_mOthers.ev_l (s : List Int) (n : Nat) (hs : s.length ≤ 9223372036854775807) (hn : n ≤ 1000000) : ∀ (d i : Nat), i + d = n → Ev (fun k => laws_mOthers.l0 k s (n : Int) (othI s i) (i : Int)) (othI s n) := by
  intro d
  induction d with
  | zero =>
    intro i h
    refine ev_step ?_
    simp only [laws_mOthers.l0]
    rw [ev_neg (by omega), ev_now, show i = n by omega]
  | succ d ih =>
    intro i h
    refine ev_step ?_
    simp only [laws_mOthers.l0]
    have hl := takeI_len (fun i => !(s.contains (i : Int))) i
    have hih := ih (i + 1) (by omega)
    unfold othI at hih ⊢
    rw [takeI_succ] at hih
    rw [ev_pos (by omega), ev_bind (laws_mHas.ev s (i : Int) hs), w64 (by omega) (by omega)]
    cases hc : s.contains (i : Int) with
    | true =>
      rw [hc, if_neg (by decide)] at hih
      rw [ev_pos rfl]
      exact hih
    | false =>
      rw [hc, if_pos (by decide)] at hih
      rw [ev_neg (by decide), ev_pos (by omega)]
      exact hih
theorem laws_mOthers.ev (s : List Int) (n : Nat) (hs : s.length ≤ 9223372036854775807) (hn : n ≤ 1000000) : Ev (fun k => laws_mOthers.f k s (n : Int)) (othI s n) := laws_mOthers.ev_l s n hs hn n 0 (by omega)
theorem laws_mSum.ev_l (l : List Int) (hl : l.length ≤ 9223372036854775807) : ∀ (d i : Nat) (s : Int), i + d = l.length → Ev (fun k => laws_mSum.l0 k s l (l.length : Int) (i : Int)) (wfold (l.drop i) s) := by
  intro d
  induction d with
  | zero =>
    intro i s h
    refine ev_step ?_
    simp only [laws_mSum.l0]
    rw [ev_neg (by omega), ev_now, List.drop_of_length_le (by omega)]
    rfl
  | succ d ih =>
    intro i s h
    refine ev_step ?_
    simp only [laws_mSum.l0]
    have hi : i < l.length := by omega
    rw [ev_pos (by omega), ev_pos (by omega), ev_pos (by omega), rd_lt l i hi, w64i (n := l.length) (by omega) (by omega) hl, wfold_take l i hi]
    exact ih (i + 1) _ (by omega)
theorem laws_mSum.ev (l : List Int) (hl : l.length ≤ 9223372036854775807) : Ev (fun k => laws_mSum.f k l) (wfold l 0) := laws_mSum.ev_l l hl l.length 0 0 (by omega)
theorem laws_mSame.ev_l (a b : List Int) (hl : a.length ≤ 9223372036854775807) (hab : a.length = b.length) : ∀ (d i : Nat), i + d = a.length → Ev (fun k => laws_mSame.l0 k a b (a.length : Int) (i : Int)) (decide (a.drop i = b.drop i)) := by
  intro d
  induction d with
  | zero =>
    intro i h
    refine ev_step ?_
    simp only [laws_mSame.l0]
    rw [ev_neg (by omega), ev_now, List.drop_of_length_le (by omega), List.drop_of_length_le (by omega)]
    rfl
  | succ d ih =>
    intro i h
    refine ev_step ?_
    simp only [laws_mSame.l0]
    have hi : i < a.length := by omega
    have hib : i < b.length := by omega
    have e : decide (a.drop i = b.drop i) = (decide (a[i] = b[i]) && decide (a.drop (i + 1) = b.drop (i + 1))) := by
      rw [List.drop_eq_getElem_cons hi, List.drop_eq_getElem_cons hib, Bool.eq_iff_iff]
      simp only [Bool.and_eq_true, decide_eq_true_eq, List.cons.injEq]
    rw [ev_pos (by omega), ev_pos (by omega), ev_pos (by omega), ev_pos (by omega), rd_lt a i hi, rd_lt b i hib, w64i (n := a.length) (by omega) (by omega) hl, e]
    by_cases c : a[i] = b[i]
    · rw [ev_pos c, decide_eq_true c, Bool.true_and]
      exact ih (i + 1) (by omega)
    · rw [ev_neg c, ev_now, decide_eq_false c]
      rfl
theorem laws_mSame.ev (a b : List Int) (hl : a.length ≤ 9223372036854775807) : Ev (fun k => laws_mSame.f k a b) (decide (a = b)) := by
  simp only [laws_mSame.f]
  by_cases c : (a.length : Int) = (b.length : Int)
  · rw [ev_pos c]
    exact laws_mSame.ev_l a b hl (by omega) a.length 0 (by omega)
  · rw [ev_neg c, ev_now, decide_eq_false (fun h => c (by rw [h]))]
theorem laws_mRises.ev_l (l : List Int) (hl : l.length ≤ 9223372036854775806) : ∀ (d i : Nat), i + d = l.length → 1 ≤ i → Ev (fun k => laws_mRises.l0 k l (i : Int)) (incB (l.drop (i - 1))) := by
  intro d
  induction d with
  | zero =>
    intro i h h1
    refine ev_step ?_
    simp only [laws_mRises.l0]
    rw [ev_neg (by omega), ev_now, incB_short (by rw [List.length_drop]; omega)]
  | succ d ih =>
    intro i h h1
    refine ev_step ?_
    simp only [laws_mRises.l0]
    have hi : i < l.length := by omega
    have e1 : (i : Int) - 1 = ((i - 1 : Nat) : Int) := by omega
    rw [ev_pos (by omega), w64 (x := (i : Int) - 1) (by omega) (by omega), e1, ev_pos (by omega), ev_pos (by omega), ev_pos (by omega), rd_lt l i hi, rd_lt l (i - 1) (by omega), incB_at l i (by omega) hi, w64 (by omega) (by omega)]
    by_cases hc : l[i - 1] ≥ l[i]
    · rw [ev_pos hc, ev_now, decide_eq_false (by omega), Bool.false_and]
    · rw [ev_neg hc, decide_eq_true (by omega), Bool.true_and]
      have := ih (i + 1) (by omega) (by omega)
      rw [Nat.add_sub_cancel] at this
      exact this
theorem laws_mRises.ev (l : List Int) (hl : l.length ≤ 9223372036854775806) : Ev (fun k => laws_mRises.f k l) (incB l) := by
  rcases Nat.eq_zero_or_pos l.length with h | h
  · refine ev_step ?_
    simp only [laws_mRises.f, laws_mRises.l0]
    rw [ev_neg (by omega), ev_now, incB_short (by omega)]
  · exact laws_mRises.ev_l l hl (l.length - 1) 1 (by omega) (Nat.le_refl _)
end Go.Proofs.Ytaajmdpkbplgjaa.Q
