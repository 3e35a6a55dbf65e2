/- Printed functions, their contracts and plain facts on them: QSpecPartCommittee; QCmpIsNaNInt; QCmpCompareInt; QSlicesCloneIntInt; QImplSortCommittee; QSpecL1Own; QSpecSortCommittee; QImplVotesIsSwing; QImplLowerWeights; . Conditions: as each theorem states. -/
import Derived.Test.YtaambkdiokbdgabGreatGWeightsMadeOfAllx1
set_option maxHeartbeats 40000000
set_option maxRecDepth 100000
namespace Go.Proofs.YtaambkdiokbdgabGreat.Q
open Go.RowKit Go.Proofs.YtaambkdiokbdgabGreatX Go.Proofs.YtaambkdiokbdgabGreatY Go.Proofs.YtaambkdiokbdgabGreatX Go.Proofs.YtaambkdiokbdgabGreatW.PrintWords Go.Proofs.YtaambkdiokbdgabGreatW.PrintLast Go.Proofs.YtaambkdiokbdgabGreatW.PrintMore
attribute [local go_sem] max2_int min2_int max_two min_two max_three min_three max_four min_four   -- for this text's walks alone
set_option linter.unusedVariables false
set_option linter.unusedSimpArgs false
mutual
def spec_PartCommittee.l0 : Nat → Int → List Int → Int → Int → Int → List Int → Option (Int × List Int × Bool)
 | 0, _, _, _, _, _, _ => none
 | k + 1, x4, x15, x16, x17, x102000, x102001 => if x17 < x16 then (if 0 ≤ x17 then (if x17 < (x15.length : Int) then ((spec_pwCommon.f k (rd x15 x17) x4).bind fun t105 => (spec_PartCommittee.l0 k t105 x15 x16 (wrap64 (x17 + 1)) x102000 x102001)) else (none)) else (none)) else (spec_PartCommittee.l1 k x4 x102001 (x102001.length : Int) 0 x102000 x102001 0 ([] : List Int))
def spec_PartCommittee.l1 : Nat → Int → List Int → Int → Int → Int → List Int → Int → List Int → Option (Int × List Int × Bool)
 | 0, _, _, _, _, _, _, _, _ => none
 | k + 1, x4, x27, x28, x29, x102000, x102001, x107000, x107001 => if x29 < x28 then (if 0 ≤ x29 then (if x29 < (x27.length : Int) then (if x4 = 0 then (none) else (if x107001.length < 17592186044416 then (spec_PartCommittee.l1 k x4 x27 x28 (wrap64 (x29 + 1)) x102000 x102001 x107000 (x107001 ++ [wrap64 (Int.tdiv (rd x27 x29) x4)])) else (none))) else (none)) else (none)) else ((spec_voWins.f k x102000 x102001).bind fun t111 => ((spec_weQuota.f k t111 x107001).bind fun bt114 => (some (bt114.1, x107001, true))))
end
def spec_PartCommittee.f (k : Nat) (a0_0 : Int) (l0_1 : List Int) : Option (Int × List Int × Bool) := (spec_voGood.f k a0_0 l0_1).bind fun t103 => (if t103 = true then (spec_PartCommittee.l0 k 0 l0_1 (l0_1.length : Int) 0 a0_0 l0_1) else (some (0, ([] : List Int), false)))
def spec_PartCommittee.T13 : Bool × List (List Nat × List Nat) := (true, [([], []), ([0], [0]), ([], []), ([], []), ([2, 3], [2, 3]), ([4], [4]), ([1, 5], [1, 5]), ([0, 1, 2, 3, 4, 5, 6], []), ([7, 6, 6, 0, 1, 2, 3, 4, 5, 6], [6, 7])])
def spec_PartCommittee.B13 : List Nat := [0, 1, 0, 0, 12, 28, 63, 127, 255]
theorem spec_PartCommittee.tab13 : rtab .any (opsOf Tryz.f8 13) = spec_PartCommittee.T13 := by kernel_rfl
theorem spec_PartCommittee.bits13 : waitsOk spec_PartCommittee.T13.2 spec_PartCommittee.B13 = true := by kernel_rfl
def spec_PartCommittee.T15 : Bool × List (List Nat × List Nat) := (true, [([], []), ([0], [0]), ([], []), ([2], [2]), ([1, 3, 1], [1, 3]), ([4], [4]), ([5], [5]), ([5], [5]), ([0, 1, 2, 3, 4, 5, 6], []), ([8, 6, 4, 0, 1, 2, 3, 4, 5, 6], [6, 8])])
def spec_PartCommittee.B15 : List Nat := [0, 1, 0, 4, 15, 31, 63, 63, 127, 383]
theorem spec_PartCommittee.tab15 : rtab .any (opsOf Tryz.f8 15) = spec_PartCommittee.T15 := by kernel_rfl
theorem spec_PartCommittee.bits15 : waitsOk spec_PartCommittee.T15.2 spec_PartCommittee.B15 = true := by kernel_rfl
theorem spec_PartCommittee.calls (k : Nat) (a0_0 : Int) (A0_1 : Option Addr) (c0_1 : Nat) (l0_1 : List Int) (r1 : Int) (r2 : List Int) (r3 : Bool) (w : World) (hr0_1 : Kd.C (Kd.int .i64) w A0_1 l0_1.length l0_1) (hc0_1 : l0_1.length ≤ c0_1) (h : spec_PartCommittee.f k a0_0 l0_1 = some (r1, r2, r3)) :
  Calls Tryz.prog 8 #[.agg #[.int .i64 a0_0, .slice A0_1 l0_1.length c0_1]] w fun e w' => ∃ v1_ : Value, e = .returned (.tuple #[.agg #[.int .i64 r1, v1_], .bool r3]) ∧ Kd.R (Kd.int .i64) 3 w' w.heap.size (fun _ => True) v1_ r2 ∧ Below w.heap.size w w' := by
 have hu24 := Tryz.underlying24
 have HR0_1 := Aside0.mk hr0_1
 have HC0_1 := Aside0.mk hc0_1
 clear hr0_1 hc0_1
 have HB := Aside0.mk (Below.refl w.heap.size w)
 have H := h
 unfold spec_PartCommittee.f at H
 clear h
 replace H := oA H
 obtain ⟨t103, A2, H⟩ := H
 (try dsimp only at H)
 by_cases c3 : t103 = true
 rotate_left
 ·replace c3 := Bool.eq_false_iff.mpr c3
  subst c3
  replace H := iF H
  simp only [Option.some.injEq, Prod.mk.injEq] at H
  obtain ⟨rfl, rfl, rfl⟩ := H
  go_enter Tryz.func8, Tryz.ntmps8
  go_wp2_with (first | ((with_reducible refine gate_dst (N := 1) rfl ?_); refine xE (N := 1) (cs := #[.int .i64 a0_0, .slice A0_1 l0_1.length c0_1]) (t := 24) ?_; intro gb101 hg w42 BK101 hb; have GW101 := gS hg HB; have GE101 := gS hg HB; replace HB := sB HB hb; clear hb hg) | ((with_reducible refine gate_dst (N := 2) rfl ?_); refine xE (N := 2) (cs := #[.int .i64 0, .slice none 0 0]) (t := 24) ?_; intro gb102 hg w43 BK102 hb; have GW102 := gS hg HB; have GE102 := gS hg HB; have NB101_102 := nL hg (blk_lt BK101.out); have NB102_101 := nG hg (blk_lt BK101.out); replace BK101 := bB BK101 hb; replace HB := sB HB hb; clear hb hg; have hnb44 := NB101_102.out; have hnc44 := NB102_101.out; (try clear hcz39_0 hcz39_1 hfz39_0 hfz39_1 hcz41_0 hcz41_1 hfz41_0 hfz41_1); obtain ⟨hcz45_0, hcz45_1, hfz45_0, hfz45_1⟩ := zZ BK101) | ((with_reducible refine gate_callee (f := 37) rfl ?_); refine gL 11 Tryz.func37 #[.agg #[.int .i64 a0_0, .slice A0_1 l0_1.length c0_1]] ?_; (with_reducible refine (spec_voGood.calls k a0_0 _ _ l0_1 false _ (Kd.C_below HR0_1.out HB.out) HC0_1.out A2.out).mono ?_); rintro e w46 ⟨rfl, hb⟩; refine ⟨_, rfl, ?_⟩; replace BK101 := bB BK101 hb; replace BK102 := bB BK102 hb; replace HB := sB HB hb; (try clear hb); (try clear hcz45_0 hcz45_1 hfz45_0 hfz45_1); obtain ⟨hcz47_0, hcz47_1, hfz47_0, hfz47_1⟩ := zZ BK102))
  refine bodyPost_ret (results_ct rfl _ _ gb102 24 #[.int .i64 0, .slice none 0 0] (0, 0) _ rfl (by refine blk_put (cs := #[.int .i64 0, .slice none 0 0]) ?_ 1 _ rfl; refine blk_put (cs := #[.int .i64 0, .slice none 0 0]) ?_ 0 _ rfl; exact BK102.out) Tryz.underlying24 rfl (by kernel_rfl)) rfl ?_
  exact ⟨_, fR, by first | exact Kd.R_nil _ _ _ _ _ | exact Kd.N_nil _ _ _ _ _ | exact Kd.V_nil _ _ _ _ _ | exact Kd.Q_nil _ _ _ _ _ | exact Kd.S_nil _ _ _ _ _, wB⟩
 subst c3
 replace H := iT H
 have H' := Aside0.mk H
 clear H
 go_enter Tryz.func8, Tryz.ntmps8
 go_wp2_with (first | ((with_reducible refine gate_dst (N := 1) rfl ?_); refine xE (N := 1) (cs := #[.int .i64 a0_0, .slice A0_1 l0_1.length c0_1]) (t := 24) ?_; intro gb101 hg w4 BK101 hb; have GW101 := gS hg HB; have GE101 := gS hg HB; replace HB := sB HB hb; clear hb hg) | ((with_reducible refine gate_dst (N := 2) rfl ?_); refine xE (N := 2) (cs := #[.int .i64 0, .slice none 0 0]) (t := 24) ?_; intro gb102 hg w5 BK102 hb; have GW102 := gS hg HB; have GE102 := gS hg HB; have NB101_102 := nL hg (blk_lt BK101.out); have NB102_101 := nG hg (blk_lt BK101.out); replace BK101 := bB BK101 hb; replace HB := sB HB hb; clear hb hg; have hnb6 := NB101_102.out; have hnc6 := NB102_101.out; obtain ⟨hcz7_0, hcz7_1, hfz7_0, hfz7_1⟩ := zZ BK101) | ((with_reducible refine gate_callee (f := 37) rfl ?_); refine gL 11 Tryz.func37 #[.agg #[.int .i64 a0_0, .slice A0_1 l0_1.length c0_1]] ?_; (with_reducible refine (spec_voGood.calls k a0_0 _ _ l0_1 true _ (Kd.C_below HR0_1.out HB.out) HC0_1.out A2.out).mono ?_); rintro e w8 ⟨rfl, hb⟩; refine ⟨_, rfl, ?_⟩; replace BK101 := bB BK101 hb; replace BK102 := bB BK102 hb; replace HB := sB HB hb; (try clear hb); (try clear hcz7_0 hcz7_1 hfz7_0 hfz7_1); obtain ⟨hcz9_0, hcz9_1, hfz9_0, hfz9_1⟩ := zZ BK101))
 go_loopg [4, 17] k (fun kq v4 v17 w' => ∃ (x4_1 : Int) (x17_1 : Int), v4 = .int .i64 x4_1 ∧ v17 = .int .i64 x17_1 ∧ Aside0 (spec_PartCommittee.l0 kq x4_1 l0_1 (l0_1.length : Int) x17_1 a0_0 l0_1 = some (r1, r2, r3)) ∧ Aside0 (kq ≤ k) ∧ Aside0 (w'.heap[gb101]? = some (.cells #[.int .i64 a0_0, (.slice A0_1 l0_1.length c0_1)] 24 (0, 0))) ∧ Aside0 (w'.heap[gb102]? = some (.cells #[.int .i64 0, (.slice none 0 0)] 24 (0, 0))) ∧ Aside0 (Below w.heap.size w w'))
 case atStart => exact ⟨(0), (0), gR, gR, H', ⟨Nat.le_refl _⟩, ⟨by exact BK101.out⟩, ⟨by exact BK102.out⟩, ⟨wB⟩⟩
 case round =>
  clear H'
  (try clear p2); (try clear c3); (try clear c6); (try clear c8); (try clear hcz9_0); (try clear hcz9_1); (try clear hfz9_0); (try clear hfz9_1)
  obtain ⟨x4_1, x17_1, rfl, rfl, HA, HK1, BK101, BK102, HB⟩ := hrel
  cases gk with
  | zero => exact absurd HA.out (by simp [spec_PartCommittee.l0])
  | succ k1 =>
   have H := HA.out
   clear HA
   simp only [spec_PartCommittee.l0] at H
   by_cases c10 : x17_1 < (l0_1.length : Int)
   ·rw [if_pos c10] at H
    have c10b0 := decide_eq_true c10
    clear c10
    by_cases c11 : 0 ≤ x17_1
    rotate_left
    ·rw [if_neg c11] at H
     exact absurd H (by simp)
    rw [if_pos c11] at H
    have c11b0 := decide_eq_true c11
    clear c11
    by_cases c12 : x17_1 < (l0_1.length : Int)
    rotate_left
    ·rw [if_neg c12] at H
     exact absurd H (by simp)
    rw [if_pos c12] at H
    have c12b0 := decide_eq_true c12
    clear c12
    replace H := oA H
    obtain ⟨t105, A13, H⟩ := H
    (try dsimp only at H)
    have H' := Aside0.mk H
    clear H
    have p104 : 0 ≤ (x17_1 : Int) := oD
    have q104 : x17_1 < (l0_1.length : Int) := oD
    obtain ⟨ad104, e104, hx104_0⟩ := Kd.at_int HR0_1.out x17_1 p104 q104
    cases e104
    replace hx104_0 := (HB.out.cell (World.block_lt_of_cell? w _ hx104_0)).trans hx104_0
    replace p104 := eq_true p104
    replace q104 := eq_true q104
    go_wp2_with (first | ((with_reducible refine gate_callee (f := 42) rfl ?_); refine gL 23 Tryz.func42 #[.int .i64 (rd l0_1 x17_1), .int .i64 x4_1] ?_; (with_reducible refine (spec_pwCommon.calls k1 (rd l0_1 x17_1) x4_1 t105 _ A13.out).mono ?_); rintro e w' ⟨rfl, ⟨nd, rfl⟩⟩; refine ⟨_, rfl, ?_⟩))
    go_roundg k1
    case measure => have := HK1.out; omega
    case rel => exact ⟨(t105), (wrap64 (x17_1 + 1)), gR, gR, H', ⟨by have := HK1.out; omega⟩, ⟨bQ BK101⟩, ⟨bQ BK102⟩, ⟨wB⟩⟩
   rw [if_neg c10] at H
   have c10b0 : decide (x17_1 < (l0_1.length : Int)) = false := decide_eq_false c10
   clear c10
   have H' := Aside0.mk H
   clear H
   go_wp2_with (first | ((with_reducible refine gate_dst (N := 7) rfl ?_); refine xE (N := 7) (cs := #[.int .i64 0, .slice none 0 0]) (t := 24) ?_; intro gb106 hg w14 BK106 hb; have GW106 := Aside0.mk ((by rw [hg]; exact (below_size (by repeat (first | exact HB.out | apply ba | apply bd | apply be | refine bs ?_ GE101.out | refine bs ?_ GE102.out))) : w.heap.size ≤ gb106)); have GE106 := Aside0.mk ((by rw [hg]; exact (below_size (by repeat (first | exact HB.out | apply ba | apply bd | apply be | refine bs ?_ GE101.out | refine bs ?_ GE102.out))) : w.heap.size ≤ gb106)); have NB101_106 := Aside0.mk ((by rw [hg]; exact Nat.ne_of_lt (blk_lt (g := gb101) (o := .cells #[.int .i64 a0_0, .slice A0_1 l0_1.length c0_1] 24 (0, 0)) (bQ BK101)) : gb101 ≠ gb106)); have NB106_101 := Aside0.mk ((by rw [hg]; exact Nat.ne_of_gt (blk_lt (g := gb101) (o := .cells #[.int .i64 a0_0, .slice A0_1 l0_1.length c0_1] 24 (0, 0)) (bQ BK101)) : gb106 ≠ gb101)); have NB102_106 := Aside0.mk ((by rw [hg]; exact Nat.ne_of_lt (blk_lt (g := gb102) (o := .cells #[.int .i64 0, .slice none 0 0] 24 (0, 0)) (bQ BK102)) : gb102 ≠ gb106)); have NB106_102 := Aside0.mk ((by rw [hg]; exact Nat.ne_of_gt (blk_lt (g := gb102) (o := .cells #[.int .i64 0, .slice none 0 0] 24 (0, 0)) (bQ BK102)) : gb106 ≠ gb102)); replace BK101 := bP BK101 hb; replace BK102 := bP BK102 hb; replace HB := sQ hb; clear hb hg; have hnb15 := NB106_101.out; have hnc15 := NB101_106.out; have hnb16 := NB106_102.out; have hnc16 := NB102_106.out; obtain ⟨hcz17_0, hcz17_1, hfz17_0, hfz17_1⟩ := zZ BK106; have hnb18 := NB101_102.out; have hnc18 := NB102_101.out; obtain ⟨hcz19_0, hcz19_1, hfz19_0, hfz19_1⟩ := zZ BK101))
   go_loopg [29] k1 (fun kq v29 w' => ∃ (x29_2 : Int) (x107001_2 : List Int) (u107001 : Value), v29 = .int .i64 x29_2 ∧ Aside0 (spec_PartCommittee.l1 kq x4_1 l0_1 (l0_1.length : Int) x29_2 a0_0 l0_1 0 x107001_2 = some (r1, r2, r3)) ∧ Aside0 (kq ≤ k1) ∧ Aside0 (Kd.R (Kd.int .i64) 3 w' w.heap.size (fun _ => True) u107001 x107001_2) ∧ Aside0 (w'.heap[gb101]? = some (.cells #[.int .i64 a0_0, (.slice A0_1 l0_1.length c0_1)] 24 (0, 0))) ∧ Aside0 (w'.heap[gb102]? = some (.cells #[.int .i64 0, (.slice none 0 0)] 24 (0, 0))) ∧ Aside0 (w'.heap[gb106]? = some (.cells #[.int .i64 0, u107001] 24 (0, 0))) ∧ Aside0 (Below w.heap.size w w'))
   case atStart => exact ⟨(0), (([] : List Int)), (.slice none 0 0), gR, H', ⟨Nat.le_refl _⟩, ⟨by first | exact Kd.R_nil _ _ _ _ _ | exact Kd.N_nil _ _ _ _ _ | exact Kd.V_nil _ _ _ _ _ | exact Kd.Q_nil _ _ _ _ _ | exact Kd.S_nil _ _ _ _ _⟩, ⟨by (with_reducible repeat (first | refine kN ?_ _ | refine kD ?_ | refine kA ?_ _)); refine blk_far ?_ NB101_106.out _; (with_reducible repeat (first | refine kN ?_ _ | refine kD ?_ | refine kA ?_ _)); refine blk_far ?_ NB101_106.out _; (with_reducible repeat (first | refine kN ?_ _ | refine kD ?_ | refine kA ?_ _)); exact BK101.out⟩, ⟨by (with_reducible repeat (first | refine kN ?_ _ | refine kD ?_ | refine kA ?_ _)); refine blk_far ?_ NB102_106.out _; (with_reducible repeat (first | refine kN ?_ _ | refine kD ?_ | refine kA ?_ _)); refine blk_far ?_ NB102_106.out _; (with_reducible repeat (first | refine kN ?_ _ | refine kD ?_ | refine kA ?_ _)); exact BK102.out⟩, ⟨by (with_reducible repeat (first | refine kN ?_ _ | refine kD ?_ | refine kA ?_ _)); refine blk_put (cs := #[.int .i64 0, .slice none 0 0]) ?_ 1 _ rfl; (with_reducible repeat (first | refine kN ?_ _ | refine kD ?_ | refine kA ?_ _)); refine blk_put (cs := #[.int .i64 0, .slice none 0 0]) ?_ 0 _ rfl; (with_reducible repeat (first | refine kN ?_ _ | refine kD ?_ | refine kA ?_ _)); exact BK106.out⟩, ⟨wB⟩⟩
   case round =>
    clear H'
    (try clear c1); (try clear p1); (try clear q1); (try clear hx1); (try clear p2); (try clear c3); (try clear c4); (try clear c6); (try clear p6); (try clear c8); (try clear c10); (try clear c10b0); (try clear p10); (try clear q10); (try clear hx10); (try clear c11); (try clear c11b0); (try clear c12); (try clear c12b0); (try clear c15); (try clear c16); (try clear c18); (try clear hcz17_0); (try clear hcz17_1); (try clear hcz19_0); (try clear hcz19_1); (try clear hcz9_0); (try clear hcz9_1); (try clear hfz17_0); (try clear hfz17_1); (try clear hfz19_0); (try clear hfz19_1); (try clear hfz9_0); (try clear hfz9_1); (try clear hx104_0); (try clear p104); (try clear p2); (try clear q104)
    obtain ⟨x29_2, x107001_2, u107001, rfl, HA, HK2, HO_107001, BK101, BK102, BK106, HB⟩ := hrel
    cases gk with
    | zero => exact absurd HA.out (by simp [spec_PartCommittee.l1])
    | succ k2 =>
     have H := HA.out
     clear HA
     simp only [spec_PartCommittee.l1] at H
     by_cases c20 : x29_2 < (l0_1.length : Int)
     rotate_left
     ·rw [if_neg c20] at H
      have c20b0 : decide (x29_2 < (l0_1.length : Int)) = false := decide_eq_false c20
      clear c20
      replace H := oA H
      obtain ⟨t111, A29, H⟩ := H
      (try dsimp only at H)
      replace H := oB H
      obtain ⟨⟨t114, t115⟩, A300, H⟩ := H
      (try dsimp only at H)
      have A30 := Aside0.mk A300
      clear A300
      simp only [Option.some.injEq, Prod.mk.injEq] at H
      obtain ⟨rfl, rfl, rfl⟩ := H
      try go_wp2
      replace HO_107001 := rD HO_107001
      replace BK101 := bD BK101
      replace BK102 := bD BK102
      replace BK106 := bD BK106
      replace HB := Aside0.mk (below_drew1 HB.out)
      refine start_ (n := 10) (S := fun w' => w'.cell? ⟨gb101, 0, none⟩ = some (.int .i64 a0_0) ∧ w'.cell? ⟨gb101, 1, none⟩ = some (.slice A0_1 l0_1.length c0_1) ∧ w'.cell? ⟨gb106, 0, none⟩ = some (.int .i64 0) ∧ w'.cell? ⟨gb106, 1, none⟩ = some (u107001)) (ds := [9]) #[F,F,F,F,F,F,F,F,F,F] (by kernel_rfl) rfl rfl ⟨(blk_cell BK101.out 0).trans rfl, (blk_cell BK101.out 1).trans rfl, (blk_cell BK106.out 0).trans rfl, (blk_cell BK106.out 1).trans rfl⟩ (fun hHeld => ?_); refine with_tabW spec_PartCommittee.tab15 spec_PartCommittee.bits15 (fun HT_ HW_ => ?_)
      generalize wr.drew = w31 at HO_107001 BK101 BK102 BK106 HB hHeld ⊢
      refine pU 2 HT_ ?_
      refine tK 0 HT_ HW_ hHeld (hy := by rintro w' ⟨s0, s1, s2, s3⟩; go_simp; with_reducible rfl) ?_
      refine tK 3 HT_ HW_ hHeld (hy := by rintro w' ⟨s0, s1, s2, s3⟩; go_simp; with_reducible rfl) ?_
      refine oN 1 HT_ (fun K hK => ?_)
      refine gE Tryz.func44 #[.agg #[.int .i64 a0_0, .slice A0_1 l0_1.length c0_1]] ?_
      with_reducible refine (spec_voWins.calls k2 a0_0 _ _ l0_1 t111 _ (Kd.C_below HR0_1.out HB.out) HC0_1.out A29.out).mono ?_
      rintro e w32 ⟨v112, rfl, ho0, hb⟩
      refine ⟨_, rfl, ?_⟩
      have HO113 := Aside0.mk (Kd.R_lower ho0 (below_size HB.out))
      replace HO_107001 := rB HO_107001 hb
      replace BK101 := bB BK101 hb
      replace BK102 := bB BK102 hb
      replace BK106 := bB BK106 hb
      replace HB := sB HB hb
      (try clear hb)
      (try clear hb2)
      (try clear hk)
      (try clear hi)
      (try clear ho0)
      obtain ⟨Ao33, co33, eo33⟩ := Kd.R_slice HO113.out
      (first | subst eo33 | (injection eo33 with f1_ f2_ f3_; have f4_ := f1_.symm; have f5_ := f3_.symm; clear f1_ f2_ f3_; subst f4_; subst f5_))
      obtain ⟨Ao34, co34, eo34⟩ := Kd.R_slice HO_107001.out
      (first | subst eo34 | (injection eo34 with f1_ f2_ f3_; have f4_ := f1_.symm; have f5_ := f3_.symm; clear f1_ f2_ f3_; subst f4_; subst f5_))
      refine hK.out _ _ ⟨(blk_cell BK101.out 0).trans rfl, (blk_cell BK101.out 1).trans rfl, (blk_cell BK106.out 0).trans rfl, (blk_cell BK106.out 1).trans rfl⟩ (fun hHeld => ?_)
      clear hK K
      refine nM ?_
      refine oN 4 HT_ (fun K hK => ?_)
      refine gE Tryz.func43 #[.slice Ao33 t111.length co33, .slice Ao34 x107001_2.length co34] ?_
      with_reducible refine (spec_weQuota.calls k2 _ _ t111 _ _ x107001_2 t114 t115 _ ?side1 ?side2 ?side3 ?side4 A30.out).mono ?_
      (case side1 => have hx_ := (Kd.R_reads' HO113.out).2.2; exact cC)
      (case side2 => exact (Kd.R_reads' HO113.out).2.1)
      (case side3 => have hx_ := (Kd.R_reads' HO_107001.out).2.2; exact cC)
      (case side4 => exact (Kd.R_reads' HO_107001.out).2.1)
      rintro e w35 ⟨rfl, hb⟩
      refine ⟨_, rfl, ?_⟩
      replace HO_107001 := rB HO_107001 hb
      replace HO113 := rB HO113 hb
      replace BK101 := bB BK101 hb
      replace BK102 := bB BK102 hb
      replace BK106 := bB BK106 hb
      replace HB := sB HB hb
      (try clear hb)
      (try clear hb2)
      (try clear hk)
      (try clear hi)
      refine hK.out _ _ ⟨(blk_cell BK101.out 0).trans rfl, (blk_cell BK101.out 1).trans rfl, (blk_cell BK106.out 0).trans rfl, (blk_cell BK106.out 1).trans rfl⟩ (fun hHeld => ?_)
      clear hK K
      refine nM ?_
      refine pU 5 HT_ ?_
      refine pU 6 HT_ ?_
      refine pU 7 HT_ ?_
      refine pU 8 HT_ ?_
      refine last_ (i := 9) (N := none) #[T,T,T,T,T,T,T,T,T,T] rfl rfl (one_of HT_.out (by kernel_rfl)) (by decide) (fun K hK => ?_)
      have hs36 : w35.cell? ⟨gb106, 0, none⟩ = some (.int .i64 0) := (blk_cell BK106.out 0).trans rfl
      have hfs36 := blk_frozen BK106.out 0
      have hns36_0 := NB101_106.out
      have hns36_1 := NB102_106.out
      have hms36_0 := NB106_101.out
      have hms36_1 := NB106_102.out
      refine skip_ (w1 := ?_) (by rfl) rfl ?_ ?_
      rotate_left
      ·go_simp
       rfl
      refine hK.out _ _ ?_
      clear hK K
      refine done_ (done_of HT_.out (by kernel_rfl)) ?_
      have hnb37 := NB106_101.out
      have hnc37 := NB101_106.out
      have hnb38 := NB106_102.out
      have hnc38 := NB102_106.out
      obtain ⟨hcz39_0, hcz39_1, hfz39_0, hfz39_1⟩ := zZ BK106
      have hnb40 := NB102_101.out
      have hnc40 := NB101_102.out
      obtain ⟨hcz41_0, hcz41_1, hfz41_0, hfz41_1⟩ := zZ BK102
      try go_wp2
      refine bodyPost_ret (results_ct rfl _ _ gb102 24 #[.int .i64 t114, .slice Ao34 x107001_2.length co34] (0, 0) _ rfl (by refine blk_put (cs := #[.int .i64 t114, .slice none 0 0]) ?_ 1 _ rfl; refine blk_put (cs := #[.int .i64 0, .slice none 0 0]) ?_ 0 _ rfl; refine blk_far ?_ NB102_106.out _; exact BK102.out) Tryz.underlying24 rfl (by kernel_rfl)) rfl ?_
      exact ⟨_, fR, by exact Kd.R_mono (Kd.R_far (p := ⟨gb102, 1, none⟩) (Kd.R_far (p := ⟨gb102, 0, none⟩) (Kd.R_far (p := ⟨gb106, 0, none⟩) (Kd.R_types (Kd.R_types HO_107001.out BK106.out (by decide)) BK102.out (by decide)) (fun _ hk => hk.1.2) (.int .i64 t114)) (fun _ hk => hk.2) (.int .i64 t114)) (fun _ hk => hk.2) (.slice Ao34 x107001_2.length co34)) (fun _ hk => trivial), wB⟩
     rw [if_pos c20] at H
     have c20b0 := decide_eq_true c20
     clear c20
     by_cases c21 : 0 ≤ x29_2
     rotate_left
     ·rw [if_neg c21] at H
      exact absurd H (by simp)
     rw [if_pos c21] at H
     have c21b0 := decide_eq_true c21
     clear c21
     by_cases c22 : x29_2 < (l0_1.length : Int)
     rotate_left
     ·rw [if_neg c22] at H
      exact absurd H (by simp)
     rw [if_pos c22] at H
     have c22b0 := decide_eq_true c22
     clear c22
     by_cases c23 : x4_1 = 0
     ·rw [if_pos c23] at H
      exact absurd H (by simp)
     rw [if_neg c23] at H
     have c23b0 : (x4_1 == 0) = false := beq_eq_false_iff_ne.mpr c23
     have c23b1 : (x4_1 != 0) = true := bne_iff_ne.mpr c23
     by_cases c24 : x107001_2.length < 17592186044416
     rotate_left
     ·rw [if_neg c24] at H
      exact absurd H (by simp)
     rw [if_pos c24] at H
     have LMc24 := Aside0.mk c24
     clear c24
     obtain ⟨y108, hy108⟩ : ∃ y_ : List Int, y_ = (x107001_2 ++ [wrap64 (Int.tdiv (rd l0_1 x29_2) x4_1)]) := ⟨_, rfl⟩
     replace H : (spec_PartCommittee.l1 k2 x4_1 l0_1 (l0_1.length : Int) (wrap64 (x29_2 + 1)) a0_0 l0_1 0 y108) = some (r1, r2, r3) := by first | (rw [hy108]; with_reducible exact H) | (have H2_ := (Option.bind_some _ _).symm.trans H; rw [hy108]; with_reducible exact H2_) | (have H2_ := (Option.bind_some _ _).symm.trans H; with_reducible exact H2_) | with_reducible exact H | (rw [hy108]; exact H) | exact H
     have Ny108 := Aside0.mk hy108
     clear hy108
     have H' := Aside0.mk H
     clear H
     have p107 : 0 ≤ (x29_2 : Int) := oD
     have q107 : x29_2 < (l0_1.length : Int) := oD
     obtain ⟨ad107, e107, hx107_0⟩ := Kd.at_int HR0_1.out x29_2 p107 q107
     cases e107
     replace hx107_0 := (HB.out.cell (World.block_lt_of_cell? w _ hx107_0)).trans hx107_0
     replace p107 := eq_true p107
     replace q107 := eq_true q107
     try go_wp2
     replace HO_107001 := rD HO_107001
     replace BK101 := bD BK101
     replace BK102 := bD BK102
     replace BK106 := bD BK106
     replace HB := Aside0.mk (below_drew1 HB.out)
     refine start_ (n := 9) (S := fun w' => w'.cell? ⟨gb106, 0, none⟩ = some (.int .i64 0) ∧ w'.cell? ⟨gb106, 1, none⟩ = some (u107001)) (ds := [8]) #[F,F,F,F,F,F,F,F,F] (by kernel_rfl) rfl rfl ⟨(blk_cell BK106.out 0).trans rfl, (blk_cell BK106.out 1).trans rfl⟩ (fun hHeld => ?_); refine with_tabW spec_PartCommittee.tab13 spec_PartCommittee.bits13 (fun HT_ HW_ => ?_)
     generalize wr.drew = w25 at HO_107001 BK101 BK102 BK106 HB hHeld ⊢
     refine pU 0 HT_ ?_
     refine pU 2 HT_ ?_
     refine pU 3 HT_ ?_
     refine pU 4 HT_ ?_
     refine tK 1 HT_ HW_ hHeld (hy := by rintro w' ⟨s0, s1⟩; go_simp; with_reducible rfl) ?_
     refine oN 5 HT_ (fun K hK => ?_)
     refine value_ (w1 := ?_) (v := ?_) (by rfl) rfl ?_ ?_
     rotate_left 2
     ·go_simp
      constructor
      ·rfl
      rfl
     refine hK.out _ _ ⟨(blk_cell (blk_alloc BK106.out _) 0).trans rfl, (blk_cell (blk_alloc BK106.out _) 1).trans rfl⟩ (fun hHeld => ?_)
     clear hK K
     refine nM ?_
     refine oN 6 HT_ (fun K hK => ?_)
     refine Kd.R_append_step (Kd.int .i64) (w0 := w) w.heap.size (by rfl) (.tmp 34) (.tmp 38) 22 3 (.int .i64 0) 8 rfl Tryz.underlying22 info3 rfl (by decide) (by omega) u107001 x107001_2 (wrap64 (Int.tdiv (rd l0_1 x29_2) x4_1)) [.int .i64 (wrap64 (Int.tdiv (rd l0_1 x29_2) x4_1))] (fun _ => True) (fun _ => False) rfl rfl ?aP (fun _ hk => hk.elim) ?aF ?aO ?aB ?aS ?aL ?_
     (case aP => exact rfl)
     (case aB => exact HB.out)
     (case aF => exact (fun _ _ => trivial))
     (case aO => exact HO_107001.out)
     (case aS => exact (below_size HB.out))
     (case aL => have := LMc24.out; omega)
     intro v109 w26 ho hb hg hat
     rw [← Ny108.out] at ho
     have HO110 := Aside0.mk (ho)
     replace BK101 := Aside0.mk (blk_grown (g := gb101) (o := .cells #[.int .i64 a0_0, .slice (some ad107) l0_1.length c0_1] 24 (0, 0)) BK101.out hg (Kd.R_ne HO_107001.out BK101.out (by decide)))
     replace BK102 := Aside0.mk (blk_grown (g := gb102) (o := .cells #[.int .i64 0, .slice none 0 0] 24 (0, 0)) BK102.out hg (Kd.R_ne HO_107001.out BK102.out (by decide)))
     replace BK106 := Aside0.mk (blk_grown (g := gb106) (o := .cells #[.int .i64 0, u107001] 24 (0, 0)) BK106.out hg (Kd.R_ne HO_107001.out BK106.out (by decide)))
     replace HB := Aside0.mk (hb)
     clear ho hb hg hat
     obtain ⟨Ao27, co27, eo27⟩ := Kd.R_slice HO110.out
     (first | subst eo27 | (injection eo27 with f1_ f2_ f3_; have f4_ := f1_.symm; have f5_ := f3_.symm; clear f1_ f2_ f3_; subst f4_; subst f5_))
     refine hK.out _ _ ⟨(blk_cell BK106.out 0).trans rfl, (blk_cell BK106.out 1).trans rfl⟩ (fun hHeld => ?_)
     clear hK K
     refine nM ?_
     refine pU 7 HT_ ?_
     refine last_ (i := 8) (N := none) #[T,T,T,T,T,T,T,T,T] rfl rfl (one_of HT_.out (by kernel_rfl)) (by decide) (fun K hK => ?_)
     have hs28 : w26.cell? ⟨gb106, 1, none⟩ = some (u107001) := (blk_cell BK106.out 1).trans rfl
     have hfs28 := blk_frozen BK106.out 1
     have hns28_0 := NB101_106.out
     have hns28_1 := NB102_106.out
     have hms28_0 := NB106_101.out
     have hms28_1 := NB106_102.out
     refine skip_ (w1 := ?_) (by rfl) rfl ?_ ?_
     rotate_left
     ·go_simp
      rfl
     refine hK.out _ _ ?_
     clear hK K
     refine done_ (done_of HT_.out (by kernel_rfl)) ?_
     try go_wp2
     go_roundg k2
     case measure => have := HK1.out; have := HK2.out; omega
     case rel => exact ⟨(wrap64 (x29_2 + 1)), (y108), (.slice Ao27 y108.length co27), gR, H', ⟨by have := HK1.out; have := HK2.out; omega⟩, ⟨by exact Kd.R_mono (Kd.R_far (p := ⟨gb106, 1, none⟩) (Kd.R_types HO110.out BK106.out (by decide)) (fun _ hk => hk.2) (.slice Ao27 y108.length co27)) (fun _ hk => trivial)⟩, ⟨by refine blk_far ?_ NB101_106.out _; exact BK101.out⟩, ⟨by refine blk_far ?_ NB102_106.out _; exact BK102.out⟩, ⟨by refine blk_put (cs := #[.int .i64 0, u107001]) ?_ 1 _ rfl; exact BK106.out⟩, ⟨wB⟩⟩
def cmp_isNaN_int.f (a0 : Int) : Option (Bool) := some (a0 != a0)
theorem cmp_isNaN_int.calls (a0 : Int) (r : Bool) (w : World) (h : cmp_isNaN_int.f a0 = some r) :
  Calls Tryz.prog 80 #[.int .i64 a0] w fun e w' => e = .returned (.bool r) ∧ Drawn0 w w' := by
 have H : (some (a0 != a0)) = some r := h
 clear h
 obtain rfl := Option.some.inj H
 go_enter Tryz.func80, Tryz.ntmps80
 go_wp2
 go_ret
 exact ⟨by first | rfl | (simp; done) | (simp [*]; done), dS⟩
def cmp_Compare_int.f (a0 : Int) (a1 : Int) : Option (Int) := (cmp_isNaN_int.f a0).bind fun t101 => ((cmp_isNaN_int.f a1).bind fun t102 => (if t101 = true then (if t102 = true then (some 0) else (some (-1))) else (if t102 = true then (some 1) else (if a0 < a1 then (some (-1)) else (if a0 > a1 then (some 1) else (some 0))))))
theorem cmp_Compare_int.calls (a0 : Int) (a1 : Int) (r : Int) (w : World) (h : cmp_Compare_int.f a0 a1 = some r) :
  Calls Tryz.prog 48 #[.int .i64 a0, .int .i64 a1] w fun e w' => e = .returned (.int .i64 r) ∧ Drawn0 w w' := by
 have H := h
 unfold cmp_Compare_int.f at H
 clear h
 replace H := oA H
 obtain ⟨t101, A3, H⟩ := H
 (try dsimp only at H)
 replace H := oA H
 obtain ⟨t102, A4, H⟩ := H
 (try dsimp only at H)
 by_cases c5 : t101 = true
 ·subst c5
  replace H := iT H
  by_cases c6 : t102 = true
  ·subst c6
   replace H := iT H
   obtain rfl := Option.some.inj H
   go_enter Tryz.func48, Tryz.ntmps48
   go_wp2_with (first | ((with_reducible refine gate_callee (f := 80) rfl ?_); refine gL 8 Tryz.func80 #[.int .i64 a0] ?_; (with_reducible refine (cmp_isNaN_int.calls a0 true _ A3.out).mono ?_); rintro e w' ⟨rfl, ⟨nd, rfl⟩⟩; refine ⟨_, rfl, ?_⟩) | ((with_reducible refine gate_callee (f := 80) rfl ?_); refine gL 10 Tryz.func80 #[.int .i64 a1] ?_; (with_reducible refine (cmp_isNaN_int.calls a1 true _ A4.out).mono ?_); rintro e w' ⟨rfl, ⟨nd, rfl⟩⟩; refine ⟨_, rfl, ?_⟩))
   go_ret
   exact ⟨by first | rfl | (simp; done) | (simp [*]; done), dS⟩
  replace c6 := Bool.eq_false_iff.mpr c6
  subst c6
  replace H := iF H
  obtain rfl := Option.some.inj H
  go_enter Tryz.func48, Tryz.ntmps48
  go_wp2_with (first | ((with_reducible refine gate_callee (f := 80) rfl ?_); refine gL 8 Tryz.func80 #[.int .i64 a0] ?_; (with_reducible refine (cmp_isNaN_int.calls a0 true _ A3.out).mono ?_); rintro e w' ⟨rfl, ⟨nd, rfl⟩⟩; refine ⟨_, rfl, ?_⟩) | ((with_reducible refine gate_callee (f := 80) rfl ?_); refine gL 10 Tryz.func80 #[.int .i64 a1] ?_; (with_reducible refine (cmp_isNaN_int.calls a1 false _ A4.out).mono ?_); rintro e w' ⟨rfl, ⟨nd, rfl⟩⟩; refine ⟨_, rfl, ?_⟩))
  go_ret
  exact ⟨by first | rfl | (simp; done) | (simp [*]; done), dS⟩
 replace c5 := Bool.eq_false_iff.mpr c5
 subst c5
 replace H := iF H
 by_cases c7 : t102 = true
 ·subst c7
  replace H := iT H
  obtain rfl := Option.some.inj H
  go_enter Tryz.func48, Tryz.ntmps48
  go_wp2_with (first | ((with_reducible refine gate_callee (f := 80) rfl ?_); refine gL 8 Tryz.func80 #[.int .i64 a0] ?_; (with_reducible refine (cmp_isNaN_int.calls a0 false _ A3.out).mono ?_); rintro e w' ⟨rfl, ⟨nd, rfl⟩⟩; refine ⟨_, rfl, ?_⟩) | ((with_reducible refine gate_callee (f := 80) rfl ?_); refine gL 10 Tryz.func80 #[.int .i64 a1] ?_; (with_reducible refine (cmp_isNaN_int.calls a1 true _ A4.out).mono ?_); rintro e w' ⟨rfl, ⟨nd, rfl⟩⟩; refine ⟨_, rfl, ?_⟩))
  go_ret
  exact ⟨by first | rfl | (simp; done) | (simp [*]; done), dS⟩
 replace c7 := Bool.eq_false_iff.mpr c7
 subst c7
 replace H := iF H
 by_cases c8 : a0 < a1
 ·rw [if_pos c8] at H
  have c8b0 := decide_eq_true c8
  clear c8
  obtain rfl := Option.some.inj H
  go_enter Tryz.func48, Tryz.ntmps48
  go_wp2_with (first | ((with_reducible refine gate_callee (f := 80) rfl ?_); refine gL 8 Tryz.func80 #[.int .i64 a0] ?_; (with_reducible refine (cmp_isNaN_int.calls a0 false _ A3.out).mono ?_); rintro e w' ⟨rfl, ⟨nd, rfl⟩⟩; refine ⟨_, rfl, ?_⟩) | ((with_reducible refine gate_callee (f := 80) rfl ?_); refine gL 10 Tryz.func80 #[.int .i64 a1] ?_; (with_reducible refine (cmp_isNaN_int.calls a1 false _ A4.out).mono ?_); rintro e w' ⟨rfl, ⟨nd, rfl⟩⟩; refine ⟨_, rfl, ?_⟩))
  go_ret
  exact ⟨by first | rfl | (simp; done) | (simp [*]; done), dS⟩
 rw [if_neg c8] at H
 have c8b0 : decide (a0 < a1) = false := decide_eq_false c8
 clear c8
 by_cases c9 : a0 > a1
 ·rw [if_pos c9] at H
  have c9b0 : decide (a1 < a0) = true := decide_eq_true c9
  clear c9
  obtain rfl := Option.some.inj H
  go_enter Tryz.func48, Tryz.ntmps48
  go_wp2_with (first | ((with_reducible refine gate_callee (f := 80) rfl ?_); refine gL 8 Tryz.func80 #[.int .i64 a0] ?_; (with_reducible refine (cmp_isNaN_int.calls a0 false _ A3.out).mono ?_); rintro e w' ⟨rfl, ⟨nd, rfl⟩⟩; refine ⟨_, rfl, ?_⟩) | ((with_reducible refine gate_callee (f := 80) rfl ?_); refine gL 10 Tryz.func80 #[.int .i64 a1] ?_; (with_reducible refine (cmp_isNaN_int.calls a1 false _ A4.out).mono ?_); rintro e w' ⟨rfl, ⟨nd, rfl⟩⟩; refine ⟨_, rfl, ?_⟩))
  go_ret
  exact ⟨by first | rfl | (simp; done) | (simp [*]; done), dS⟩
 rw [if_neg c9] at H
 have c9b0 : decide (a1 < a0) = false := decide_eq_false c9
 clear c9
 obtain rfl := Option.some.inj H
 go_enter Tryz.func48, Tryz.ntmps48
 go_wp2_with (first | ((with_reducible refine gate_callee (f := 80) rfl ?_); refine gL 8 Tryz.func80 #[.int .i64 a0] ?_; (with_reducible refine (cmp_isNaN_int.calls a0 false _ A3.out).mono ?_); rintro e w' ⟨rfl, ⟨nd, rfl⟩⟩; refine ⟨_, rfl, ?_⟩) | ((with_reducible refine gate_callee (f := 80) rfl ?_); refine gL 10 Tryz.func80 #[.int .i64 a1] ?_; (with_reducible refine (cmp_isNaN_int.calls a1 false _ A4.out).mono ?_); rintro e w' ⟨rfl, ⟨nd, rfl⟩⟩; refine ⟨_, rfl, ?_⟩))
 go_ret
 exact ⟨by first | rfl | (simp; done) | (simp [*]; done), dS⟩
def slices_Clone_int_int.f (l0 : List Int) : Option (List Int) := (some (([] : List Int) : List Int)).bind fun y101 => (if y101.length + l0.length < 17592186044416 then (some (y101 ++ l0)) else (none))
theorem slices_Clone_int_int.calls (A0 : Option Addr) (c0 : Nat) (l0 : List Int) (r : List Int) (w : World) (hr0 : Kd.C (Kd.int .i64) w A0 l0.length l0) (hc0 : l0.length ≤ c0) (h : slices_Clone_int_int.f l0 = some r) :
  Calls Tryz.prog 45 #[.slice A0 l0.length c0] w fun e w' => ∃ v0_ : Value, e = .returned (v0_) ∧ Kd.R (Kd.int .i64) 3 w' w.heap.size (fun _ => True) v0_ r ∧ Below w.heap.size w w' := by
 cases A0 with
 | none =>
 have e0 : l0 = [] := by
  by_cases h0 : 0 < l0.length
  ·obtain ⟨ad, e, _⟩ := hr0.2.2 h0
   cases e
  exact List.length_eq_zero_iff.1 (by omega)
 subst e0
 obtain rfl : r = [] := by simpa [slices_Clone_int_int.f] using h.symm
 have hnil : ∀ W : World, (binOp .eql 22 (.slice none 0 c0) (.slice none 0 0)).run Tryz.prog W = .ok (.bool true) W := fun W => Lib.run_eql_slice_nil W 22 3 none 0 c0 0 0 Tryz.underlying22
 clear hr0 hc0 h
 simp only [List.length_nil]
 go_enter Tryz.func45, Tryz.ntmps45
 go_wp2
 go_ret
 exact ⟨.slice none 0 0, rfl, Kd.R_nil _ _ _ _ _, Below.refl _ _⟩
 | some ad0 =>
 have hnil : ∀ W : World, (binOp .eql 22 (.slice (some ad0) l0.length c0) (.slice none 0 0)).run Tryz.prog W = .ok (.bool false) W := fun W => Lib.run_eql_slice_nil W 22 3 (some ad0) l0.length c0 0 0 Tryz.underlying22
 have HR0 := Aside0.mk hr0
 have HC0 := Aside0.mk hc0
 clear hr0 hc0
 have HB := Aside0.mk (Below.refl w.heap.size w)
 have H := h
 unfold slices_Clone_int_int.f at H
 clear h
 obtain ⟨y101, hy101⟩ : ∃ y_ : List Int, y_ = (([] : List Int)) := ⟨_, rfl⟩
 replace H : (if y101.length + l0.length < 17592186044416 then (some (y101 ++ l0)) else (none)) = some r := by first | (rw [hy101]; with_reducible exact H) | (have H2_ := (Option.bind_some _ _).symm.trans H; rw [hy101]; with_reducible exact H2_) | (have H2_ := (Option.bind_some _ _).symm.trans H; with_reducible exact H2_) | with_reducible exact H | (rw [hy101]; exact H) | exact H
 have Ny101 := Aside0.mk hy101
 clear hy101
 by_cases c2 : y101.length + l0.length < 17592186044416
 rotate_left
 ·rw [if_neg c2] at H
  exact absurd H (by simp)
 rw [if_pos c2] at H
 have LMc2 := Aside0.mk c2
 clear c2
 obtain ⟨y104, hy104⟩ : ∃ y_ : List Int, y_ = (y101 ++ l0) := ⟨_, rfl⟩
 replace H : (some y104) = some r := by first | (rw [hy104]; with_reducible exact H) | (have H2_ := (Option.bind_some _ _).symm.trans H; rw [hy104]; with_reducible exact H2_) | (have H2_ := (Option.bind_some _ _).symm.trans H; with_reducible exact H2_) | with_reducible exact H | (rw [hy104]; exact H) | exact H
 have Ny104 := Aside0.mk hy104
 clear hy104
 obtain rfl := Option.some.inj H
 go_enter Tryz.func45, Tryz.ntmps45
 go_wp2_with (first | ((with_reducible refine gate_dst (N := 5) rfl ?_); refine Kd.R_lit (Kd.int .i64) _ 3 ?hg (N := 5) ?hd (xs := ([] : List Int)) (inner := []) (ok := fun _ => True) (okp := fun _ => True) ?hr ?hp (fun _ hk => hk) trivial (Below.refl _ _) (Nat.le_refl _) (by simp) ?_; (case hd => rfl); (case hg => rfl); (case hr => first | (go_simp; done) | (go_simp; rfl)); (case hp => exact (Reps.none _ _)); intro v102 w3 ho4 hb hg_ hnew_; clear hg_ hnew_; (first | rw [← Ny101.out] at ho4 | (simp only [Int.reduceToNat] at ho4; rw [← Ny101.out] at ho4)); have HO103 := Aside0.mk (Kd.R_lower ho4 (below_size HB.out)); replace HB := sB HB hb; clear hb ho4) | ((with_reducible refine gate_builtin (b := .append) (xs := #[.tmp 5, .tmp 6]) rfl ?_); at_builtin; refine Kd.R_append_rows (Kd.int .i64) (w0 := w) w.heap.size rfl (.tmp 5) (.tmp 6) 22 3 (.int .i64 0) 8 rfl Tryz.underlying22 info3 rfl (by decide) (by omega) v102 y101 l0 _ _ _ (fun _ => True) (fun _ => False) rfl rfl ?aO ?aR (fun _ _ h => h) (fun _ h => h.elim) ?aF ?aB ?aS ?aL ?_; (case aR => repeat (first | exact (Kd.C_below HR0.out HB.out) | (with_reducible refine Kd.C_alloc ?_ _) | (with_reducible refine Kd.C_drewN ?_ _) | (with_reducible refine Kd.C_drew ?_))); (case aB => exact HB.out); (case aF => exact (fun _ _ => trivial)); (case aO => exact HO103.out); (case aS => exact (below_size HB.out)); (case aL => have := LMc2.out; omega); intro v105 w5 ho hb hg hat; rw [← Ny104.out] at ho; have HO106 := Aside0.mk (ho); replace HB := Aside0.mk (hb); clear ho hb hg hat))
 go_ret
 exact ⟨_, fR, by exact HO106.out, wB⟩
def impl_SortCommittee.cf (x y : Int) : Int := if y < x then -1 else if x < y then 1 else 0
theorem impl_SortCommittee.lt (x y : Int) : Go.Proofs.ltOf impl_SortCommittee.cf x y = decide (y < x) := by
 unfold Go.Proofs.ltOf impl_SortCommittee.cf
 by_cases h1 : y < x
 ·simp [h1]
 by_cases h2 : x < y
 ·simp [h1, h2]
 simp [h1, h2]
theorem impl_SortCommittee.swo : Go.Sort.SWO (Go.Proofs.ltOf impl_SortCommittee.cf) where
 irrefl x := by simp [impl_SortCommittee.lt]
 trans x y z h1 h2 := by
  simp only [impl_SortCommittee.lt, decide_eq_true_eq] at *
  omega
 ntrans x y z h1 h2 := by
  simp only [impl_SortCommittee.lt, decide_eq_false_iff_not] at *
  omega
theorem impl_SortCommittee_1.clo (x y : Int) (W : World) : Calls Tryz.prog 47 #[.int .i64 x, .int .i64 y] W fun e W' => e = .returned (.int .i64 (impl_SortCommittee.cf x y)) ∧ ∃ q, W' = W.drewN q := by
 have hcf : cmp_Compare_int.f y x = some (impl_SortCommittee.cf x y) := by
  have h : ∀ z : Int, cmp_isNaN_int.f z = some false := fun z => by simp [cmp_isNaN_int.f]
  simp only [cmp_Compare_int.f, h, Option.bind_some, Bool.false_eq_true, if_false, impl_SortCommittee.cf]
  by_cases h1 : y < x
  ·rw [if_pos h1, if_pos h1]
  by_cases h2 : x < y
  ·rw [if_neg h1, if_pos h2, if_neg h1, if_pos h2]
  rw [if_neg h1, if_neg h2, if_neg h1, if_neg h2]
 have HC := Aside0.mk hcf
 clear hcf
 generalize impl_SortCommittee.cf x y = c at *
 go_enter Tryz.func47, Tryz.ntmps47
 go_wp2_with fail
 refine (cmp_Compare_int.calls y x c _ HC.out).mono ?_
 rintro e w' ⟨rfl, ⟨q, rfl⟩⟩
 go_wp2
 go_ret
 exact ⟨rfl, q, rfl⟩
def impl_SortCommittee.sortD (l : List Int) : List Int := l.mergeSort fun a b => decide (b ≤ a)
theorem impl_SortCommittee.sortD_of {xs ys : List Int} (hp : ys.Perm xs) (hs : ys.Pairwise fun a b => Go.Proofs.ltOf impl_SortCommittee.cf b a = false) : ys = impl_SortCommittee.sortD xs := by
 refine List.Perm.eq_of_pairwise (le := fun x y => decide (y ≤ x) = true) ?_ ?_ ?_ (hp.trans (List.mergeSort_perm _ _).symm)
 ·intro a b _ _ h1 h2
  simp only [decide_eq_true_eq] at h1 h2
  omega
 ·refine hs.imp (fun {a b} h => ?_)
  simp only [impl_SortCommittee.lt, decide_eq_false_iff_not] at h
  simp only [decide_eq_true_eq]
  omega
 refine List.pairwise_mergeSort (fun a b c h1 h2 => ?_) (fun a b => ?_) xs
 ·simp only [decide_eq_true_eq] at *
  omega
 simp only [Bool.or_eq_true, decide_eq_true_eq]
 omega
def impl_SortCommittee.f (k : Nat) (a0_0 : Int) (l0_1 : List Int) : Option (Int × List Int × Bool) := (impl_IsCommittee.f k a0_0 l0_1).bind fun t => if t = true then ((slices_Clone_int_int.f l0_1).bind fun c => if c.length < 4611686018427387904 then some (a0_0, impl_SortCommittee.sortD c, true) else none) else some (0, [], false)
def impl_SortCommittee.Inv (w W : World) (a : Int) (A : Option Addr) (n c : Nat) : Prop := Below w.heap.size w W ∧ W.heap[w.heap.size]? = some (.cells #[.int .i64 a, .slice A n c] 24 (0, 0)) ∧ W.heap[w.heap.size + 1]? = some (.cells #[.int .i64 0, .slice none 0 0] 24 (0, 0))
theorem impl_SortCommittee.Inv.next {w W W' : World} {a : Int} {A : Option Addr} {n c : Nat} (h : impl_SortCommittee.Inv w W a A n c) (hb : Below W.heap.size W W') : impl_SortCommittee.Inv w W' a A n c ∧ W'.cell? ⟨w.heap.size, 0, none⟩ = some (.int .i64 a) ∧ W'.cell? ⟨w.heap.size, 1, none⟩ = some (.slice A n c) :=
 ⟨⟨h.1.trans (hb.mono h.1.size), blk_below h.2.1 hb, blk_below h.2.2 hb⟩, (blk_cell (blk_below h.2.1 hb) 0).trans rfl, (blk_cell (blk_below h.2.1 hb) 1).trans rfl⟩
theorem impl_SortCommittee.Inv.set {w W : World} {a : Int} {A : Option Addr} {n c b : Nat} (h : impl_SortCommittee.Inv w W a A n c) (hb : w.heap.size + 2 ≤ b) (j : Nat) (u : Value) : impl_SortCommittee.Inv w (W.setCell ⟨b, j, none⟩ u) a A n c ∧ (W.setCell ⟨b, j, none⟩ u).cell? ⟨w.heap.size, 0, none⟩ = some (.int .i64 a) ∧ (W.setCell ⟨b, j, none⟩ u).cell? ⟨w.heap.size, 1, none⟩ = some (.slice A n c) := by
 have h1 := (Below.heap_setCell W ⟨b, j, none⟩ u w.heap.size (by show w.heap.size ≠ b; omega)).trans h.2.1
 have h2 := (Below.heap_setCell W ⟨b, j, none⟩ u (w.heap.size + 1) (by show w.heap.size + 1 ≠ b; omega)).trans h.2.2
 exact ⟨⟨below_set h.1 (by omega), h1, h2⟩, (blk_cell h1 0).trans rfl, (blk_cell h1 1).trans rfl⟩
theorem impl_SortCommittee.calls (k : Nat) (a0_0 : Int) (A0_1 : Option Addr) (c0_1 : Nat) (l0_1 : List Int) (r1 : Int) (r2 : List Int) (r3 : Bool) (w : World) (hr0_1 : Kd.C (Kd.int .i64) w A0_1 l0_1.length l0_1) (hc0_1 : l0_1.length ≤ c0_1) (h : impl_SortCommittee.f k a0_0 l0_1 = some (r1, r2, r3)) :
  Calls Tryz.prog 9 #[.agg #[.int .i64 a0_0, .slice A0_1 l0_1.length c0_1]] w fun e w' => ∃ v1_ : Value, e = .returned (.tuple #[.agg #[.int .i64 r1, v1_], .bool r3]) ∧ Kd.R (Kd.int .i64) 3 w' w.heap.size (fun _ => True) v1_ r2 ∧ Below w.heap.size w w' := by
 have eg : ∀ args w, (callFunc 47 args).run Tryz.prog w = .ok (.enter 47 args) w := enters_of Tryz.func47 (by kernel_rfl) rfl
 have huC := Tryz.underlying24
 obtain ⟨t, ht, h2⟩ := oB h
 have HB1 := Aside0.mk (show Below w.heap.size w ((w.alloc (.cells #[.int .i64 a0_0, .slice A0_1 l0_1.length c0_1] 24)).alloc (.cells #[.int .i64 0, .slice none 0 0] 24)) from ((Below.refl _ _).alloc (Nat.le_refl _) _).alloc (by simp) _)
 have BK1 := Aside0.mk (blk_alloc (blk_new w (.cells #[.int .i64 a0_0, .slice A0_1 l0_1.length c0_1] 24)) (.cells #[.int .i64 0, .slice none 0 0] 24))
 have hkn := blk_new (w.alloc (.cells #[.int .i64 a0_0, .slice A0_1 l0_1.length c0_1] 24)) (.cells #[.int .i64 0, .slice none 0 0] 24)
 have hsz : (w.alloc (.cells #[.int .i64 a0_0, .slice A0_1 l0_1.length c0_1] 24)).heap.size = w.heap.size + 1 := by simp
 rw [hsz] at hkn
 have BN1 := Aside0.mk hkn
 have HR := Aside0.mk hr0_1
 have HC := Aside0.mk hc0_1
 have HT := Aside0.mk ht
 clear hr0_1 hc0_1 h ht hkn hsz
 cases t with
 | false =>
  rw [if_neg (by decide)] at h2
  simp only [Option.some.injEq, Prod.mk.injEq] at h2
  obtain ⟨rfl, rfl, rfl⟩ := h2
  go_enter Tryz.func9, Tryz.ntmps9
  go_wp2_with fail
  refine (impl_IsCommittee.calls k a0_0 A0_1 c0_1 l0_1 false _ (Kd.C_below HR.out HB1.out) HC.out HT.out).mono ?_
  rintro e w1 ⟨rfl, hb⟩
  have BN2 := bB BN1 hb
  have HB2 := Aside0.mk (HB1.out.trans (hb.mono HB1.out.size))
  have hn0 := (blk_cell BN2.out 0).trans rfl
  have hn1 := (blk_cell BN2.out 1).trans rfl
  have hf0 := blk_frozen BN2.out 0
  have hf1 := blk_frozen BN2.out 1
  clear hb
  go_wp2
  refine bodyPost_ret (results_ct rfl _ _ (w.heap.size + 1) 24 #[.int .i64 0, .slice none 0 0] (0, 0) _ rfl (by refine blk_put (cs := #[.int .i64 0, .slice none 0 0]) ?_ 1 _ rfl; refine blk_put (cs := #[.int .i64 0, .slice none 0 0]) ?_ 0 _ rfl; exact BN2.out) Tryz.underlying24 rfl (by kernel_rfl)) rfl ?_
  exact ⟨_, rfl, Kd.R_nil _ _ _ _ _, below_set (below_set HB2.out (Nat.le_succ _)) (Nat.le_succ _)⟩
 | true =>
  rw [if_pos rfl] at h2
  obtain ⟨c, hcl, h3⟩ := oB h2
  by_cases hlen : c.length < 4611686018427387904
  case neg => rw [if_neg hlen] at h3; cases h3
  rw [if_pos hlen] at h3
  simp only [Option.some.injEq, Prod.mk.injEq] at h3
  obtain ⟨rfl, rfl, rfl⟩ := h3
  have HCL := Aside0.mk hcl
  have HLEN := Aside0.mk hlen
  clear h2 hcl hlen
  go_enter Tryz.func9, Tryz.ntmps9
  go_wp2_with fail
  refine (impl_IsCommittee.calls k a0_0 A0_1 c0_1 l0_1 true _ (Kd.C_below HR.out HB1.out) HC.out HT.out).mono ?_
  rintro e w1 ⟨rfl, hb⟩
  have BN2 := Aside0.mk (blk_drew (blk_below BN1.out hb))
  have BK2 := Aside0.mk (blk_drew (blk_below BK1.out hb))
  have HB2 := Aside0.mk (below_drew1 (HB1.out.trans (hb.mono HB1.out.size)))
  clear hb
  have D0 : w1.drew.cell? ⟨w.heap.size, 0, none⟩ = some (.int .i64 a0_0) := (blk_cell BK2.out 0).trans rfl
  have D1 : w1.drew.cell? ⟨w.heap.size, 1, none⟩ = some (.slice A0_1 l0_1.length c0_1) := (blk_cell BK2.out 1).trans rfl
  have HD0 := Aside0.mk D0
  have HD1 := Aside0.mk D1
  clear D0 D1
  go_wp2
  have HN2 := Aside0.mk (show w.heap.size + 2 ≤ w1.heap.size from blk_lt BN2.out)
  go_region_held3 (fun W => impl_SortCommittee.Inv w W a0_0 A0_1 l0_1.length c0_1 ∧ W.cell? ⟨w.heap.size, 0, none⟩ = some (.int .i64 a0_0) ∧ W.cell? ⟨w.heap.size, 1, none⟩ = some (.slice A0_1 l0_1.length c0_1))
   (first | exact ⟨⟨HB2.out, BK2.out, BN2.out⟩, HD0.out, HD1.out⟩ | exact impl_SortCommittee.Inv.next ⟨HB2.out, BK2.out, BN2.out⟩ hb | exact impl_SortCommittee.Inv.next ⟨HB2.out, BK2.out, BN2.out⟩ (below_alloc (Below.refl _ _) _) | exact impl_SortCommittee.Inv.next (impl_SortCommittee.Inv.next ⟨HB2.out, BK2.out, BN2.out⟩ hb).1 (below_alloc (Below.refl _ _) _) | exact impl_SortCommittee.Inv.next (impl_SortCommittee.Inv.next ⟨HB2.out, BK2.out, BN2.out⟩ (below_alloc (Below.refl _ _) _)).1 hb | exact impl_SortCommittee.Inv.set (impl_SortCommittee.Inv.set (impl_SortCommittee.Inv.next (impl_SortCommittee.Inv.next ⟨HB2.out, BK2.out, BN2.out⟩ (below_alloc (Below.refl _ _) _)).1 hb).1 HN2.out _ _).1 HN2.out _ _)
   (first
    | (refine (slices_Clone_int_int.calls A0_1 c0_1 l0_1 c w1.drew (Kd.C_below HR.out HB2.out) HC.out HCL.out).mono ?_; rintro e w2 ⟨v_, rfl, hR, hb⟩; obtain ⟨A1_, c1_, rfl⟩ := Kd.R_slice hR)
    | (refine (slices_Clone_int_int.calls A0_1 c0_1 l0_1 c _ (Kd.C_below HR.out (below_alloc HB2.out _)) HC.out HCL.out).mono ?_; rintro e w2 ⟨v_, rfl, hR, hb⟩; obtain ⟨A1_, c1_, rfl⟩ := Kd.R_slice hR; have BN4 : w2.heap[w1.heap.size]? = some (.cells #[.int .i64 0, .slice none 0 0] 24 (0, 0)) := blk_below (blk_new w1.drew _) hb; have h40 : w2.cell? ⟨w1.heap.size, 0, none⟩ = some (.int .i64 0) := (blk_cell BN4 0).trans rfl; have h41 : w2.cell? ⟨w1.heap.size, 1, none⟩ = some (.slice none 0 0) := (blk_cell BN4 1).trans rfl; have f40 := blk_frozen BN4 0; have f41 := blk_frozen BN4 1))
  ·have H4 := blk_new w2 (.cells #[.int .i64 a0_0, .slice A1_ c.length c1_] 24)
   have HN4 : w.heap.size + 2 ≤ w2.heap.size := Nat.le_trans HN2.out hb.size
   have HR4 := Kd.R_lower (Kd.R_alloc hR (.cells #[.int .i64 a0_0, .slice A1_ c.length c1_] 24)) HB2.out.size
   have HI := (impl_SortCommittee.Inv.next (impl_SortCommittee.Inv.next ⟨HB2.out, BK2.out, BN2.out⟩ hb).1 (below_alloc (Below.refl _ _) (.cells #[.int .i64 a0_0, .slice A1_ c.length c1_] 24))).1
   generalize w2.alloc (.cells #[.int .i64 a0_0, .slice A1_ c.length c1_] 24) = W4 at *
   generalize w2.heap.size = b4 at *
   clear hR hb
   have hS := Kd.S_bare (Kd.R_imp (d' := Kd.bare (Kd.int .i64)) rfl (fun _ _ _ _ _ h => h) HR4)
   have HN4 := Aside0.mk HN4
   have HI := Aside0.mk HI
   have hn4 := (blk_cell H4 1).trans rfl
   have H4 := Aside0.mk H4
   refine ‹∀ (a : Act) (w : World), Code.wp _ _ _ a w → _› _ _ ?_
   go_wp2_with fail
   have hs := Go.Proofs.YtaambkdiokbdgabGreatS.sort_rows Go.Proofs.YtaambkdiokbdgabGreatL.sortLI (Kd.int .i64) rfl impl_SortCommittee.cf impl_SortCommittee.swo 47 eg hS HLEN.out (fun W x y u v _ _ ha hb => by
    obtain rfl := (List.cons.inj ha).1
    obtain rfl := (List.cons.inj hb).1
    exact impl_SortCommittee_1.clo x y W)
   change Calls Tryz.prog 46 _ _ _ at hs
   refine hs.mono ?_
   rintro e w5 ⟨rfl, ys, hperm, hsd, hS5, hg⟩
   obtain rfl := impl_SortCommittee.sortD_of hperm hsd
   have H5 := Aside0.mk ((hg.block b4 (blk_lt H4.out) (Kd.S_ne hS H4.out (by decide))).trans H4.out)
   have BN5 := Aside0.mk ((hg.block (w.heap.size + 1) (blk_lt HI.out.2.2) (Kd.S_ne hS HI.out.2.2 (by decide))).trans HI.out.2.2)
   have HB5 := Aside0.mk (HI.out.1.grown hg HI.out.1.size (fun k_ hk_ => Kd.S_base hS k_ hk_))
   have HS5 := Aside0.mk (Kd.S_R hS5)
   clear hs hS hS5 hg hperm hsd hn4
   have hm0 := (blk_cell H5.out 0).trans rfl
   have hm1 := (blk_cell H5.out 1).trans rfl
   have hn0 := (blk_cell BN5.out 0).trans rfl
   have hn1 := (blk_cell BN5.out 1).trans rfl
   have hf0 := blk_frozen BN5.out 0
   have hf1 := blk_frozen BN5.out 1
   go_wp2
   have B6 := blk_put (cs := #[.int .i64 0, .slice none 0 0]) BN5.out 0 (.int .i64 a0_0) rfl
   refine bodyPost_ret (results_ct rfl _ _ (w.heap.size + 1) 24 #[.int .i64 a0_0, .slice A1_ c.length c1_] (0, 0) _ rfl (blk_put (cs := #[.int .i64 a0_0, .slice none 0 0]) B6 1 _ rfl) Tryz.underlying24 rfl (by kernel_rfl)) rfl ?_
   exact ⟨_, rfl, Kd.R_set (Kd.R_set HS5.out BN5.out (by intro q hq; cases hq with | head => decide | tail _ hq => cases hq) 0 (.int .i64 a0_0)) B6 (by intro q hq; cases hq with | head => decide | tail _ hq => cases hq) 1 (.slice A1_ c.length c1_), below_set (below_set HB5.out (Nat.le_succ _)) (Nat.le_succ _)⟩
  have H3 : (w2.setCell ⟨w1.heap.size, 0, none⟩ (.int .i64 a0_0)).heap[w1.heap.size]? = some (.cells #[.int .i64 a0_0, .slice none 0 0] 24 (0, 0)) := blk_put (cs := #[.int .i64 0, .slice none 0 0]) BN4 0 _ rfl
  have H4 : ((w2.setCell ⟨w1.heap.size, 0, none⟩ (.int .i64 a0_0)).setCell ⟨w1.heap.size, 1, none⟩ (.slice A1_ c.length c1_)).heap[w1.heap.size]? = some (.cells #[.int .i64 a0_0, .slice A1_ c.length c1_] 24 (0, 0)) := blk_put (cs := #[.int .i64 a0_0, .slice none 0 0]) H3 1 _ rfl
  have HN4 := HN2.out
  have HR4 := Kd.R_lower (base' := w.heap.size) (Kd.R_set (Kd.R_set hR BN4 (by intro q hq; cases hq with | head => decide | tail _ hq => cases hq) 0 (.int .i64 a0_0)) H3 (by intro q hq; cases hq with | head => decide | tail _ hq => cases hq) 1 (.slice A1_ c.length c1_)) (Nat.le_trans HB2.out.size (by simp))
  have HI := (impl_SortCommittee.Inv.set (impl_SortCommittee.Inv.set (impl_SortCommittee.Inv.next (impl_SortCommittee.Inv.next ⟨HB2.out, BK2.out, BN2.out⟩ (below_alloc (Below.refl _ _) _)).1 hb).1 HN2.out 0 (.int .i64 a0_0)).1 HN2.out 1 (.slice A1_ c.length c1_)).1
  generalize (w2.setCell ⟨w1.heap.size, 0, none⟩ (.int .i64 a0_0)).setCell ⟨w1.heap.size, 1, none⟩ (.slice A1_ c.length c1_) = W4 at *
  generalize w1.heap.size = b4 at *
  clear hR hb
  have hS := Kd.S_bare (Kd.R_imp (d' := Kd.bare (Kd.int .i64)) rfl (fun _ _ _ _ _ h => h) HR4)
  have HN4 := Aside0.mk HN4
  have HI := Aside0.mk HI
  have hn4 := (blk_cell H4 1).trans rfl
  have H4 := Aside0.mk H4
  refine ‹∀ (a : Act) (w : World), Code.wp _ _ _ a w → _› _ _ ?_
  go_wp2_with fail
  have hs := Go.Proofs.YtaambkdiokbdgabGreatS.sort_rows Go.Proofs.YtaambkdiokbdgabGreatL.sortLI (Kd.int .i64) rfl impl_SortCommittee.cf impl_SortCommittee.swo 47 eg hS HLEN.out (fun W x y u v _ _ ha hb => by
   obtain rfl := (List.cons.inj ha).1
   obtain rfl := (List.cons.inj hb).1
   exact impl_SortCommittee_1.clo x y W)
  change Calls Tryz.prog 46 _ _ _ at hs
  refine hs.mono ?_
  rintro e w5 ⟨rfl, ys, hperm, hsd, hS5, hg⟩
  obtain rfl := impl_SortCommittee.sortD_of hperm hsd
  have H5 := Aside0.mk ((hg.block b4 (blk_lt H4.out) (Kd.S_ne hS H4.out (by decide))).trans H4.out)
  have BN5 := Aside0.mk ((hg.block (w.heap.size + 1) (blk_lt HI.out.2.2) (Kd.S_ne hS HI.out.2.2 (by decide))).trans HI.out.2.2)
  have HB5 := Aside0.mk (HI.out.1.grown hg HI.out.1.size (fun k_ hk_ => Kd.S_base hS k_ hk_))
  have HS5 := Aside0.mk (Kd.S_R hS5)
  clear hs hS hS5 hg hperm hsd hn4
  have hm0 := (blk_cell H5.out 0).trans rfl
  have hm1 := (blk_cell H5.out 1).trans rfl
  have hn0 := (blk_cell BN5.out 0).trans rfl
  have hn1 := (blk_cell BN5.out 1).trans rfl
  have hf0 := blk_frozen BN5.out 0
  have hf1 := blk_frozen BN5.out 1
  go_wp2
  have B6 := blk_put (cs := #[.int .i64 0, .slice none 0 0]) BN5.out 0 (.int .i64 a0_0) rfl
  refine bodyPost_ret (results_ct rfl _ _ (w.heap.size + 1) 24 #[.int .i64 a0_0, .slice A1_ c.length c1_] (0, 0) _ rfl (blk_put (cs := #[.int .i64 a0_0, .slice none 0 0]) B6 1 _ rfl) Tryz.underlying24 rfl (by kernel_rfl)) rfl ?_
  exact ⟨_, rfl, Kd.R_set (Kd.R_set HS5.out BN5.out (by intro q hq; cases hq with | head => decide | tail _ hq => cases hq) 0 (.int .i64 a0_0)) B6 (by intro q hq; cases hq with | head => decide | tail _ hq => cases hq) 1 (.slice A1_ c.length c1_), below_set (below_set HB5.out (Nat.le_succ _)) (Nat.le_succ _)⟩
def spec_l1Own.f (l0 : List Int) : Option (List Int) := (some (([] : List Int) : List Int)).bind fun y101 => (if y101.length + l0.length < 17592186044416 then (some (y101 ++ l0)) else (none))
theorem spec_l1Own.calls (A0 : Option Addr) (c0 : Nat) (l0 : List Int) (r : List Int) (w : World) (hr0 : Kd.C (Kd.int .i64) w A0 l0.length l0) (hc0 : l0.length ≤ c0) (h : spec_l1Own.f l0 = some r) :
  Calls Tryz.prog 49 #[.slice A0 l0.length c0] w fun e w' => ∃ v0_ : Value, e = .returned (v0_) ∧ Kd.R (Kd.int .i64) 3 w' w.heap.size (fun _ => True) v0_ r ∧ Below w.heap.size w w' := by
 have HR0 := Aside0.mk hr0
 have HC0 := Aside0.mk hc0
 clear hr0 hc0
 have HB := Aside0.mk (Below.refl w.heap.size w)
 have H := h
 unfold spec_l1Own.f at H
 clear h
 obtain ⟨y101, hy101⟩ : ∃ y_ : List Int, y_ = (([] : List Int)) := ⟨_, rfl⟩
 replace H : (if y101.length + l0.length < 17592186044416 then (some (y101 ++ l0)) else (none)) = some r := by first | (rw [hy101]; with_reducible exact H) | (have H2_ := (Option.bind_some _ _).symm.trans H; rw [hy101]; with_reducible exact H2_) | (have H2_ := (Option.bind_some _ _).symm.trans H; with_reducible exact H2_) | with_reducible exact H | (rw [hy101]; exact H) | exact H
 have Ny101 := Aside0.mk hy101
 clear hy101
 by_cases c2 : y101.length + l0.length < 17592186044416
 rotate_left
 ·rw [if_neg c2] at H
  exact absurd H (by simp)
 rw [if_pos c2] at H
 have LMc2 := Aside0.mk c2
 clear c2
 obtain ⟨y104, hy104⟩ : ∃ y_ : List Int, y_ = (y101 ++ l0) := ⟨_, rfl⟩
 replace H : (some y104) = some r := by first | (rw [hy104]; with_reducible exact H) | (have H2_ := (Option.bind_some _ _).symm.trans H; rw [hy104]; with_reducible exact H2_) | (have H2_ := (Option.bind_some _ _).symm.trans H; with_reducible exact H2_) | with_reducible exact H | (rw [hy104]; exact H) | exact H
 have Ny104 := Aside0.mk hy104
 clear hy104
 obtain rfl := Option.some.inj H
 go_enter Tryz.func49, Tryz.ntmps49
 go_wp2_with (first | ((with_reducible refine gate_dst (N := 3) rfl ?_); refine Kd.R_lit (Kd.int .i64) _ 3 ?hg (N := 3) ?hd (xs := ([] : List Int)) (inner := []) (ok := fun _ => True) (okp := fun _ => True) ?hr ?hp (fun _ hk => hk) trivial (Below.refl _ _) (Nat.le_refl _) (by simp) ?_; (case hd => rfl); (case hg => rfl); (case hr => first | (go_simp; done) | (go_simp; rfl)); (case hp => exact (Reps.none _ _)); intro v102 w3 ho4 hb hg_ hnew_; clear hg_ hnew_; (first | rw [← Ny101.out] at ho4 | (simp only [Int.reduceToNat] at ho4; rw [← Ny101.out] at ho4)); have HO103 := Aside0.mk (Kd.R_lower ho4 (below_size HB.out)); replace HB := sB HB hb; clear hb ho4) | ((with_reducible refine gate_builtin (b := .append) (xs := #[.tmp 3, .tmp 4]) rfl ?_); at_builtin; refine Kd.R_append_rows (Kd.int .i64) (w0 := w) w.heap.size rfl (.tmp 3) (.tmp 4) 22 3 (.int .i64 0) 8 rfl Tryz.underlying22 info3 rfl (by decide) (by omega) v102 y101 l0 _ _ _ (fun _ => True) (fun _ => False) rfl rfl ?aO ?aR (fun _ _ h => h) (fun _ h => h.elim) ?aF ?aB ?aS ?aL ?_; (case aR => repeat (first | exact (Kd.C_below HR0.out HB.out) | (with_reducible refine Kd.C_alloc ?_ _) | (with_reducible refine Kd.C_drewN ?_ _) | (with_reducible refine Kd.C_drew ?_))); (case aB => exact HB.out); (case aF => exact (fun _ _ => trivial)); (case aO => exact HO103.out); (case aS => exact (below_size HB.out)); (case aL => have := LMc2.out; omega); intro v105 w5 ho hb hg hat; rw [← Ny104.out] at ho; have HO106 := Aside0.mk (ho); replace HB := Aside0.mk (hb); clear ho hb hg hat))
 go_ret
 exact ⟨_, fR, by exact HO106.out, wB⟩
mutual
def spec_SortCommittee.l0 : Nat → List Int → Int → Int → Int → List Int → Option (Int × List Int × Bool)
 | 0, _, _, _, _, _ => none
 | k + 1, x17, x18, x19, x105000, x105001 => if x19 < x18 then (if 0 ≤ x19 then (if x19 < (x17.length : Int) then (spec_SortCommittee.l1 k (rd x17 x19) 0 x17 x18 x19 x105000 x105001) else (none)) else (none)) else (some (x105000, x105001, true))
def spec_SortCommittee.l1 : Nat → Int → Int → List Int → Int → Int → Int → List Int → Option (Int × List Int × Bool)
 | 0, _, _, _, _, _, _, _ => none
 | k + 1, x6, x7, x17, x18, x19, x105000, x105001 => if x7 < (x105001.length : Int) then (if 0 ≤ x7 then (if (rd x105001 x7) ≥ x6 then (spec_SortCommittee.l1 k x6 (wrap64 (x7 + 1)) x17 x18 x19 x105000 x105001) else (if x7 ≤ (x105001.length : Int) then ((spec_l1Own.f (x105001.take (x7 : Int).toNat)).bind fun t111 => (if t111.length < 17592186044416 then ((some (t111 ++ [x6] : List Int)).bind fun y114 => ((some (x105001.drop (x7 : Int).toNat : List Int)).bind fun y117 => (if y114.length + y117.length < 17592186044416 then (spec_SortCommittee.l0 k x17 x18 (wrap64 (x19 + 1)) x105000 (y114 ++ y117)) else (none)))) else (none))) else (none))) else (none)) else (if 0 ≤ x7 then (if x7 ≤ (x105001.length : Int) then ((spec_l1Own.f (x105001.take (x7 : Int).toNat)).bind fun t128 => (if t128.length < 17592186044416 then ((some (t128 ++ [x6] : List Int)).bind fun y131 => ((some (x105001.drop (x7 : Int).toNat : List Int)).bind fun y134 => (if y131.length + y134.length < 17592186044416 then (spec_SortCommittee.l0 k x17 x18 (wrap64 (x19 + 1)) x105000 (y131 ++ y134)) else (none)))) else (none))) else (none)) else (none))
end
def spec_SortCommittee.f (k : Nat) (a0_0 : Int) (l0_1 : List Int) : Option (Int × List Int × Bool) := (spec_voGood.f k a0_0 l0_1).bind fun t103 => (if t103 = true then (spec_SortCommittee.l0 k l0_1 (l0_1.length : Int) 0 a0_0 ([] : List Int)) else (some (0, ([] : List Int), false)))
theorem spec_SortCommittee.calls (k : Nat) (a0_0 : Int) (A0_1 : Option Addr) (c0_1 : Nat) (l0_1 : List Int) (r1 : Int) (r2 : List Int) (r3 : Bool) (w : World) (hr0_1 : Kd.C (Kd.int .i64) w A0_1 l0_1.length l0_1) (hc0_1 : l0_1.length ≤ c0_1) (h : spec_SortCommittee.f k a0_0 l0_1 = some (r1, r2, r3)) :
  Calls Tryz.prog 10 #[.agg #[.int .i64 a0_0, .slice A0_1 l0_1.length c0_1]] w fun e w' => ∃ v1_ : Value, e = .returned (.tuple #[.agg #[.int .i64 r1, v1_], .bool r3]) ∧ Kd.R (Kd.int .i64) 3 w' w.heap.size (fun _ => True) v1_ r2 ∧ Below w.heap.size w w' := by
 have hu24 := Tryz.underlying24
 have HR0_1 := Aside0.mk hr0_1
 have HC0_1 := Aside0.mk hc0_1
 clear hr0_1 hc0_1
 have HB := Aside0.mk (Below.refl w.heap.size w)
 have H := h
 unfold spec_SortCommittee.f at H
 clear h
 replace H := oA H
 obtain ⟨t103, A2, H⟩ := H
 (try dsimp only at H)
 by_cases c3 : t103 = true
 rotate_left
 ·replace c3 := Bool.eq_false_iff.mpr c3
  subst c3
  replace H := iF H
  simp only [Option.some.injEq, Prod.mk.injEq] at H
  obtain ⟨rfl, rfl, rfl⟩ := H
  go_enter Tryz.func10, Tryz.ntmps10
  go_wp2_with (first | ((with_reducible refine gate_dst (N := 1) rfl ?_); refine xE (N := 1) (cs := #[.int .i64 a0_0, .slice A0_1 l0_1.length c0_1]) (t := 24) ?_; intro gb101 hg w69 BK101 hb; have GW101 := gS hg HB; have GE101 := gS hg HB; replace HB := sB HB hb; clear hb hg) | ((with_reducible refine gate_dst (N := 2) rfl ?_); refine xE (N := 2) (cs := #[.int .i64 0, .slice none 0 0]) (t := 24) ?_; intro gb102 hg w70 BK102 hb; have GW102 := gS hg HB; have GE102 := gS hg HB; have NB101_102 := nL hg (blk_lt BK101.out); have NB102_101 := nG hg (blk_lt BK101.out); replace BK101 := bB BK101 hb; replace HB := sB HB hb; clear hb hg; have hnb71 := NB101_102.out; have hnc71 := NB102_101.out; (try clear hcz65_0 hcz65_1 hfz65_0 hfz65_1 hcz67_0 hcz67_1 hfz67_0 hfz67_1); obtain ⟨hcz72_0, hcz72_1, hfz72_0, hfz72_1⟩ := zZ BK101) | ((with_reducible refine gate_callee (f := 37) rfl ?_); refine gL 10 Tryz.func37 #[.agg #[.int .i64 a0_0, .slice A0_1 l0_1.length c0_1]] ?_; (with_reducible refine (spec_voGood.calls k a0_0 _ _ l0_1 false _ (Kd.C_below HR0_1.out HB.out) HC0_1.out A2.out).mono ?_); rintro e w73 ⟨rfl, hb⟩; refine ⟨_, rfl, ?_⟩; replace BK101 := bB BK101 hb; replace BK102 := bB BK102 hb; replace HB := sB HB hb; (try clear hb); (try clear hcz72_0 hcz72_1 hfz72_0 hfz72_1); obtain ⟨hcz74_0, hcz74_1, hfz74_0, hfz74_1⟩ := zZ BK102))
  refine bodyPost_ret (results_ct rfl _ _ gb102 24 #[.int .i64 0, .slice none 0 0] (0, 0) _ rfl (by refine blk_put (cs := #[.int .i64 0, .slice none 0 0]) ?_ 1 _ rfl; refine blk_put (cs := #[.int .i64 0, .slice none 0 0]) ?_ 0 _ rfl; exact BK102.out) Tryz.underlying24 rfl (by kernel_rfl)) rfl ?_
  exact ⟨_, fR, by first | exact Kd.R_nil _ _ _ _ _ | exact Kd.N_nil _ _ _ _ _ | exact Kd.V_nil _ _ _ _ _ | exact Kd.Q_nil _ _ _ _ _ | exact Kd.S_nil _ _ _ _ _, wB⟩
 subst c3
 replace H := iT H
 have H' := Aside0.mk H
 clear H
 go_enter Tryz.func10, Tryz.ntmps10
 go_wp2_with (first | ((with_reducible refine gate_dst (N := 1) rfl ?_); refine xE (N := 1) (cs := #[.int .i64 a0_0, .slice A0_1 l0_1.length c0_1]) (t := 24) ?_; intro gb101 hg w4 BK101 hb; have GW101 := gS hg HB; have GE101 := gS hg HB; replace HB := sB HB hb; clear hb hg) | ((with_reducible refine gate_dst (N := 2) rfl ?_); refine xE (N := 2) (cs := #[.int .i64 0, .slice none 0 0]) (t := 24) ?_; intro gb102 hg w5 BK102 hb; have GW102 := gS hg HB; have GE102 := gS hg HB; have NB101_102 := nL hg (blk_lt BK101.out); have NB102_101 := nG hg (blk_lt BK101.out); replace BK101 := bB BK101 hb; replace HB := sB HB hb; clear hb hg; have hnb6 := NB101_102.out; have hnc6 := NB102_101.out; obtain ⟨hcz7_0, hcz7_1, hfz7_0, hfz7_1⟩ := zZ BK101) | ((with_reducible refine gate_callee (f := 37) rfl ?_); refine gL 10 Tryz.func37 #[.agg #[.int .i64 a0_0, .slice A0_1 l0_1.length c0_1]] ?_; (with_reducible refine (spec_voGood.calls k a0_0 _ _ l0_1 true _ (Kd.C_below HR0_1.out HB.out) HC0_1.out A2.out).mono ?_); rintro e w8 ⟨rfl, hb⟩; refine ⟨_, rfl, ?_⟩; replace BK101 := bB BK101 hb; replace BK102 := bB BK102 hb; replace HB := sB HB hb; (try clear hb); (try clear hcz7_0 hcz7_1 hfz7_0 hfz7_1); obtain ⟨hcz9_0, hcz9_1, hfz9_0, hfz9_1⟩ := zZ BK101) | ((with_reducible refine gate_dst (N := 4) rfl ?_); refine xE (N := 4) (cs := #[.int .i64 0, .slice none 0 0]) (t := 24) ?_; intro gb104 hg w10 BK104 hb; have GW104 := gS hg HB; have GE104 := gS hg HB; have NB101_104 := nL hg (blk_lt BK101.out); have NB104_101 := nG hg (blk_lt BK101.out); have NB102_104 := nL hg (blk_lt BK102.out); have NB104_102 := nG hg (blk_lt BK102.out); replace BK101 := bB BK101 hb; replace BK102 := bB BK102 hb; replace HB := sB HB hb; clear hb hg; have hnb11 := NB104_101.out; have hnc11 := NB101_104.out; have hnb12 := NB104_102.out; have hnc12 := NB102_104.out; (try clear hcz9_0 hcz9_1 hfz9_0 hfz9_1); obtain ⟨hcz13_0, hcz13_1, hfz13_0, hfz13_1⟩ := zZ BK104; obtain ⟨hcz14_0, hcz14_1, hfz14_0, hfz14_1⟩ := zZ BK101))
 go_loopg [19] k (fun kq v19 w' => ∃ (x19_1 : Int) (x105001_1 : List Int) (u105001 : Value), v19 = .int .i64 x19_1 ∧ Aside0 (spec_SortCommittee.l0 kq l0_1 (l0_1.length : Int) x19_1 a0_0 x105001_1 = some (r1, r2, r3)) ∧ Aside0 (kq ≤ k) ∧ Aside0 (Kd.R (Kd.int .i64) 3 w' w.heap.size (fun _ => True) u105001 x105001_1) ∧ Aside0 (w'.heap[gb101]? = some (.cells #[.int .i64 a0_0, (.slice A0_1 l0_1.length c0_1)] 24 (0, 0))) ∧ Aside0 (w'.heap[gb102]? = some (.cells #[.int .i64 0, (.slice none 0 0)] 24 (0, 0))) ∧ Aside0 (w'.heap[gb104]? = some (.cells #[.int .i64 a0_0, u105001] 24 (0, 0))) ∧ Aside0 (Below w.heap.size w w'))
 case atStart => exact ⟨(0), (([] : List Int)), (.slice none 0 0), gR, H', ⟨Nat.le_refl _⟩, ⟨by first | exact Kd.R_nil _ _ _ _ _ | exact Kd.N_nil _ _ _ _ _ | exact Kd.V_nil _ _ _ _ _ | exact Kd.Q_nil _ _ _ _ _ | exact Kd.S_nil _ _ _ _ _⟩, ⟨by refine blk_far ?_ NB101_104.out _; refine blk_far ?_ NB101_104.out _; exact BK101.out⟩, ⟨by refine blk_far ?_ NB102_104.out _; refine blk_far ?_ NB102_104.out _; exact BK102.out⟩, ⟨by refine blk_put (cs := #[.int .i64 a0_0, .slice none 0 0]) ?_ 1 _ rfl; refine blk_put (cs := #[.int .i64 0, .slice none 0 0]) ?_ 0 _ rfl; exact BK104.out⟩, ⟨wB⟩⟩
 case round =>
  clear H'
  (try clear c1); (try clear p2); (try clear c3); (try clear c6); (try clear c10); (try clear c11); (try clear c12); (try clear hcz13_0); (try clear hcz13_1); (try clear hcz14_0); (try clear hcz14_1); (try clear hfz13_0); (try clear hfz13_1); (try clear hfz14_0); (try clear hfz14_1)
  obtain ⟨x19_1, x105001_1, u105001, rfl, HA, HK1, HO_105001, BK101, BK102, BK104, HB⟩ := hrel
  cases gk with
  | zero => exact absurd HA.out (by simp [spec_SortCommittee.l0])
  | succ k1 =>
   have H := HA.out
   clear HA
   simp only [spec_SortCommittee.l0] at H
   by_cases c15 : x19_1 < (l0_1.length : Int)
   rotate_left
   ·rw [if_neg c15] at H
    have c15b0 : decide (x19_1 < (l0_1.length : Int)) = false := decide_eq_false c15
    clear c15
    simp only [Option.some.injEq, Prod.mk.injEq] at H
    obtain ⟨rfl, rfl, rfl⟩ := H
    have hnb63 := NB104_101.out
    have hnc63 := NB101_104.out
    have hnb64 := NB104_102.out
    have hnc64 := NB102_104.out
    (try clear hcz62_0 hcz62_1 hfz62_0 hfz62_1)
    obtain ⟨hcz65_0, hcz65_1, hfz65_0, hfz65_1⟩ := zZ BK104
    have hnb66 := NB102_101.out
    have hnc66 := NB101_102.out
    obtain ⟨hcz67_0, hcz67_1, hfz67_0, hfz67_1⟩ := zZ BK102
    obtain ⟨Ao68, co68, eo68⟩ := Kd.R_slice HO_105001.out
    subst eo68
    go_wp2
    refine bodyPost_ret (results_ct rfl _ _ gb102 24 #[.int .i64 a0_0, .slice Ao68 x105001_1.length co68] (0, 0) _ rfl (by refine blk_put (cs := #[.int .i64 a0_0, .slice none 0 0]) ?_ 1 _ rfl; refine blk_put (cs := #[.int .i64 0, .slice none 0 0]) ?_ 0 _ rfl; exact BK102.out) Tryz.underlying24 rfl (by kernel_rfl)) rfl ?_
    exact ⟨_, fR, by exact Kd.R_mono (Kd.R_far (p := ⟨gb102, 1, none⟩) (Kd.R_far (p := ⟨gb102, 0, none⟩) (Kd.R_types HO_105001.out BK102.out (by decide)) (fun _ hk => hk.2) (.int .i64 a0_0)) (fun _ hk => hk.2) (.slice Ao68 x105001_1.length co68)) (fun _ hk => trivial), wB⟩
   rw [if_pos c15] at H
   have c15b0 := decide_eq_true c15
   clear c15
   by_cases c16 : 0 ≤ x19_1
   rotate_left
   ·rw [if_neg c16] at H
    exact absurd H (by simp)
   rw [if_pos c16] at H
   have c16b0 := decide_eq_true c16
   clear c16
   by_cases c17 : x19_1 < (l0_1.length : Int)
   rotate_left
   ·rw [if_neg c17] at H
    exact absurd H (by simp)
   rw [if_pos c17] at H
   have c17b0 := decide_eq_true c17
   clear c17
   have H' := Aside0.mk H
   clear H
   have p105 : 0 ≤ (x19_1 : Int) := oD
   have q105 : x19_1 < (l0_1.length : Int) := oD
   obtain ⟨ad105, e105, hx105_0⟩ := Kd.at_int HR0_1.out x19_1 p105 q105
   cases e105
   replace hx105_0 := (HB.out.cell (World.block_lt_of_cell? w _ hx105_0)).trans hx105_0
   replace p105 := eq_true p105
   replace q105 := eq_true q105
   go_wp2
   go_loopg [7] k1 (fun kq v7 w' => ∃ (x7_2 : Int), v7 = .int .i64 x7_2 ∧ Aside0 (spec_SortCommittee.l1 kq (rd l0_1 x19_1) x7_2 l0_1 (l0_1.length : Int) x19_1 a0_0 x105001_1 = some (r1, r2, r3)) ∧ Aside0 (kq ≤ k1) ∧ Aside0 (Kd.R (Kd.int .i64) 3 w' w.heap.size (fun _ => True) u105001 x105001_1) ∧ Aside0 (w'.heap[gb101]? = some (.cells #[.int .i64 a0_0, (.slice (some ad105) l0_1.length c0_1)] 24 (0, 0))) ∧ Aside0 (w'.heap[gb102]? = some (.cells #[.int .i64 0, (.slice none 0 0)] 24 (0, 0))) ∧ Aside0 (w'.heap[gb104]? = some (.cells #[.int .i64 a0_0, u105001] 24 (0, 0))) ∧ Aside0 (Below w.heap.size w w'))
   case atStart => exact ⟨(0), gR, H', ⟨Nat.le_refl _⟩, ⟨by exact HO_105001.out⟩, ⟨by exact BK101.out⟩, ⟨by exact BK102.out⟩, ⟨by exact BK104.out⟩, ⟨wB⟩⟩
   case round =>
    clear H'
    (try clear c1); (try clear p1); (try clear q1); (try clear hx1); (try clear p2); (try clear c3); (try clear c6); (try clear c10); (try clear p10); (try clear q10); (try clear hx10); (try clear c11); (try clear c12); (try clear c15); (try clear c15b0); (try clear c16); (try clear c16b0); (try clear c17); (try clear c17b0); (try clear hcz13_0); (try clear hcz13_1); (try clear hcz14_0); (try clear hcz14_1); (try clear hfz13_0); (try clear hfz13_1); (try clear hfz14_0); (try clear hfz14_1); (try clear hx105_0); (try clear p105); (try clear p2); (try clear q105)
    obtain ⟨x7_2, rfl, HA, HK2, HO_105001, BK101, BK102, BK104, HB⟩ := hrel
    cases gk with
    | zero => exact absurd HA.out (by simp [spec_SortCommittee.l1])
    | succ k2 =>
     have H := HA.out
     clear HA
     simp only [spec_SortCommittee.l1] at H
     by_cases c18 : x7_2 < (x105001_1.length : Int)
     rotate_left
     ·rw [if_neg c18] at H
      have c18b0 : decide (x7_2 < (x105001_1.length : Int)) = false := decide_eq_false c18
      clear c18
      by_cases c44 : 0 ≤ x7_2
      rotate_left
      ·rw [if_neg c44] at H
       exact absurd H (by simp)
      rw [if_pos c44] at H
      have c44b0 := eq_true c44
      have c44b1 := decide_eq_true c44
      clear c44
      by_cases c45 : x7_2 ≤ (x105001_1.length : Int)
      rotate_left
      ·rw [if_neg c45] at H
       exact absurd H (by simp)
      rw [if_pos c45] at H
      have c45b0 := eq_true c45
      have c45b1 := decide_eq_true c45
      clear c45
      obtain ⟨y124, hy124⟩ : ∃ y_ : List Int, y_ = (x105001_1.take (x7_2 : Int).toNat) := ⟨_, rfl⟩
      replace H : ((spec_l1Own.f y124).bind fun t128 => (if t128.length < 17592186044416 then ((some (t128 ++ [(rd l0_1 x19_1)] : List Int)).bind fun y131 => ((some (x105001_1.drop (x7_2 : Int).toNat : List Int)).bind fun y134 => (if y131.length + y134.length < 17592186044416 then (spec_SortCommittee.l0 k2 l0_1 (l0_1.length : Int) (wrap64 (x19_1 + 1)) a0_0 (y131 ++ y134)) else (none)))) else (none))) = some (r1, r2, r3) := by first | (rw [hy124]; with_reducible exact H) | (have H2_ := (Option.bind_some _ _).symm.trans H; rw [hy124]; with_reducible exact H2_) | (have H2_ := (Option.bind_some _ _).symm.trans H; with_reducible exact H2_) | with_reducible exact H | (rw [hy124]; exact H) | exact H
      have Ny124 := Aside0.mk hy124
      clear hy124
      replace H := oA H
      obtain ⟨t128, A46, H⟩ := H
      (try dsimp only at H)
      by_cases c47 : t128.length < 17592186044416
      rotate_left
      ·rw [if_neg c47] at H
       exact absurd H (by simp)
      rw [if_pos c47] at H
      have LMc47 := Aside0.mk c47
      clear c47
      obtain ⟨y131, hy131⟩ : ∃ y_ : List Int, y_ = (t128 ++ [(rd l0_1 x19_1)]) := ⟨_, rfl⟩
      replace H : ((some (x105001_1.drop (x7_2 : Int).toNat : List Int)).bind fun y134 => (if y131.length + y134.length < 17592186044416 then (spec_SortCommittee.l0 k2 l0_1 (l0_1.length : Int) (wrap64 (x19_1 + 1)) a0_0 (y131 ++ y134)) else (none))) = some (r1, r2, r3) := by first | (rw [hy131]; with_reducible exact H) | (have H2_ := (Option.bind_some _ _).symm.trans H; rw [hy131]; with_reducible exact H2_) | (have H2_ := (Option.bind_some _ _).symm.trans H; with_reducible exact H2_) | with_reducible exact H | (rw [hy131]; exact H) | exact H
      have Ny131 := Aside0.mk hy131
      clear hy131
      have c48b0 := eq_true (oD : 0 ≤ x7_2)
      have c49b0 := eq_true (oD : x7_2 ≤ (x105001_1.length : Int))
      obtain ⟨y134, hy134⟩ : ∃ y_ : List Int, y_ = (x105001_1.drop (x7_2 : Int).toNat) := ⟨_, rfl⟩
      replace H : (if y131.length + y134.length < 17592186044416 then (spec_SortCommittee.l0 k2 l0_1 (l0_1.length : Int) (wrap64 (x19_1 + 1)) a0_0 (y131 ++ y134)) else (none)) = some (r1, r2, r3) := by first | (rw [hy134]; with_reducible exact H) | (have H2_ := (Option.bind_some _ _).symm.trans H; rw [hy134]; with_reducible exact H2_) | (have H2_ := (Option.bind_some _ _).symm.trans H; with_reducible exact H2_) | with_reducible exact H | (rw [hy134]; exact H) | exact H
      have Ny134 := Aside0.mk hy134
      clear hy134
      by_cases c50 : y131.length + y134.length < 17592186044416
      rotate_left
      ·rw [if_neg c50] at H
       exact absurd H (by simp)
      rw [if_pos c50] at H
      have LMc50 := Aside0.mk c50
      clear c50
      obtain ⟨y138, hy138⟩ : ∃ y_ : List Int, y_ = (y131 ++ y134) := ⟨_, rfl⟩
      replace H : (spec_SortCommittee.l0 k2 l0_1 (l0_1.length : Int) (wrap64 (x19_1 + 1)) a0_0 y138) = some (r1, r2, r3) := by first | (rw [hy138]; with_reducible exact H) | (have H2_ := (Option.bind_some _ _).symm.trans H; rw [hy138]; with_reducible exact H2_) | (have H2_ := (Option.bind_some _ _).symm.trans H; with_reducible exact H2_) | with_reducible exact H | (rw [hy138]; exact H) | exact H
      have Ny138 := Aside0.mk hy138
      clear hy138
      have H' := Aside0.mk H
      clear H
      have hnb51 := NB104_101.out
      have hnc51 := NB101_104.out
      have hnb52 := NB104_102.out
      have hnc52 := NB102_104.out
      (try clear hcz43_0 hcz43_1 hfz43_0 hfz43_1)
      obtain ⟨hcz53_0, hcz53_1, hfz53_0, hfz53_1⟩ := zZ BK104
      obtain ⟨Ao54, co54, eo54⟩ := Kd.R_slice HO_105001.out
      subst eo54
      have q55 : (x7_2 : Int) ≤ ((x105001_1.length : Int) : Int) := oD
      obtain ⟨i055, hi055, _, hsz55, _⟩ := info_parts info3
      have hroom55 : x105001_1.length ≤ co54 := (Kd.R_reads' HO_105001.out).2.1
      have hC55 : Kd.C (Kd.int .i64) _ Ao54 x105001_1.length x105001_1 := (Kd.R_reads' HO_105001.out).2.2
      have hcut55 := cut_to (P := Tryz.prog) 22 3 .i64 Tryz.underlying22 hi055 Ao54 x105001_1.length co54 x7_2 (oD) q55 hroom55
      have hr55 := Kd.C_take (m := (x7_2 : Int).toNat) hC55 (by omega)
      have hy55 : y124.length = (x7_2 : Int).toNat := (by rw [Ny124.out, List.length_take]; omega)
      rw [← Ny124.out] at hr55
      rw [← hy55] at hcut55
      have HR127 := Aside0.mk hr55
      have HC127 := Aside0.mk (show y124.length ≤ co54 from by omega)
      clear hr55 hC55 hroom55 hi055 hsz55
      have KY55 := Aside0.mk hy55
      clear hy55
      have KL55 := Aside0.mk (show (x7_2 : Int).toNat ≤ x105001_1.length from by omega)
      replace q55 := eq_true q55
      go_wp2_with (first | ((with_reducible refine gate_callee (f := 49) rfl ?_); refine gL 43 Tryz.func49 #[.slice Ao54 y124.length co54] ?_; (with_reducible refine (spec_l1Own.calls _ _ y124 t128 _ (by repeat (first | (with_reducible exact HR127.out) | (with_reducible refine Kd.C_alloc ?_ _) | (with_reducible refine Kd.C_drewN ?_ _) | (with_reducible refine Kd.C_drew ?_) | exact HR127.out)) HC127.out A46.out).mono ?_); rintro e w56 ⟨v129, rfl, ho0, hb⟩; refine ⟨_, rfl, ?_⟩; have HO130 := Aside0.mk (Kd.R_lower (Kd.R_new' ho0 (Kd.R_lt HO_105001.out)) (below_size HB.out)); replace HO_105001 := rE HO_105001 (Kd.R_base ho0) hb; replace BK101 := bB BK101 hb; replace BK102 := bB BK102 hb; replace BK104 := bB BK104 hb; replace HR127 := Aside0.mk (Kd.C_below (by repeat (first | (with_reducible exact HR127.out) | (with_reducible refine Kd.C_alloc ?_ _) | (with_reducible refine Kd.C_drewN ?_ _) | (with_reducible refine Kd.C_drew ?_) | exact HR127.out)) hb); replace HB := sB HB hb; (try clear hb); (try clear ho0)) | ((with_reducible refine gate_builtin (b := .append) (xs := #[.tmp 43, .tmp 45]) rfl ?_); at_builtin; refine Kd.R_append (Kd.int .i64) (w0 := w) w.heap.size rfl (.tmp 43) (.tmp 45) 22 3 (.int .i64 0) 8 rfl Tryz.underlying22 info3 rfl (by decide) (by omega) v129 t128 (rd l0_1 x19_1) [.int .i64 (rd l0_1 x19_1)] (fun k_ => nb (.slice Ao54 x105001_1.length co54) k_) (fun _ => False) rfl rfl ?aP (fun _ hk => hk.elim) ?aF ?aO ?aB ?aS ?aL ?_; (case aP => exact rfl); (case aB => exact HB.out); (case aF => exact (fun k_ hk => Kd.fresh' (Kd.R_lt HO_105001.out) k_ hk)); (case aO => exact (by exact Kd.R_mono HO130.out (fun _ hk => hk.2))); (case aS => exact (below_size HB.out)); (case aL => have := LMc47.out; omega); intro v132 w57 ho hb hg hat; rw [← Ny131.out] at ho; have HO133 := Aside0.mk (ho); replace BK101 := Aside0.mk (blk_grown (g := gb101) (o := .cells #[.int .i64 a0_0, .slice (some ad105) l0_1.length c0_1] 24 (0, 0)) BK101.out hg (Kd.R_ne HO130.out BK101.out (by decide))); replace BK102 := Aside0.mk (blk_grown (g := gb102) (o := .cells #[.int .i64 0, .slice none 0 0] 24 (0, 0)) BK102.out hg (Kd.R_ne HO130.out BK102.out (by decide))); replace BK104 := Aside0.mk (blk_grown (g := gb104) (o := .cells #[.int .i64 a0_0, .slice Ao54 x105001_1.length co54] 24 (0, 0)) BK104.out hg (Kd.R_ne HO130.out BK104.out (by decide))); replace HB := Aside0.mk (hb); replace HR127 := Aside0.mk ((show Kd.C (Kd.int .i64) w57 Ao54 y124.length y124 from by rw [Ny124.out]; exact Kd.C_take (m := (x7_2 : Int).toNat) ((Kd.R_reads' (Kd.R_after (ok := (fun _ => True)) HO_105001.out hg hat)).2.2) KL55.out)); replace HO_105001 := Aside0.mk (Kd.R_after (ok := (fun _ => True)) HO_105001.out hg hat); clear ho hb hg hat; (try clear hcz53_0 hcz53_1 hfz53_0 hfz53_1); obtain ⟨hcz58_0, hcz58_1, hfz58_0, hfz58_1⟩ := zZ BK104; have q59 : (x7_2 : Int) ≤ ((x105001_1.length : Int) : Int) := oD; obtain ⟨i059, hi059, _, hsz59, _⟩ := info_parts info3; have hroom59 : x105001_1.length ≤ co54 := (Kd.R_reads' HO_105001.out).2.1; have hC59 : Kd.C (Kd.int .i64) _ Ao54 x105001_1.length x105001_1 := (Kd.R_reads' HO_105001.out).2.2; have q059 : (0 : Int) ≤ (x7_2 : Int) := oD; have hcut59 := cut_from (P := Tryz.prog) 22 3 .i64 Tryz.underlying22 hi059 1 hsz59 Ao54 x105001_1.length co54 x7_2 q059 q59; have hr59 := Kd.C_drop (m := (x7_2 : Int).toNat) (c := co54) hC59 (by omega) hroom59; obtain ⟨A59, hA59⟩ : ∃ A1, A1 = (if co54 = (x7_2 : Int).toNat then Ao54 else (Ao54 : Option Addr).map (·.add ((x7_2 : Int).toNat * 1))) := ⟨_, rfl⟩; obtain ⟨c59, hc59⟩ : ∃ c1, c1 = co54 - (x7_2 : Int).toNat := ⟨_, rfl⟩; have hy59 : y134.length = x105001_1.length - (x7_2 : Int).toNat := (by rw [Ny134.out, List.length_drop] <;> omega); rw [show (x105001_1).drop (x7_2 : Int).toNat = y134 from Ny134.out.symm] at hr59; replace hr59 : Kd.C (Kd.int .i64) _ A59 y134.length y134 := (by rw [hA59]; exact hr59); rw [← hy59, ← hA59, ← hc59] at hcut59; have HR137 := Aside0.mk hr59; have HC137 := Aside0.mk (show y134.length ≤ c59 from by rw [hy59, hc59]; exact Nat.sub_le_sub_right hroom59 _); clear hr59 hC59 hroom59 hi059 hsz59 hc59; have KY59 := Aside0.mk hy59; have KA59 := Aside0.mk hA59; clear hy59 hA59; have KL59 := Aside0.mk (show (x7_2 : Int).toNat ≤ x105001_1.length from by omega); replace q59 := eq_true q59) | ((with_reducible refine gate_builtin (b := .append) (xs := #[.tmp 47, .tmp 51]) rfl ?_); at_builtin; refine Kd.R_append_rows (Kd.int .i64) (w0 := w) w.heap.size rfl (.tmp 47) (.tmp 51) 22 3 (.int .i64 0) 8 rfl Tryz.underlying22 info3 rfl (by decide) (by omega) v132 y131 y134 _ _ _ (fun k_ => nb (.slice Ao54 x105001_1.length co54) k_) (fun _ => False) rfl rfl ?aO ?aR (fun _ _ h => h) (fun _ h => h.elim) ?aF ?aB ?aS ?aL ?_; (case aR => repeat (first | exact (by repeat (first | (with_reducible exact HR137.out) | (with_reducible refine Kd.C_alloc ?_ _) | (with_reducible refine Kd.C_drewN ?_ _) | (with_reducible refine Kd.C_drew ?_) | exact HR137.out)) | (with_reducible refine Kd.C_alloc ?_ _) | (with_reducible refine Kd.C_drewN ?_ _) | (with_reducible refine Kd.C_drew ?_))); (case aB => exact HB.out); (case aF => exact (fun k_ hk => Kd.fresh' (Kd.R_lt HO_105001.out) k_ hk)); (case aO => exact HO133.out); (case aS => exact (below_size HB.out)); (case aL => have := LMc50.out; omega); intro v139 w60 ho hb hg hat; rw [← Ny138.out] at ho; have HO140 := Aside0.mk (ho); replace BK101 := Aside0.mk (blk_grown (g := gb101) (o := .cells #[.int .i64 a0_0, .slice (some ad105) l0_1.length c0_1] 24 (0, 0)) BK101.out hg (Kd.R_ne HO133.out BK101.out (by decide))); replace BK102 := Aside0.mk (blk_grown (g := gb102) (o := .cells #[.int .i64 0, .slice none 0 0] 24 (0, 0)) BK102.out hg (Kd.R_ne HO133.out BK102.out (by decide))); replace BK104 := Aside0.mk (blk_grown (g := gb104) (o := .cells #[.int .i64 a0_0, .slice Ao54 x105001_1.length co54] 24 (0, 0)) BK104.out hg (Kd.R_ne HO133.out BK104.out (by decide))); replace HB := Aside0.mk (hb); replace HR127 := Aside0.mk ((show Kd.C (Kd.int .i64) w60 Ao54 y124.length y124 from by rw [Ny124.out]; exact Kd.C_take (m := (x7_2 : Int).toNat) ((Kd.R_reads' (Kd.R_after (ok := (fun _ => True)) HO_105001.out hg hat)).2.2) KL55.out)); replace HR137 := Aside0.mk ((show Kd.C (Kd.int .i64) w60 A59 y134.length y134 from by rw [Ny134.out, KA59.out]; exact Kd.C_drop (m := (x7_2 : Int).toNat) (c := co54) ((Kd.R_reads' (Kd.R_after (ok := (fun _ => True)) HO_105001.out hg hat)).2.2) KL59.out ((Kd.R_reads' (Kd.R_after (ok := (fun _ => True)) HO_105001.out hg hat)).2.1))); replace HO_105001 := Aside0.mk (Kd.R_after (ok := (fun _ => True)) HO_105001.out hg hat); clear ho hb hg hat; obtain ⟨Ao61, co61, eo61⟩ := Kd.R_slice HO140.out; subst eo61; (try clear hcz58_0 hcz58_1 hfz58_0 hfz58_1); obtain ⟨hcz62_0, hcz62_1, hfz62_0, hfz62_1⟩ := zZ BK104))
      go_roundg k2
      case measure => have := HK1.out; have := HK2.out; omega
      case rel => exact ⟨(wrap64 (x19_1 + 1)), (y138), (.slice Ao61 y138.length co61), gR, H', ⟨by have := HK1.out; have := HK2.out; omega⟩, ⟨by exact Kd.R_mono (Kd.R_far (p := ⟨gb104, 1, none⟩) (Kd.R_types HO140.out BK104.out (by decide)) (fun _ hk => hk.2) (.slice Ao61 y138.length co61)) (fun _ hk => trivial)⟩, ⟨by refine blk_far ?_ NB101_104.out _; exact BK101.out⟩, ⟨by refine blk_far ?_ NB102_104.out _; exact BK102.out⟩, ⟨by refine blk_put (cs := #[.int .i64 a0_0, .slice Ao54 x105001_1.length co54]) ?_ 1 _ rfl; exact BK104.out⟩, ⟨wB⟩⟩
     rw [if_pos c18] at H
     have c18b0 := decide_eq_true c18
     clear c18
     by_cases c19 : 0 ≤ x7_2
     rotate_left
     ·rw [if_neg c19] at H
      exact absurd H (by simp)
     rw [if_pos c19] at H
     have c19b0 := decide_eq_true c19
     clear c19
     by_cases c20 : (rd x105001_1 x7_2) ≥ (rd l0_1 x19_1)
     ·rw [if_pos c20] at H
      have c20b0 : decide ((rd l0_1 x19_1) ≤ (rd x105001_1 x7_2)) = true := decide_eq_true c20
      clear c20
      have H' := Aside0.mk H
      clear H
      have hnb21 := NB104_101.out
      have hnc21 := NB101_104.out
      have hnb22 := NB104_102.out
      have hnc22 := NB102_104.out
      obtain ⟨hcz23_0, hcz23_1, hfz23_0, hfz23_1⟩ := zZ BK104
      obtain ⟨Ao24, co24, eo24⟩ := Kd.R_slice HO_105001.out
      subst eo24
      have p106 : 0 ≤ (x7_2 : Int) := oD
      have q106 : x7_2 < (x105001_1.length : Int) := oD
      obtain ⟨ad106, e106, hx106_0⟩ := Kd.at_int (Kd.R_reads' HO_105001.out).2.2 x7_2 p106 q106
      cases e106
      replace p106 := eq_true p106
      replace q106 := eq_true q106
      go_wp2
      go_roundg k2
      case measure => have := HK1.out; have := HK2.out; omega
      case rel => exact ⟨(wrap64 (x7_2 + 1)), gR, H', ⟨by have := HK1.out; have := HK2.out; omega⟩, ⟨by exact HO_105001.out⟩, ⟨by exact BK101.out⟩, ⟨by exact BK102.out⟩, ⟨by exact BK104.out⟩, ⟨wB⟩⟩
     rw [if_neg c20] at H
     have c20b0 : decide ((rd l0_1 x19_1) ≤ (rd x105001_1 x7_2)) = false := decide_eq_false c20
     clear c20
     have c25b0 := eq_true (oD : 0 ≤ x7_2)
     by_cases c26 : x7_2 ≤ (x105001_1.length : Int)
     rotate_left
     ·rw [if_neg c26] at H
      exact absurd H (by simp)
     rw [if_pos c26] at H
     have c26b0 := eq_true c26
     have c26b1 := decide_eq_true c26
     clear c26
     obtain ⟨y107, hy107⟩ : ∃ y_ : List Int, y_ = (x105001_1.take (x7_2 : Int).toNat) := ⟨_, rfl⟩
     replace H : ((spec_l1Own.f y107).bind fun t111 => (if t111.length < 17592186044416 then ((some (t111 ++ [(rd l0_1 x19_1)] : List Int)).bind fun y114 => ((some (x105001_1.drop (x7_2 : Int).toNat : List Int)).bind fun y117 => (if y114.length + y117.length < 17592186044416 then (spec_SortCommittee.l0 k2 l0_1 (l0_1.length : Int) (wrap64 (x19_1 + 1)) a0_0 (y114 ++ y117)) else (none)))) else (none))) = some (r1, r2, r3) := by first | (rw [hy107]; with_reducible exact H) | (have H2_ := (Option.bind_some _ _).symm.trans H; rw [hy107]; with_reducible exact H2_) | (have H2_ := (Option.bind_some _ _).symm.trans H; with_reducible exact H2_) | with_reducible exact H | (rw [hy107]; exact H) | exact H
     have Ny107 := Aside0.mk hy107
     clear hy107
     replace H := oA H
     obtain ⟨t111, A27, H⟩ := H
     (try dsimp only at H)
     by_cases c28 : t111.length < 17592186044416
     rotate_left
     ·rw [if_neg c28] at H
      exact absurd H (by simp)
     rw [if_pos c28] at H
     have LMc28 := Aside0.mk c28
     clear c28
     obtain ⟨y114, hy114⟩ : ∃ y_ : List Int, y_ = (t111 ++ [(rd l0_1 x19_1)]) := ⟨_, rfl⟩
     replace H : ((some (x105001_1.drop (x7_2 : Int).toNat : List Int)).bind fun y117 => (if y114.length + y117.length < 17592186044416 then (spec_SortCommittee.l0 k2 l0_1 (l0_1.length : Int) (wrap64 (x19_1 + 1)) a0_0 (y114 ++ y117)) else (none))) = some (r1, r2, r3) := by first | (rw [hy114]; with_reducible exact H) | (have H2_ := (Option.bind_some _ _).symm.trans H; rw [hy114]; with_reducible exact H2_) | (have H2_ := (Option.bind_some _ _).symm.trans H; with_reducible exact H2_) | with_reducible exact H | (rw [hy114]; exact H) | exact H
     have Ny114 := Aside0.mk hy114
     clear hy114
     have c29b0 := eq_true (oD : 0 ≤ x7_2)
     have c30b0 := eq_true (oD : x7_2 ≤ (x105001_1.length : Int))
     obtain ⟨y117, hy117⟩ : ∃ y_ : List Int, y_ = (x105001_1.drop (x7_2 : Int).toNat) := ⟨_, rfl⟩
     replace H : (if y114.length + y117.length < 17592186044416 then (spec_SortCommittee.l0 k2 l0_1 (l0_1.length : Int) (wrap64 (x19_1 + 1)) a0_0 (y114 ++ y117)) else (none)) = some (r1, r2, r3) := by first | (rw [hy117]; with_reducible exact H) | (have H2_ := (Option.bind_some _ _).symm.trans H; rw [hy117]; with_reducible exact H2_) | (have H2_ := (Option.bind_some _ _).symm.trans H; with_reducible exact H2_) | with_reducible exact H | (rw [hy117]; exact H) | exact H
     have Ny117 := Aside0.mk hy117
     clear hy117
     by_cases c31 : y114.length + y117.length < 17592186044416
     rotate_left
     ·rw [if_neg c31] at H
      exact absurd H (by simp)
     rw [if_pos c31] at H
     have LMc31 := Aside0.mk c31
     clear c31
     obtain ⟨y121, hy121⟩ : ∃ y_ : List Int, y_ = (y114 ++ y117) := ⟨_, rfl⟩
     replace H : (spec_SortCommittee.l0 k2 l0_1 (l0_1.length : Int) (wrap64 (x19_1 + 1)) a0_0 y121) = some (r1, r2, r3) := by first | (rw [hy121]; with_reducible exact H) | (have H2_ := (Option.bind_some _ _).symm.trans H; rw [hy121]; with_reducible exact H2_) | (have H2_ := (Option.bind_some _ _).symm.trans H; with_reducible exact H2_) | with_reducible exact H | (rw [hy121]; exact H) | exact H
     have Ny121 := Aside0.mk hy121
     clear hy121
     have H' := Aside0.mk H
     clear H
     have hnb32 := NB104_101.out
     have hnc32 := NB101_104.out
     have hnb33 := NB104_102.out
     have hnc33 := NB102_104.out
     obtain ⟨hcz34_0, hcz34_1, hfz34_0, hfz34_1⟩ := zZ BK104
     obtain ⟨Ao35, co35, eo35⟩ := Kd.R_slice HO_105001.out
     subst eo35
     have p106 : 0 ≤ (x7_2 : Int) := oD
     have q106 : x7_2 < (x105001_1.length : Int) := oD
     obtain ⟨ad106, e106, hx106_0⟩ := Kd.at_int (Kd.R_reads' HO_105001.out).2.2 x7_2 p106 q106
     cases e106
     replace p106 := eq_true p106
     replace q106 := eq_true q106
     have q36 : (x7_2 : Int) ≤ ((x105001_1.length : Int) : Int) := oD
     obtain ⟨i036, hi036, _, hsz36, _⟩ := info_parts info3
     have hroom36 : x105001_1.length ≤ co35 := (Kd.R_reads' HO_105001.out).2.1
     have hC36 : Kd.C (Kd.int .i64) _ (some ad106) x105001_1.length x105001_1 := (Kd.R_reads' HO_105001.out).2.2
     have hcut36 := cut_to (P := Tryz.prog) 22 3 .i64 Tryz.underlying22 hi036 (some ad106) x105001_1.length co35 x7_2 (oD) q36 hroom36
     have hr36 := Kd.C_take (m := (x7_2 : Int).toNat) hC36 (by omega)
     have hy36 : y107.length = (x7_2 : Int).toNat := (by rw [Ny107.out, List.length_take]; omega)
     rw [← Ny107.out] at hr36
     rw [← hy36] at hcut36
     have HR110 := Aside0.mk hr36
     have HC110 := Aside0.mk (show y107.length ≤ co35 from by omega)
     clear hr36 hC36 hroom36 hi036 hsz36
     have KY36 := Aside0.mk hy36
     clear hy36
     have KL36 := Aside0.mk (show (x7_2 : Int).toNat ≤ x105001_1.length from by omega)
     replace q36 := eq_true q36
     go_wp2_with (first | ((with_reducible refine gate_callee (f := 49) rfl ?_); refine gL 43 Tryz.func49 #[.slice (some ad106) y107.length co35] ?_; (with_reducible refine (spec_l1Own.calls _ _ y107 t111 _ (by repeat (first | (with_reducible exact HR110.out) | (with_reducible refine Kd.C_alloc ?_ _) | (with_reducible refine Kd.C_drewN ?_ _) | (with_reducible refine Kd.C_drew ?_) | exact HR110.out)) HC110.out A27.out).mono ?_); rintro e w37 ⟨v112, rfl, ho0, hb⟩; refine ⟨_, rfl, ?_⟩; have HO113 := Aside0.mk (Kd.R_lower (Kd.R_new' ho0 (Kd.R_lt HO_105001.out)) (below_size HB.out)); replace HO_105001 := rE HO_105001 (Kd.R_base ho0) hb; replace BK101 := bB BK101 hb; replace BK102 := bB BK102 hb; replace BK104 := bB BK104 hb; replace HR110 := Aside0.mk (Kd.C_below (by repeat (first | (with_reducible exact HR110.out) | (with_reducible refine Kd.C_alloc ?_ _) | (with_reducible refine Kd.C_drewN ?_ _) | (with_reducible refine Kd.C_drew ?_) | exact HR110.out)) hb); replace HB := sB HB hb; (try clear hb); (try clear ho0)) | ((with_reducible refine gate_builtin (b := .append) (xs := #[.tmp 43, .tmp 45]) rfl ?_); at_builtin; refine Kd.R_append (Kd.int .i64) (w0 := w) w.heap.size rfl (.tmp 43) (.tmp 45) 22 3 (.int .i64 0) 8 rfl Tryz.underlying22 info3 rfl (by decide) (by omega) v112 t111 (rd l0_1 x19_1) [.int .i64 (rd l0_1 x19_1)] (fun k_ => nb (.slice (some ad106) x105001_1.length co35) k_) (fun _ => False) rfl rfl ?aP (fun _ hk => hk.elim) ?aF ?aO ?aB ?aS ?aL ?_; (case aP => exact rfl); (case aB => exact HB.out); (case aF => exact (fun k_ hk => Kd.fresh' (Kd.R_lt HO_105001.out) k_ hk)); (case aO => exact (by exact Kd.R_mono HO113.out (fun _ hk => hk.2))); (case aS => exact (below_size HB.out)); (case aL => have := LMc28.out; omega); intro v115 w38 ho hb hg hat; rw [← Ny114.out] at ho; have HO116 := Aside0.mk (ho); replace BK101 := Aside0.mk (blk_grown (g := gb101) (o := .cells #[.int .i64 a0_0, .slice (some ad105) l0_1.length c0_1] 24 (0, 0)) BK101.out hg (Kd.R_ne HO113.out BK101.out (by decide))); replace BK102 := Aside0.mk (blk_grown (g := gb102) (o := .cells #[.int .i64 0, .slice none 0 0] 24 (0, 0)) BK102.out hg (Kd.R_ne HO113.out BK102.out (by decide))); replace BK104 := Aside0.mk (blk_grown (g := gb104) (o := .cells #[.int .i64 a0_0, .slice (some ad106) x105001_1.length co35] 24 (0, 0)) BK104.out hg (Kd.R_ne HO113.out BK104.out (by decide))); replace HB := Aside0.mk (hb); replace HR110 := Aside0.mk ((show Kd.C (Kd.int .i64) w38 (some ad106) y107.length y107 from by rw [Ny107.out]; exact Kd.C_take (m := (x7_2 : Int).toNat) ((Kd.R_reads' (Kd.R_after (ok := (fun _ => True)) HO_105001.out hg hat)).2.2) KL36.out)); replace HO_105001 := Aside0.mk (Kd.R_after (ok := (fun _ => True)) HO_105001.out hg hat); clear ho hb hg hat; (try clear hcz23_0 hcz23_1 hfz23_0 hfz23_1 hcz34_0 hcz34_1 hfz34_0 hfz34_1); obtain ⟨hcz39_0, hcz39_1, hfz39_0, hfz39_1⟩ := zZ BK104; have q40 : (x7_2 : Int) ≤ ((x105001_1.length : Int) : Int) := oD; obtain ⟨i040, hi040, _, hsz40, _⟩ := info_parts info3; have hroom40 : x105001_1.length ≤ co35 := (Kd.R_reads' HO_105001.out).2.1; have hC40 : Kd.C (Kd.int .i64) _ (some ad106) x105001_1.length x105001_1 := (Kd.R_reads' HO_105001.out).2.2; have q040 : (0 : Int) ≤ (x7_2 : Int) := oD; have hcut40 := cut_from (P := Tryz.prog) 22 3 .i64 Tryz.underlying22 hi040 1 hsz40 (some ad106) x105001_1.length co35 x7_2 q040 q40; have hr40 := Kd.C_drop (m := (x7_2 : Int).toNat) (c := co35) hC40 (by omega) hroom40; obtain ⟨A40, hA40⟩ : ∃ A1, A1 = (if co35 = (x7_2 : Int).toNat then (some ad106) else ((some ad106) : Option Addr).map (·.add ((x7_2 : Int).toNat * 1))) := ⟨_, rfl⟩; obtain ⟨c40, hc40⟩ : ∃ c1, c1 = co35 - (x7_2 : Int).toNat := ⟨_, rfl⟩; have hy40 : y117.length = x105001_1.length - (x7_2 : Int).toNat := (by rw [Ny117.out, List.length_drop] <;> omega); rw [show (x105001_1).drop (x7_2 : Int).toNat = y117 from Ny117.out.symm] at hr40; replace hr40 : Kd.C (Kd.int .i64) _ A40 y117.length y117 := (by rw [hA40]; exact hr40); rw [← hy40, ← hA40, ← hc40] at hcut40; have HR120 := Aside0.mk hr40; have HC120 := Aside0.mk (show y117.length ≤ c40 from by rw [hy40, hc40]; exact Nat.sub_le_sub_right hroom40 _); clear hr40 hC40 hroom40 hi040 hsz40 hc40; have KY40 := Aside0.mk hy40; have KA40 := Aside0.mk hA40; clear hy40 hA40; have KL40 := Aside0.mk (show (x7_2 : Int).toNat ≤ x105001_1.length from by omega); replace q40 := eq_true q40) | ((with_reducible refine gate_builtin (b := .append) (xs := #[.tmp 47, .tmp 51]) rfl ?_); at_builtin; refine Kd.R_append_rows (Kd.int .i64) (w0 := w) w.heap.size rfl (.tmp 47) (.tmp 51) 22 3 (.int .i64 0) 8 rfl Tryz.underlying22 info3 rfl (by decide) (by omega) v115 y114 y117 _ _ _ (fun k_ => nb (.slice (some ad106) x105001_1.length co35) k_) (fun _ => False) rfl rfl ?aO ?aR (fun _ _ h => h) (fun _ h => h.elim) ?aF ?aB ?aS ?aL ?_; (case aR => repeat (first | exact (by repeat (first | (with_reducible exact HR120.out) | (with_reducible refine Kd.C_alloc ?_ _) | (with_reducible refine Kd.C_drewN ?_ _) | (with_reducible refine Kd.C_drew ?_) | exact HR120.out)) | (with_reducible refine Kd.C_alloc ?_ _) | (with_reducible refine Kd.C_drewN ?_ _) | (with_reducible refine Kd.C_drew ?_))); (case aB => exact HB.out); (case aF => exact (fun k_ hk => Kd.fresh' (Kd.R_lt HO_105001.out) k_ hk)); (case aO => exact HO116.out); (case aS => exact (below_size HB.out)); (case aL => have := LMc31.out; omega); intro v122 w41 ho hb hg hat; rw [← Ny121.out] at ho; have HO123 := Aside0.mk (ho); replace BK101 := Aside0.mk (blk_grown (g := gb101) (o := .cells #[.int .i64 a0_0, .slice (some ad105) l0_1.length c0_1] 24 (0, 0)) BK101.out hg (Kd.R_ne HO116.out BK101.out (by decide))); replace BK102 := Aside0.mk (blk_grown (g := gb102) (o := .cells #[.int .i64 0, .slice none 0 0] 24 (0, 0)) BK102.out hg (Kd.R_ne HO116.out BK102.out (by decide))); replace BK104 := Aside0.mk (blk_grown (g := gb104) (o := .cells #[.int .i64 a0_0, .slice (some ad106) x105001_1.length co35] 24 (0, 0)) BK104.out hg (Kd.R_ne HO116.out BK104.out (by decide))); replace HB := Aside0.mk (hb); replace HR110 := Aside0.mk ((show Kd.C (Kd.int .i64) w41 (some ad106) y107.length y107 from by rw [Ny107.out]; exact Kd.C_take (m := (x7_2 : Int).toNat) ((Kd.R_reads' (Kd.R_after (ok := (fun _ => True)) HO_105001.out hg hat)).2.2) KL36.out)); replace HR120 := Aside0.mk ((show Kd.C (Kd.int .i64) w41 A40 y117.length y117 from by rw [Ny117.out, KA40.out]; exact Kd.C_drop (m := (x7_2 : Int).toNat) (c := co35) ((Kd.R_reads' (Kd.R_after (ok := (fun _ => True)) HO_105001.out hg hat)).2.2) KL40.out ((Kd.R_reads' (Kd.R_after (ok := (fun _ => True)) HO_105001.out hg hat)).2.1))); replace HO_105001 := Aside0.mk (Kd.R_after (ok := (fun _ => True)) HO_105001.out hg hat); clear ho hb hg hat; obtain ⟨Ao42, co42, eo42⟩ := Kd.R_slice HO123.out; subst eo42; (try clear hcz39_0 hcz39_1 hfz39_0 hfz39_1); obtain ⟨hcz43_0, hcz43_1, hfz43_0, hfz43_1⟩ := zZ BK104))
     go_roundg k2
     case measure => have := HK1.out; have := HK2.out; omega
     case rel => exact ⟨(wrap64 (x19_1 + 1)), (y121), (.slice Ao42 y121.length co42), gR, H', ⟨by have := HK1.out; have := HK2.out; omega⟩, ⟨by exact Kd.R_mono (Kd.R_far (p := ⟨gb104, 1, none⟩) (Kd.R_types HO123.out BK104.out (by decide)) (fun _ hk => hk.2) (.slice Ao42 y121.length co42)) (fun _ hk => trivial)⟩, ⟨by refine blk_far ?_ NB101_104.out _; exact BK101.out⟩, ⟨by refine blk_far ?_ NB102_104.out _; exact BK102.out⟩, ⟨by refine blk_put (cs := #[.int .i64 a0_0, .slice (some ad106) x105001_1.length co35]) ?_ 1 _ rfl; exact BK104.out⟩, ⟨wB⟩⟩
def impl_votes_isSwing.f (a0_0 : Int) (l0_1 : List Bool) (a1 : Int) (a2 : Int) : Option (Bool) := (impl_has.f a1 a2).bind fun t102 => (if t102 = true then (some false) else (if 0 ≤ a1 then (if a1 < (l0_1.length : Int) then (if rdOf false l0_1 a1 = true then (some false) else (if 0 ≤ a2 then (if 0 ≤ (Go.bits .or .i64 a1 (shl .i64 1 a2)) then (if (Go.bits .or .i64 a1 (shl .i64 1 a2)) < (l0_1.length : Int) then (some (rdOf false l0_1 (Go.bits .or .i64 a1 (shl .i64 1 a2)))) else (none)) else (none)) else (none))) else (none)) else (none)))
theorem impl_votes_isSwing.calls (a0_0 : Int) (A0_1 : Option Addr) (c0_1 : Nat) (l0_1 : List Bool) (a1 : Int) (a2 : Int) (r : Bool) (w : World) (hr0_1 : Kd.C Kd.bool w A0_1 l0_1.length l0_1) (hc0_1 : l0_1.length ≤ c0_1) (h : impl_votes_isSwing.f a0_0 l0_1 a1 a2 = some r) :
  Calls Tryz.prog 50 #[.agg #[.int .i64 a0_0, .slice A0_1 l0_1.length c0_1], .int .i64 a1, .int .i64 a2] w fun e w' => e = .returned (.bool r) ∧ Below w.heap.size w w' := by
 have hu53 := Tryz.underlying53
 have HR0_1 := Aside0.mk hr0_1
 have HC0_1 := Aside0.mk hc0_1
 clear hr0_1 hc0_1
 have HB := Aside0.mk (Below.refl w.heap.size w)
 have H := h
 unfold impl_votes_isSwing.f at H
 clear h
 replace H := oA H
 obtain ⟨t102, A4, H⟩ := H
 (try dsimp only at H)
 by_cases c5 : t102 = true
 ·subst c5
  replace H := iT H
  obtain rfl := Option.some.inj H
  go_enter Tryz.func50, Tryz.ntmps50
  go_wp2_with (first | ((with_reducible refine gate_dst (N := 3) rfl ?_); refine xE (N := 3) (cs := #[.int .i64 a0_0, .slice A0_1 l0_1.length c0_1]) (t := 53) ?_; intro gb101 hg w6 BK101 hb; have GW101 := gS hg HB; have GE101 := gS hg HB; replace HB := sB HB hb; clear hb hg) | (go_at_call 81; (with_reducible refine (impl_has.calls a1 a2 true _ A4.out).mono ?_); rintro e w' ⟨rfl, ⟨nd, rfl⟩⟩; (try exact dR)))
  repeat (go_quiet (first | ((with_reducible refine gate_dst (N := 3) rfl ?_); refine xE (N := 3) (cs := #[.int .i64 a0_0, .slice A0_1 l0_1.length c0_1]) (t := 53) ?_; intro gb101 hg w6 BK101 hb; have GW101 : Aside0 (w.heap.size ≤ gb101) := gT hg; have GE101 : Aside0 (w.heap.size ≤ gb101) := gT hg; replace HB := sQ hb; clear hb hg) | (go_at_call 81; (with_reducible refine (impl_has.calls a1 a2 true _ A4.out).mono ?_); rintro e w' ⟨rfl, ⟨nd, rfl⟩⟩; (try exact dR))); try go_wp2_with (first | ((with_reducible refine gate_dst (N := 3) rfl ?_); refine xE (N := 3) (cs := #[.int .i64 a0_0, .slice A0_1 l0_1.length c0_1]) (t := 53) ?_; intro gb101 hg w6 BK101 hb; have GW101 : Aside0 (w.heap.size ≤ gb101) := gT hg; have GE101 : Aside0 (w.heap.size ≤ gb101) := gT hg; replace HB := sQ hb; clear hb hg) | (go_at_call 81; (with_reducible refine (impl_has.calls a1 a2 true _ A4.out).mono ?_); rintro e w' ⟨rfl, ⟨nd, rfl⟩⟩; (try exact dR))))
  go_ret
  exact ⟨fR, wB⟩
 replace c5 := Bool.eq_false_iff.mpr c5
 subst c5
 replace H := iF H
 by_cases c7 : 0 ≤ a1
 rotate_left
 ·rw [if_neg c7] at H
  exact absurd H (by simp)
 rw [if_pos c7] at H
 have c7b0 := decide_eq_true c7
 clear c7
 by_cases c8 : a1 < (l0_1.length : Int)
 rotate_left
 ·rw [if_neg c8] at H
  exact absurd H (by simp)
 rw [if_pos c8] at H
 have c8b0 := decide_eq_true c8
 clear c8
 obtain ⟨bq9, hbq9⟩ : ∃ b_ : Bool, b_ = (rdOf false l0_1 a1) := ⟨_, rfl⟩
 replace H : (if bq9 = true then (some false) else (if 0 ≤ a2 then (if 0 ≤ (Go.bits .or .i64 a1 (shl .i64 1 a2)) then (if (Go.bits .or .i64 a1 (shl .i64 1 a2)) < (l0_1.length : Int) then (some (rdOf false l0_1 (Go.bits .or .i64 a1 (shl .i64 1 a2)))) else (none)) else (none)) else (none))) = some r := by rw [← hbq9] at H; exact H
 have Nbq9 := Aside0.mk hbq9
 clear hbq9
 by_cases c10 : bq9 = true
 ·subst c10
  replace H := iT H
  obtain rfl := Option.some.inj H
  go_enter Tryz.func50, Tryz.ntmps50
  go_wp2_with (first | ((with_reducible refine gate_dst (N := 3) rfl ?_); refine xE (N := 3) (cs := #[.int .i64 a0_0, .slice A0_1 l0_1.length c0_1]) (t := 53) ?_; intro gb101 hg w11 BK101 hb; have GW101 : Aside0 (w.heap.size ≤ gb101) := gT hg; have GE101 : Aside0 (w.heap.size ≤ gb101) := gT hg; replace HB := sQ hb; clear hb hg) | (go_at_call 81; (with_reducible refine (impl_has.calls a1 a2 false _ A4.out).mono ?_); rintro e w' ⟨rfl, ⟨nd, rfl⟩⟩; (try exact dR); obtain ⟨hcz12_0, hcz12_1, hfz12_0, hfz12_1⟩ := zZ BK101; have p103 : 0 ≤ (a1 : Int) := oD; have q103 : a1 < (l0_1.length : Int) := oD; obtain ⟨ad103, e103, hx103_0⟩ := Kd.at_bool HR0_1.out a1 p103 q103; (try rw [← Nbq9.out] at hx103_0); cases e103; replace hx103_0 := (HB.out.cell (World.block_lt_of_cell? w _ hx103_0)).trans hx103_0; replace p103 := eq_true p103; replace q103 := eq_true q103))
  repeat (go_quiet (first | ((with_reducible refine gate_dst (N := 3) rfl ?_); refine xE (N := 3) (cs := #[.int .i64 a0_0, .slice A0_1 l0_1.length c0_1]) (t := 53) ?_; intro gb101 hg w11 BK101 hb; have GW101 : Aside0 (w.heap.size ≤ gb101) := gT hg; have GE101 : Aside0 (w.heap.size ≤ gb101) := gT hg; replace HB := sQ hb; clear hb hg) | (go_at_call 81; (with_reducible refine (impl_has.calls a1 a2 false _ A4.out).mono ?_); rintro e w' ⟨rfl, ⟨nd, rfl⟩⟩; (try exact dR); obtain ⟨hcz12_0, hcz12_1, hfz12_0, hfz12_1⟩ := zZ BK101; have p103 : 0 ≤ (a1 : Int) := oD; have q103 : a1 < (l0_1.length : Int) := oD; obtain ⟨ad103, e103, hx103_0⟩ := Kd.at_bool HR0_1.out a1 p103 q103; (try rw [← Nbq9.out] at hx103_0); cases e103; replace hx103_0 := (HB.out.cell (World.block_lt_of_cell? w _ hx103_0)).trans hx103_0; replace p103 := eq_true p103; replace q103 := eq_true q103)); try go_wp2_with (first | ((with_reducible refine gate_dst (N := 3) rfl ?_); refine xE (N := 3) (cs := #[.int .i64 a0_0, .slice A0_1 l0_1.length c0_1]) (t := 53) ?_; intro gb101 hg w11 BK101 hb; have GW101 : Aside0 (w.heap.size ≤ gb101) := gT hg; have GE101 : Aside0 (w.heap.size ≤ gb101) := gT hg; replace HB := sQ hb; clear hb hg) | (go_at_call 81; (with_reducible refine (impl_has.calls a1 a2 false _ A4.out).mono ?_); rintro e w' ⟨rfl, ⟨nd, rfl⟩⟩; (try exact dR); obtain ⟨hcz12_0, hcz12_1, hfz12_0, hfz12_1⟩ := zZ BK101; have p103 : 0 ≤ (a1 : Int) := oD; have q103 : a1 < (l0_1.length : Int) := oD; obtain ⟨ad103, e103, hx103_0⟩ := Kd.at_bool HR0_1.out a1 p103 q103; (try rw [← Nbq9.out] at hx103_0); cases e103; replace hx103_0 := (HB.out.cell (World.block_lt_of_cell? w _ hx103_0)).trans hx103_0; replace p103 := eq_true p103; replace q103 := eq_true q103)))
  go_ret
  exact ⟨fR, wB⟩
 replace c10 := Bool.eq_false_iff.mpr c10
 subst c10
 replace H := iF H
 by_cases c13 : 0 ≤ a2
 rotate_left
 ·rw [if_neg c13] at H
  exact absurd H (by simp)
 rw [if_pos c13] at H
 have c13b0 := eq_true c13
 have c13b1 := decide_eq_true c13
 clear c13
 obtain ⟨ji14, hji14⟩ : ∃ j_ : Int, (shl .i64 1 a2) = j_ := ⟨_, rfl⟩
 replace H : (if 0 ≤ (Go.bits .or .i64 a1 (ji14)) then (if (Go.bits .or .i64 a1 (ji14)) < (l0_1.length : Int) then (some (rdOf false l0_1 (Go.bits .or .i64 a1 (ji14)))) else (none)) else (none)) = some r := by first | (rw [hji14] at H; exact H) | (simp only [hji14] at H ⊢; exact H)
 (try rw [hji14] at A4)
 have hji14_ : (IntKind.i64.wrap (1 * 2 ^ min a2.toNat 64)) = ji14 := hji14
 have hji14z : a2 ≤ 64 → (IntKind.i64.wrap (1 * 2 ^ a2.toNat)) = ji14 := shl_small hji14
 have hji14u : (IntKind.i64.wrap (2 ^ min a2.toNat 64)) = ji14 := by have h_ := hji14_; rw [Int.one_mul] at h_; exact h_
 have hji14v : a2 ≤ 64 → (IntKind.i64.wrap (2 ^ a2.toNat)) = ji14 := fun hle_ => by have h_ := hji14z hle_; rw [Int.one_mul] at h_; exact h_
 have hji14y : (wrap64 (1 * 2 ^ min a2.toNat 64)) = ji14 := (i64_w _).symm.trans hji14_
 have hji14x : a2 ≤ 64 → (wrap64 (1 * 2 ^ a2.toNat)) = ji14 := fun h_ => (i64_w _).symm.trans (hji14z h_)
 by_cases c15 : 0 ≤ (Go.bits .or .i64 a1 (ji14))
 rotate_left
 ·rw [if_neg c15] at H
  exact absurd H (by simp)
 rw [if_pos c15] at H
 have c15b0 := decide_eq_true c15
 clear c15
 by_cases c16 : (Go.bits .or .i64 a1 (ji14)) < (l0_1.length : Int)
 rotate_left
 ·rw [if_neg c16] at H
  exact absurd H (by simp)
 rw [if_pos c16] at H
 have c16b0 := decide_eq_true c16
 clear c16
 obtain rfl := Option.some.inj H
 go_enter Tryz.func50, Tryz.ntmps50
 go_wp2_with (first | ((with_reducible refine gate_dst (N := 3) rfl ?_); refine xE (N := 3) (cs := #[.int .i64 a0_0, .slice A0_1 l0_1.length c0_1]) (t := 53) ?_; intro gb101 hg w17 BK101 hb; have GW101 : Aside0 (w.heap.size ≤ gb101) := gT hg; have GE101 : Aside0 (w.heap.size ≤ gb101) := gT hg; replace HB := sQ hb; clear hb hg) | (go_at_call 81; (with_reducible refine (impl_has.calls a1 a2 false _ A4.out).mono ?_); rintro e w' ⟨rfl, ⟨nd, rfl⟩⟩; (try exact dR); (try clear hcz12_0 hcz12_1 hfz12_0 hfz12_1 hcz12_0 hcz12_1 hfz12_0 hfz12_1 hcz12_0 hcz12_1 hfz12_0 hfz12_1); obtain ⟨hcz18_0, hcz18_1, hfz18_0, hfz18_1⟩ := zZ BK101; have p103 : 0 ≤ (a1 : Int) := oD; have q103 : a1 < (l0_1.length : Int) := oD; obtain ⟨ad103, e103, hx103_0⟩ := Kd.at_bool HR0_1.out a1 p103 q103; (try rw [← Nbq9.out] at hx103_0); cases e103; replace hx103_0 := (HB.out.cell (World.block_lt_of_cell? w _ hx103_0)).trans hx103_0; replace p103 := eq_true p103; replace q103 := eq_true q103; have p104 : 0 ≤ ((Go.bits .or .i64 a1 (ji14)) : Int) := oD; have q104 : (Go.bits .or .i64 a1 (ji14)) < (l0_1.length : Int) := oD; obtain ⟨ad104, e104, hx104_0⟩ := Kd.at_bool HR0_1.out (Go.bits .or .i64 a1 (ji14)) p104 q104; (try rw [← Nbq9.out] at hx104_0); obtain rfl : ad103 = ad104 := (by injection e104); replace hx104_0 := (HB.out.cell (World.block_lt_of_cell? w _ hx104_0)).trans hx104_0; replace p104 := eq_true p104; replace q104 := eq_true q104))
 repeat (go_quiet (first | ((with_reducible refine gate_dst (N := 3) rfl ?_); refine xE (N := 3) (cs := #[.int .i64 a0_0, .slice A0_1 l0_1.length c0_1]) (t := 53) ?_; intro gb101 hg w17 BK101 hb; have GW101 : Aside0 (w.heap.size ≤ gb101) := gT hg; have GE101 : Aside0 (w.heap.size ≤ gb101) := gT hg; replace HB := sQ hb; clear hb hg) | (go_at_call 81; (with_reducible refine (impl_has.calls a1 a2 false _ A4.out).mono ?_); rintro e w' ⟨rfl, ⟨nd, rfl⟩⟩; (try exact dR); obtain ⟨hcz18_0, hcz18_1, hfz18_0, hfz18_1⟩ := zZ BK101; have p103 : 0 ≤ (a1 : Int) := oD; have q103 : a1 < (l0_1.length : Int) := oD; obtain ⟨ad103, e103, hx103_0⟩ := Kd.at_bool HR0_1.out a1 p103 q103; (try rw [← Nbq9.out] at hx103_0); cases e103; replace hx103_0 := (HB.out.cell (World.block_lt_of_cell? w _ hx103_0)).trans hx103_0; replace p103 := eq_true p103; replace q103 := eq_true q103; have p104 : 0 ≤ ((Go.bits .or .i64 a1 (ji14)) : Int) := oD; have q104 : (Go.bits .or .i64 a1 (ji14)) < (l0_1.length : Int) := oD; obtain ⟨ad104, e104, hx104_0⟩ := Kd.at_bool HR0_1.out (Go.bits .or .i64 a1 (ji14)) p104 q104; (try rw [← Nbq9.out] at hx104_0); obtain rfl : ad103 = ad104 := (by injection e104); replace hx104_0 := (HB.out.cell (World.block_lt_of_cell? w _ hx104_0)).trans hx104_0; replace p104 := eq_true p104; replace q104 := eq_true q104)); try go_wp2_with (first | ((with_reducible refine gate_dst (N := 3) rfl ?_); refine xE (N := 3) (cs := #[.int .i64 a0_0, .slice A0_1 l0_1.length c0_1]) (t := 53) ?_; intro gb101 hg w17 BK101 hb; have GW101 : Aside0 (w.heap.size ≤ gb101) := gT hg; have GE101 : Aside0 (w.heap.size ≤ gb101) := gT hg; replace HB := sQ hb; clear hb hg) | (go_at_call 81; (with_reducible refine (impl_has.calls a1 a2 false _ A4.out).mono ?_); rintro e w' ⟨rfl, ⟨nd, rfl⟩⟩; (try exact dR); obtain ⟨hcz18_0, hcz18_1, hfz18_0, hfz18_1⟩ := zZ BK101; have p103 : 0 ≤ (a1 : Int) := oD; have q103 : a1 < (l0_1.length : Int) := oD; obtain ⟨ad103, e103, hx103_0⟩ := Kd.at_bool HR0_1.out a1 p103 q103; (try rw [← Nbq9.out] at hx103_0); cases e103; replace hx103_0 := (HB.out.cell (World.block_lt_of_cell? w _ hx103_0)).trans hx103_0; replace p103 := eq_true p103; replace q103 := eq_true q103; have p104 : 0 ≤ ((Go.bits .or .i64 a1 (ji14)) : Int) := oD; have q104 : (Go.bits .or .i64 a1 (ji14)) < (l0_1.length : Int) := oD; obtain ⟨ad104, e104, hx104_0⟩ := Kd.at_bool HR0_1.out (Go.bits .or .i64 a1 (ji14)) p104 q104; (try rw [← Nbq9.out] at hx104_0); obtain rfl : ad103 = ad104 := (by injection e104); replace hx104_0 := (HB.out.cell (World.block_lt_of_cell? w _ hx104_0)).trans hx104_0; replace p104 := eq_true p104; replace q104 := eq_true q104)))
 go_ret
 exact ⟨by first | rfl | (simp <;> rfl) | (simp only [← hji14]; first | rfl | (simp <;> rfl)) | (simp [*] <;> rfl), wB⟩
mutual
def impl_LowerWeights.l0 : Nat → Int → Int → Int → List Bool → Int → List Int → Option (Int × List Int × Bool)
 | 0, _, _, _, _, _, _ => none
 | k + 1, x23, x24, x109000, x109001, x113000, x113001 => if x24 < x23 then (impl_LowerWeights.l1 k x24 0 x23 x24 (x109001.length : Int) 0 x109000 x109001 x113000 x113001) else (some (x113000, x113001, true))
def impl_LowerWeights.l1 : Nat → Int → Int → Int → Int → Int → Int → Int → List Bool → Int → List Int → Option (Int × List Int × Bool)
 | 0, _, _, _, _, _, _, _, _, _, _ => none
 | k + 1, x6, x7, x23, x24, x29, x30, x109000, x109001, x113000, x113001 => if x30 < x29 then ((impl_votes_isSwing.f x109000 x109001 x30 x6).bind fun t114 => (if t114 = true then ((impl_Committee_weight.f k x113000 x113001 x30).bind fun t115 => (impl_LowerWeights.l1 k x6 (mx x7 (wrap64 (x113000 - t115))) x23 x24 x29 (wrap64 (x30 + 1)) x109000 x109001 x113000 x113001)) else (impl_LowerWeights.l1 k x6 x7 x23 x24 x29 (wrap64 (x30 + 1)) x109000 x109001 x113000 x113001))) else (if 0 ≤ x6 then (if x6 < (x113001.length : Int) then (impl_LowerWeights.l0 k x23 (wrap64 (x24 + 1)) x109000 x109001 x113000 (x113001.set (x6 : Int).toNat x7)) else (none)) else (none))
end
def impl_LowerWeights.f (k : Nat) (a0_0 : Int) (l0_1 : List Int) : Option (Int × List Int × Bool) := (impl_IsCommittee.f k a0_0 l0_1).bind fun t103 => (if t103 = true then ((impl_Committee_votes.f k a0_0 l0_1).bind fun bt104 => ((slices_Clone_int_int.f l0_1).bind fun t109 => (impl_LowerWeights.l0 k (t109.length : Int) 0 bt104.1 bt104.2 a0_0 t109))) else (some (0, ([] : List Int), false)))
def impl_LowerWeights.T4 : Bool × List (List Nat × List Nat) := (true, [([], []), ([0], [0]), ([], []), ([2], [2]), ([3], [3]), ([1, 4], [1, 4]), ([], []), ([6, 5, 4, 0, 1, 2, 3, 4, 5, 6], [5, 6])])
def impl_LowerWeights.B4 : List Nat := [0, 1, 0, 4, 12, 31, 0, 127]
theorem impl_LowerWeights.tab4 : rtab .any (opsOf Tryz.f11 4) = impl_LowerWeights.T4 := by kernel_rfl
theorem impl_LowerWeights.bits4 : waitsOk impl_LowerWeights.T4.2 impl_LowerWeights.B4 = true := by kernel_rfl
def impl_LowerWeights.T13 : Bool × List (List Nat × List Nat) := (true, [([], []), ([], []), ([1], [1]), ([], []), ([], []), ([3, 4], [3, 4]), ([2, 5], [2, 5]), ([0, 6], [0, 6]), ([7, 5, 0, 1, 2, 3, 4, 5, 6, 7], [0, 7])])
def impl_LowerWeights.B13 : List Nat := [0, 0, 2, 0, 0, 24, 62, 127, 255]
theorem impl_LowerWeights.tab13 : rtab .any (opsOf Tryz.f11 13) = impl_LowerWeights.T13 := by kernel_rfl
theorem impl_LowerWeights.bits13 : waitsOk impl_LowerWeights.T13.2 impl_LowerWeights.B13 = true := by kernel_rfl
theorem impl_LowerWeights.calls (k : Nat) (a0_0 : Int) (A0_1 : Option Addr) (c0_1 : Nat) (l0_1 : List Int) (r1 : Int) (r2 : List Int) (r3 : Bool) (w : World) (hr0_1 : Kd.C (Kd.int .i64) w A0_1 l0_1.length l0_1) (hc0_1 : l0_1.length ≤ c0_1) (h : impl_LowerWeights.f k a0_0 l0_1 = some (r1, r2, r3)) :
  Calls Tryz.prog 11 #[.agg #[.int .i64 a0_0, .slice A0_1 l0_1.length c0_1]] w fun e w' => ∃ v1_ : Value, e = .returned (.tuple #[.agg #[.int .i64 r1, v1_], .bool r3]) ∧ Kd.R (Kd.int .i64) 3 w' w.heap.size (fun _ => True) v1_ r2 ∧ Below w.heap.size w w' := by
 have hu24 := Tryz.underlying24
 have hu53 := Tryz.underlying53
 have HR0_1 := Aside0.mk hr0_1
 have HC0_1 := Aside0.mk hc0_1
 clear hr0_1 hc0_1
 have HB := Aside0.mk (Below.refl w.heap.size w)
 have H := h
 unfold impl_LowerWeights.f at H
 clear h
 replace H := oA H
 obtain ⟨t103, A2, H⟩ := H
 (try dsimp only at H)
 by_cases c3 : t103 = true
 rotate_left
 ·replace c3 := Bool.eq_false_iff.mpr c3
  subst c3
  replace H := iF H
  simp only [Option.some.injEq, Prod.mk.injEq] at H
  obtain ⟨rfl, rfl, rfl⟩ := H
  go_enter Tryz.func11, Tryz.ntmps11
  go_wp2_with (first | ((with_reducible refine gate_dst (N := 1) rfl ?_); refine xE (N := 1) (cs := #[.int .i64 a0_0, .slice A0_1 l0_1.length c0_1]) (t := 24) ?_; intro gb101 hg w71 BK101 hb; have GW101 := gS hg HB; have GE101 := gS hg HB; replace HB := sB HB hb; clear hb hg) | ((with_reducible refine gate_dst (N := 2) rfl ?_); refine xE (N := 2) (cs := #[.int .i64 0, .slice none 0 0]) (t := 24) ?_; intro gb102 hg w72 BK102 hb; have GW102 := gS hg HB; have GE102 := gS hg HB; have NB101_102 := nL hg (blk_lt BK101.out); have NB102_101 := nG hg (blk_lt BK101.out); replace BK101 := bB BK101 hb; replace HB := sB HB hb; clear hb hg; have hnb73 := NB101_102.out; have hnc73 := NB102_101.out; (try clear hcz52_0 hcz52_1 hfz52_0 hfz52_1 hcz60_0 hcz60_1 hfz60_0 hfz60_1 hcz66_0 hcz66_1 hfz66_0 hfz66_1 hcz69_0 hcz69_1 hfz69_0 hfz69_1); obtain ⟨hcz74_0, hcz74_1, hfz74_0, hfz74_1⟩ := zZ BK101) | ((with_reducible refine gate_callee (f := 16) rfl ?_); refine gL 10 Tryz.func16 #[.agg #[.int .i64 a0_0, .slice A0_1 l0_1.length c0_1]] ?_; (with_reducible refine (impl_IsCommittee.calls k a0_0 _ _ l0_1 false _ (Kd.C_below HR0_1.out HB.out) HC0_1.out A2.out).mono ?_); rintro e w75 ⟨rfl, hb⟩; refine ⟨_, rfl, ?_⟩; replace BK101 := bB BK101 hb; replace BK102 := bB BK102 hb; replace HB := sB HB hb; (try clear hb); (try clear hcz74_0 hcz74_1 hfz74_0 hfz74_1); obtain ⟨hcz76_0, hcz76_1, hfz76_0, hfz76_1⟩ := zZ BK102))
  refine bodyPost_ret (results_ct rfl _ _ gb102 24 #[.int .i64 0, .slice none 0 0] (0, 0) _ rfl (by refine blk_put (cs := #[.int .i64 0, .slice none 0 0]) ?_ 1 _ rfl; refine blk_put (cs := #[.int .i64 0, .slice none 0 0]) ?_ 0 _ rfl; exact BK102.out) Tryz.underlying24 rfl (by kernel_rfl)) rfl ?_
  exact ⟨_, fR, by first | exact Kd.R_nil _ _ _ _ _ | exact Kd.N_nil _ _ _ _ _ | exact Kd.V_nil _ _ _ _ _ | exact Kd.Q_nil _ _ _ _ _ | exact Kd.S_nil _ _ _ _ _, wB⟩
 subst c3
 replace H := iT H
 replace H := oB H
 obtain ⟨⟨t104, t105⟩, A40, H⟩ := H
 (try dsimp only at H)
 have A4 := Aside0.mk A40
 clear A40
 replace H := oA H
 obtain ⟨t109, A5, H⟩ := H
 (try dsimp only at H)
 have H' := Aside0.mk H
 clear H
 go_enter Tryz.func11, Tryz.ntmps11
 try go_wp2_with (first | ((with_reducible refine gate_dst (N := 1) rfl ?_); refine xE (N := 1) (cs := #[.int .i64 a0_0, .slice A0_1 l0_1.length c0_1]) (t := 24) ?_; intro gb101 hg w6 BK101 hb; have GW101 := gS hg HB; have GE101 := gS hg HB; replace HB := sB HB hb; clear hb hg) | ((with_reducible refine gate_dst (N := 2) rfl ?_); refine xE (N := 2) (cs := #[.int .i64 0, .slice none 0 0]) (t := 24) ?_; intro gb102 hg w7 BK102 hb; have GW102 := gS hg HB; have GE102 := gS hg HB; have NB101_102 := nL hg (blk_lt BK101.out); have NB102_101 := nG hg (blk_lt BK101.out); replace BK101 := bB BK101 hb; replace HB := sB HB hb; clear hb hg; have hnb8 := NB101_102.out; have hnc8 := NB102_101.out; obtain ⟨hcz9_0, hcz9_1, hfz9_0, hfz9_1⟩ := zZ BK101) | ((with_reducible refine gate_callee (f := 16) rfl ?_); refine gL 10 Tryz.func16 #[.agg #[.int .i64 a0_0, .slice A0_1 l0_1.length c0_1]] ?_; (with_reducible refine (impl_IsCommittee.calls k a0_0 _ _ l0_1 true _ (Kd.C_below HR0_1.out HB.out) HC0_1.out A2.out).mono ?_); rintro e w10 ⟨rfl, hb⟩; refine ⟨_, rfl, ?_⟩; replace BK101 := bB BK101 hb; replace BK102 := bB BK102 hb; replace HB := sB HB hb; (try clear hb); (try clear hcz9_0 hcz9_1 hfz9_0 hfz9_1); obtain ⟨hcz11_0, hcz11_1, hfz11_0, hfz11_1⟩ := zZ BK101) | ((with_reducible refine gate_callee (f := 40) rfl ?_); refine gL 14 Tryz.func40 #[.agg #[.int .i64 a0_0, .slice A0_1 l0_1.length c0_1]] ?_; (with_reducible refine (impl_Committee_votes.calls k a0_0 _ _ l0_1 t104 t105 _ (Kd.C_below HR0_1.out HB.out) HC0_1.out A4.out).mono ?_); rintro e w12 ⟨v106, rfl, ho0, hb⟩; refine ⟨_, rfl, ?_⟩; have HO107 := Aside0.mk (Kd.R_lower ho0 (below_size HB.out)); replace BK101 := bB BK101 hb; replace BK102 := bB BK102 hb; replace HB := sB HB hb; (try clear hb); (try clear ho0)) | ((with_reducible refine gate_dst (N := 4) rfl ?_); refine xE (N := 4) (cs := #[.int .i64 0, .slice none 0 0]) (t := 53) ?_; intro gb108 hg w13 BK108 hb; have GW108 := gS hg HB; have GE108 := gS hg HB; have NB101_108 := nL hg (blk_lt BK101.out); have NB108_101 := nG hg (blk_lt BK101.out); have NB102_108 := nL hg (blk_lt BK102.out); have NB108_102 := nG hg (blk_lt BK102.out); replace HO107 := rB HO107 hb; replace BK101 := bB BK101 hb; replace BK102 := bB BK102 hb; replace HB := sB HB hb; clear hb hg; have hnb14 := NB108_101.out; have hnc14 := NB101_108.out; have hnb15 := NB108_102.out; have hnc15 := NB102_108.out; (try clear hcz11_0 hcz11_1 hfz11_0 hfz11_1); obtain ⟨hcz16_0, hcz16_1, hfz16_0, hfz16_1⟩ := zZ BK108; obtain ⟨Ao17, co17, eo17⟩ := Kd.R_slice HO107.out; subst eo17))
 have n0_ : Aside0 (Kd.R Kd.bool 4 ((w13.setCell ⟨gb108, 0, none⟩ (.int .i64 t104)).setCell ⟨gb108, 1, none⟩ (.slice Ao17 t105.length co17)) w.heap.size (fun _ => True) (.slice Ao17 t105.length co17) t105) := ⟨by exact Kd.R_mono (Kd.R_far (p := ⟨gb108, 1, none⟩) (Kd.R_far (p := ⟨gb108, 0, none⟩) (Kd.R_types HO107.out BK108.out (by decide)) (fun _ hk => hk.2) (.int .i64 t104)) (fun _ hk => hk.2) (.slice Ao17 t105.length co17)) (fun _ hk => trivial)⟩
 have n1_ : Aside0 (((w13.setCell ⟨gb108, 0, none⟩ (.int .i64 t104)).setCell ⟨gb108, 1, none⟩ (.slice Ao17 t105.length co17)).heap[gb101]? = some (.cells #[.int .i64 a0_0, .slice A0_1 l0_1.length c0_1] 24 (0, 0))) := ⟨by refine blk_far ?_ NB101_108.out _; refine blk_far ?_ NB101_108.out _; exact BK101.out⟩
 have n2_ : Aside0 (((w13.setCell ⟨gb108, 0, none⟩ (.int .i64 t104)).setCell ⟨gb108, 1, none⟩ (.slice Ao17 t105.length co17)).heap[gb102]? = some (.cells #[.int .i64 0, .slice none 0 0] 24 (0, 0))) := ⟨by refine blk_far ?_ NB102_108.out _; refine blk_far ?_ NB102_108.out _; exact BK102.out⟩
 have n3_ : Aside0 (((w13.setCell ⟨gb108, 0, none⟩ (.int .i64 t104)).setCell ⟨gb108, 1, none⟩ (.slice Ao17 t105.length co17)).heap[gb108]? = some (.cells #[.int .i64 t104, .slice Ao17 t105.length co17] 53 (0, 0))) := ⟨by refine blk_put (cs := #[.int .i64 t104, .slice none 0 0]) ?_ 1 _ rfl; refine blk_put (cs := #[.int .i64 0, .slice none 0 0]) ?_ 0 _ rfl; exact BK108.out⟩
 have n4_ : Aside0 (Below w.heap.size w ((w13.setCell ⟨gb108, 0, none⟩ (.int .i64 t104)).setCell ⟨gb108, 1, none⟩ (.slice Ao17 t105.length co17))) := ⟨wB⟩
 (try clear HO107)
 (try clear BK101)
 (try clear BK102)
 (try clear BK108)
 (try clear HB)
 (try clear hcz16_0 hcz16_1 hfz16_0 hfz16_1)
 generalize ((w13.setCell ⟨gb108, 0, none⟩ (.int .i64 t104)).setCell ⟨gb108, 1, none⟩ (.slice Ao17 t105.length co17)) = w18 at n0_ n1_ n2_ n3_ n4_ ⊢
 have HO107 := n0_
 have BK101 := n1_
 have BK102 := n2_
 have BK108 := n3_
 have HB := n4_
 clear n0_ n1_ n2_ n3_ n4_
 replace HO107 := rD HO107
 replace BK101 := bD BK101
 replace BK102 := bD BK102
 replace BK108 := bD BK108
 replace HB := Aside0.mk (below_drew1 HB.out)
 refine start_ (n := 8) (S := fun w' => w'.cell? ⟨gb101, 0, none⟩ = some (.int .i64 a0_0) ∧ w'.cell? ⟨gb101, 1, none⟩ = some (.slice A0_1 l0_1.length c0_1)) (ds := []) #[F,F,F,F,F,F,F,F] (by kernel_rfl) rfl rfl ⟨(blk_cell BK101.out 0).trans rfl, (blk_cell BK101.out 1).trans rfl⟩ (fun hHeld => ?_); refine with_tabW impl_LowerWeights.tab4 impl_LowerWeights.bits4 (fun HT_ HW_ => ?_)
 generalize w18.drew = w19 at HO107 BK101 BK102 BK108 HB hHeld ⊢
 refine pU 0 HT_ ?_
 refine pU 2 HT_ ?_
 refine tK 1 HT_ HW_ hHeld (hy := by rintro w' ⟨s0, s1⟩; go_simp; with_reducible rfl) ?_
 refine tK 3 HT_ HW_ hHeld (hy := by rintro w' ⟨s0, s1⟩; go_simp; with_reducible rfl) ?_
 refine join_ (σ := Value × Nat) 1 #[T,T,T,T,T,T,T,F] (fun s_ => [(19, s_.1), (5, .pointer (some ⟨s_.2, 0, none⟩)), (20, .agg #[.int .i64 a0_0, s_.1])]) (fun s_ w' => (w'.cell? ⟨gb101, 0, none⟩ = some (.int .i64 a0_0) ∧ w'.cell? ⟨gb101, 1, none⟩ = some (.slice A0_1 l0_1.length c0_1)) ∧ (Kd.R Kd.bool 4 w' w.heap.size (fun _ => True) (.slice Ao17 t105.length co17) t105) ∧ (Kd.R (Kd.int .i64) 3 w' w.heap.size (fun _ => True) s_.1 t109) ∧ (w'.heap[gb101]? = some (.cells #[.int .i64 a0_0, .slice A0_1 l0_1.length c0_1] 24 (0, 0))) ∧ (w'.heap[gb102]? = some (.cells #[.int .i64 0, .slice none 0 0] 24 (0, 0))) ∧ (w'.heap[gb108]? = some (.cells #[.int .i64 t104, .slice Ao17 t105.length co17] 53 (0, 0))) ∧ (w'.heap[s_.2]? = some (.cells #[.int .i64 0, .slice none 0 0] 24 (0, 0))) ∧ (w.heap.size ≤ s_.2) ∧ (w.heap.size ≤ s_.2) ∧ (gb101 ≠ s_.2) ∧ (s_.2 ≠ gb101) ∧ (gb102 ≠ s_.2) ∧ (s_.2 ≠ gb102) ∧ (gb108 ≠ s_.2) ∧ (s_.2 ≠ gb108) ∧ (Below w.heap.size w w')) ?_ ?_
 rotate_left
 ·intro hCont
  refine two_ (i := 4) (j := 6) (Ni := some 19) (Nj := some 5) #[T,T,T,T,T,F,F,F] #[T,T,T,T,F,F,T,F] rfl rfl rfl rfl (two_of HT_.out (by kernel_rfl)) (by decide) (by decide) (fun K hK => ?_) (fun K hK => ?_)
  ·skip
   refine gE Tryz.func45 #[.slice A0_1 l0_1.length c0_1] ?_
   with_reducible refine (slices_Clone_int_int.calls _ _ l0_1 t109 _ (Kd.C_below HR0_1.out HB.out) HC0_1.out A5.out).mono ?_
   rintro e w20 ⟨v110, rfl, ho0, hb⟩
   refine ⟨_, rfl, ?_⟩
   have HO111 := Aside0.mk (Kd.R_lower ho0 (below_size HB.out))
   replace HO107 := rB HO107 hb
   replace BK101 := bB BK101 hb
   replace BK102 := bB BK102 hb
   replace BK108 := bB BK108 hb
   replace HB := sB HB hb
   (try clear hb)
   (try clear hb2)
   (try clear hk)
   (try clear hi)
   (try clear ho0)
   obtain ⟨Ao21, co21, eo21⟩ := Kd.R_slice HO111.out
   (first | subst eo21 | (injection eo21 with f1_ f2_ f3_; have f4_ := f1_.symm; have f5_ := f3_.symm; clear f1_ f2_ f3_; subst f4_; subst f5_))
   refine hK.out _ _ ⟨(blk_cell BK101.out 0).trans rfl, (blk_cell BK101.out 1).trans rfl⟩ (fun hHeld => ?_)
   clear hK K
   refine nM ?_
   refine pU 5 HT_ ?_
   refine oN 6 HT_ (fun K hK => ?_)
   refine box_step ?hg (N := 5) ?hd (cs := #[.int .i64 0, .slice none 0 0]) (t := 24) ?hr ?_; (case hd => rfl); (case hg => rfl); (case hr => first | (go_simp; done) | (go_simp; rfl))
   intro gb112 hg w22 hbox hb
   have BK112 := Aside0.mk (hbox)
   have GW112 := gS hg HB
   have GE112 := gS hg HB
   have NB101_112 := nL hg (blk_lt BK101.out)
   have NB112_101 := nG hg (blk_lt BK101.out)
   have NB102_112 := nL hg (blk_lt BK102.out)
   have NB112_102 := nG hg (blk_lt BK102.out)
   have NB108_112 := nL hg (blk_lt BK108.out)
   have NB112_108 := nG hg (blk_lt BK108.out)
   replace HO107 := rB HO107 hb
   replace HO111 := rB HO111 hb
   replace BK101 := bB BK101 hb
   replace BK102 := bB BK102 hb
   replace BK108 := bB BK108 hb
   replace HB := sB HB hb
   clear hb hg
   refine hK.out _ _ ⟨(blk_cell BK101.out 0).trans rfl, (blk_cell BK101.out 1).trans rfl⟩ (fun hHeld => ?_)
   clear hK K
   refine nM ?_
   exact norm_ (by simp only [putAll, Act.put, sA, sZ, sS]) (hCont (.slice Ao21 t109.length co21, gb112) _ ⟨hHeld, HO107.out, HO111.out, BK101.out, BK102.out, BK108.out, BK112.out, GW112.out, GE112.out, NB101_112.out, NB112_101.out, NB102_112.out, NB112_102.out, NB108_112.out, NB112_108.out, HB.out⟩)
  skip
  refine box_step ?hg (N := 5) ?hd (cs := #[.int .i64 0, .slice none 0 0]) (t := 24) ?hr ?_; (case hd => rfl); (case hg => rfl); (case hr => first | (go_simp; done) | (go_simp; rfl))
  intro gb112 hg w20 hbox hb
  have BK112 := Aside0.mk (hbox)
  have GW112 := gS hg HB
  have GE112 := gS hg HB
  have NB101_112 := nL hg (blk_lt BK101.out)
  have NB112_101 := nG hg (blk_lt BK101.out)
  have NB102_112 := nL hg (blk_lt BK102.out)
  have NB112_102 := nG hg (blk_lt BK102.out)
  have NB108_112 := nL hg (blk_lt BK108.out)
  have NB112_108 := nG hg (blk_lt BK108.out)
  replace HO107 := rB HO107 hb
  replace BK101 := bB BK101 hb
  replace BK102 := bB BK102 hb
  replace BK108 := bB BK108 hb
  replace HB := sB HB hb
  clear hb hg
  refine hK.out _ _ ⟨(blk_cell BK101.out 0).trans rfl, (blk_cell BK101.out 1).trans rfl⟩ (fun hHeld => ?_)
  clear hK K
  refine nM ?_
  refine oN 4 HT_ (fun K hK => ?_)
  refine gE Tryz.func45 #[.slice A0_1 l0_1.length c0_1] ?_
  with_reducible refine (slices_Clone_int_int.calls _ _ l0_1 t109 _ (Kd.C_below HR0_1.out HB.out) HC0_1.out A5.out).mono ?_
  rintro e w21 ⟨v110, rfl, ho0, hb⟩
  refine ⟨_, rfl, ?_⟩
  have HO111 := Aside0.mk (Kd.R_lower ho0 (below_size HB.out))
  replace HO107 := rB HO107 hb
  replace BK101 := bB BK101 hb
  replace BK102 := bB BK102 hb
  replace BK108 := bB BK108 hb
  replace BK112 := bB BK112 hb
  replace HB := sB HB hb
  (try clear hb)
  (try clear hb2)
  (try clear hk)
  (try clear hi)
  (try clear ho0)
  obtain ⟨Ao22, co22, eo22⟩ := Kd.R_slice HO111.out
  (first | subst eo22 | (injection eo22 with f1_ f2_ f3_; have f4_ := f1_.symm; have f5_ := f3_.symm; clear f1_ f2_ f3_; subst f4_; subst f5_))
  refine hK.out _ _ ⟨(blk_cell BK101.out 0).trans rfl, (blk_cell BK101.out 1).trans rfl⟩ (fun hHeld => ?_)
  clear hK K
  refine nM ?_
  refine pU 5 HT_ ?_
  exact norm_ (by simp only [putAll, Act.put, sA, sZ, sS]) (hCont (.slice Ao22 t109.length co22, gb112) _ ⟨hHeld, HO107.out, HO111.out, BK101.out, BK102.out, BK108.out, BK112.out, GW112.out, GE112.out, NB101_112.out, NB112_101.out, NB102_112.out, NB112_102.out, NB108_112.out, NB112_108.out, HB.out⟩)
 rintro ⟨v110, gb112⟩ w23 ⟨hS_, h0_, h1_, h2_, h3_, h4_, h5_, h6_, h7_, h8_, h9_, h10_, h11_, h12_, h13_, h14_⟩
 have n0_ : Aside0 (Kd.R Kd.bool 4 w23 w.heap.size (fun _ => True) (.slice Ao17 t105.length co17) t105) := ⟨h0_⟩
 have n1_ : Aside0 (Kd.R (Kd.int .i64) 3 w23 w.heap.size (fun _ => True) v110 t109) := ⟨h1_⟩
 have n2_ : Aside0 (w23.heap[gb101]? = some (.cells #[.int .i64 a0_0, .slice A0_1 l0_1.length c0_1] 24 (0, 0))) := ⟨h2_⟩
 have n3_ : Aside0 (w23.heap[gb102]? = some (.cells #[.int .i64 0, .slice none 0 0] 24 (0, 0))) := ⟨h3_⟩
 have n4_ : Aside0 (w23.heap[gb108]? = some (.cells #[.int .i64 t104, .slice Ao17 t105.length co17] 53 (0, 0))) := ⟨h4_⟩
 have n5_ : Aside0 (w23.heap[gb112]? = some (.cells #[.int .i64 0, .slice none 0 0] 24 (0, 0))) := ⟨h5_⟩
 have n6_ : Aside0 (w.heap.size ≤ gb112) := ⟨h6_⟩
 have n7_ : Aside0 (w.heap.size ≤ gb112) := ⟨h7_⟩
 have n8_ : Aside0 (gb101 ≠ gb112) := ⟨h8_⟩
 have n9_ : Aside0 (gb112 ≠ gb101) := ⟨h9_⟩
 have n10_ : Aside0 (gb102 ≠ gb112) := ⟨h10_⟩
 have n11_ : Aside0 (gb112 ≠ gb102) := ⟨h11_⟩
 have n12_ : Aside0 (gb108 ≠ gb112) := ⟨h12_⟩
 have n13_ : Aside0 (gb112 ≠ gb108) := ⟨h13_⟩
 have n14_ : Aside0 (Below w.heap.size w w23) := ⟨h14_⟩
 clear HO107
 clear BK101
 clear BK102
 clear BK108
 clear HB
 clear h0_ h1_ h2_ h3_ h4_ h5_ h6_ h7_ h8_ h9_ h10_ h11_ h12_ h13_ h14_
 have HO107 := n0_
 have HO111 := n1_
 have BK101 := n2_
 have BK102 := n3_
 have BK108 := n4_
 have BK112 := n5_
 have GW112 := n6_
 have GE112 := n7_
 have NB101_112 := n8_
 have NB112_101 := n9_
 have NB102_112 := n10_
 have NB112_102 := n11_
 have NB108_112 := n12_
 have NB112_108 := n13_
 have HB := n14_
 clear n0_ n1_ n2_ n3_ n4_ n5_ n6_ n7_ n8_ n9_ n10_ n11_ n12_ n13_ n14_
 have hHeld : w23.cell? ⟨gb101, 0, none⟩ = some (.int .i64 a0_0) ∧ w23.cell? ⟨gb101, 1, none⟩ = some (.slice A0_1 l0_1.length c0_1) := hS_
 obtain ⟨Ao24, co24, eo24⟩ := Kd.R_slice HO111.out
 (first | subst eo24 | (injection eo24 with f1_ f2_ f3_; have f4_ := f1_.symm; have f5_ := f3_.symm; clear f1_ f2_ f3_; subst f4_; subst f5_))
 refine norm_ (a' := ?_) ?_ ?_
 rotate_left
 ·simp only [putAll, Act.put, sA, sZ, sS]
  rfl
 refine oN 7 HT_ (fun K hK => ?_)
 have hs25 : w23.cell? ⟨gb112, 0, none⟩ = some (.int .i64 0) := (blk_cell BK112.out 0).trans rfl
 have hfs25 := blk_frozen BK112.out 0
 have hns25_0 := NB101_112.out
 have hns25_1 := NB102_112.out
 have hns25_2 := NB108_112.out
 have hms25_0 := NB112_101.out
 have hms25_1 := NB112_102.out
 have hms25_2 := NB112_108.out
 have hs26 : w23.cell? ⟨gb112, 1, none⟩ = some (.slice none 0 0) := (blk_cell BK112.out 1).trans rfl
 have hfs26 := blk_frozen BK112.out 1
 have hns26_0 := NB101_112.out
 have hns26_1 := NB102_112.out
 have hns26_2 := NB108_112.out
 have hms26_0 := NB112_101.out
 have hms26_1 := NB112_102.out
 have hms26_2 := NB112_108.out
 refine skip_ (w1 := ?_) (by rfl) rfl ?_ ?_
 rotate_left
 ·go_simp
  rfl
 refine hK.out _ _ ⟨((cell_far (p := ⟨gb112, _, none⟩) NB101_112.out _).trans (((cell_far (p := ⟨gb112, _, none⟩) NB101_112.out _).trans (hHeld.1)))), ((cell_far (p := ⟨gb112, _, none⟩) NB101_112.out _).trans (((cell_far (p := ⟨gb112, _, none⟩) NB101_112.out _).trans (hHeld.2))))⟩ (fun hHeld => ?_)
 clear hK K
 refine done_ (done_of HT_.out (by kernel_rfl)) ?_
 have hnb27 := NB112_101.out
 have hnc27 := NB101_112.out
 have hnb28 := NB112_102.out
 have hnc28 := NB102_112.out
 have hnb29 := NB112_108.out
 have hnc29 := NB108_112.out
 obtain ⟨hcz30_0, hcz30_1, hfz30_0, hfz30_1⟩ := zZ BK112
 try go_wp2
 go_loopg [24] k (fun kq v24 w' => ∃ (x24_1 : Int) (x113001_1 : List Int) (u113001 : Value), v24 = .int .i64 x24_1 ∧ Aside0 (impl_LowerWeights.l0 kq (t109.length : Int) x24_1 t104 t105 a0_0 x113001_1 = some (r1, r2, r3)) ∧ Aside0 (kq ≤ k) ∧ Aside0 (Kd.R Kd.bool 4 w' w.heap.size (fun _ => True) (.slice Ao17 t105.length co17) t105) ∧ Aside0 (Kd.R (Kd.int .i64) 3 w' w.heap.size (fun _ => True) u113001 x113001_1) ∧ Aside0 (w'.heap[gb101]? = some (.cells #[.int .i64 a0_0, (.slice A0_1 l0_1.length c0_1)] 24 (0, 0))) ∧ Aside0 (w'.heap[gb102]? = some (.cells #[.int .i64 0, (.slice none 0 0)] 24 (0, 0))) ∧ Aside0 (w'.heap[gb108]? = some (.cells #[.int .i64 t104, (.slice Ao17 t105.length co17)] 53 (0, 0))) ∧ Aside0 (w'.heap[gb112]? = some (.cells #[.int .i64 a0_0, u113001] 24 (0, 0))) ∧ Aside0 (Below w.heap.size w w'))
 case atStart => exact ⟨(0), (t109), (.slice Ao24 t109.length co24), gR, H', ⟨Nat.le_refl _⟩, ⟨by exact Kd.R_mono (Kd.R_far (p := ⟨gb112, 1, none⟩) (Kd.R_far (p := ⟨gb112, 0, none⟩) (Kd.R_types HO107.out BK112.out (by decide)) (fun _ hk => hk.2) (.int .i64 a0_0)) (fun _ hk => hk.2) (.slice Ao24 t109.length co24)) (fun _ hk => trivial)⟩, ⟨by exact Kd.R_mono (Kd.R_far (p := ⟨gb112, 1, none⟩) (Kd.R_far (p := ⟨gb112, 0, none⟩) (Kd.R_types HO111.out BK112.out (by decide)) (fun _ hk => hk.2) (.int .i64 a0_0)) (fun _ hk => hk.2) (.slice Ao24 t109.length co24)) (fun _ hk => trivial)⟩, ⟨by refine blk_far ?_ NB101_112.out _; refine blk_far ?_ NB101_112.out _; exact BK101.out⟩, ⟨by refine blk_far ?_ NB102_112.out _; refine blk_far ?_ NB102_112.out _; exact BK102.out⟩, ⟨by refine blk_far ?_ NB108_112.out _; refine blk_far ?_ NB108_112.out _; exact BK108.out⟩, ⟨by refine blk_put (cs := #[.int .i64 a0_0, .slice none 0 0]) ?_ 1 _ rfl; refine blk_put (cs := #[.int .i64 0, .slice none 0 0]) ?_ 0 _ rfl; exact BK112.out⟩, ⟨wB⟩⟩
 case round =>
  clear H'
  (try clear c1); (try clear c2); (try clear p2); (try clear c3); (try clear c4); (try clear c8); (try clear c11); (try clear c14); (try clear c15); (try clear c16); (try clear c27); (try clear c28); (try clear c29); (try clear hcz30_0); (try clear hcz30_1); (try clear hfz30_0); (try clear hfz30_1)
  obtain ⟨x24_1, x113001_1, u113001, rfl, HA, HK1, HO_109001, HO_113001, BK101, BK102, BK108, BK112, HB⟩ := hrel
  cases gk with
  | zero => exact absurd HA.out (by simp [impl_LowerWeights.l0])
  | succ k1 =>
   have H := HA.out
   clear HA
   simp only [impl_LowerWeights.l0] at H
   by_cases c31 : x24_1 < (t109.length : Int)
   rotate_left
   ·rw [if_neg c31] at H
    have c31b0 : decide (x24_1 < (t109.length : Int)) = false := decide_eq_false c31
    clear c31
    simp only [Option.some.injEq, Prod.mk.injEq] at H
    obtain ⟨rfl, rfl, rfl⟩ := H
    have hnb63 := NB112_101.out
    have hnc63 := NB101_112.out
    have hnb64 := NB112_102.out
    have hnc64 := NB102_112.out
    have hnb65 := NB112_108.out
    have hnc65 := NB108_112.out
    obtain ⟨hcz66_0, hcz66_1, hfz66_0, hfz66_1⟩ := zZ BK112
    have hnb67 := NB102_101.out
    have hnc67 := NB101_102.out
    have hnb68 := NB102_108.out
    have hnc68 := NB108_102.out
    obtain ⟨hcz69_0, hcz69_1, hfz69_0, hfz69_1⟩ := zZ BK102
    obtain ⟨Ao70, co70, eo70⟩ := Kd.R_slice HO_113001.out
    subst eo70
    go_wp2
    refine bodyPost_ret (results_ct rfl _ _ gb102 24 #[.int .i64 a0_0, .slice Ao70 x113001_1.length co70] (0, 0) _ rfl (by refine blk_put (cs := #[.int .i64 a0_0, .slice none 0 0]) ?_ 1 _ rfl; refine blk_put (cs := #[.int .i64 0, .slice none 0 0]) ?_ 0 _ rfl; exact BK102.out) Tryz.underlying24 rfl (by kernel_rfl)) rfl ?_
    exact ⟨_, fR, by exact Kd.R_mono (Kd.R_far (p := ⟨gb102, 1, none⟩) (Kd.R_far (p := ⟨gb102, 0, none⟩) (Kd.R_types HO_113001.out BK102.out (by decide)) (fun _ hk => hk.2) (.int .i64 a0_0)) (fun _ hk => hk.2) (.slice Ao70 x113001_1.length co70)) (fun _ hk => trivial), wB⟩
   rw [if_pos c31] at H
   have c31b0 := decide_eq_true c31
   clear c31
   have H' := Aside0.mk H
   clear H
   have hnb32 := NB108_101.out
   have hnc32 := NB101_108.out
   have hnb33 := NB108_102.out
   have hnc33 := NB102_108.out
   have hnb34 := NB108_112.out
   have hnc34 := NB112_108.out
   obtain ⟨hcz35_0, hcz35_1, hfz35_0, hfz35_1⟩ := zZ BK108
   go_wp2
   go_loopg [7, 30] k1 (fun kq v7 v30 w' => ∃ (x7_2 : Int) (x30_2 : Int), v7 = .int .i64 x7_2 ∧ v30 = .int .i64 x30_2 ∧ Aside0 (impl_LowerWeights.l1 kq x24_1 x7_2 (t109.length : Int) x24_1 (t105.length : Int) x30_2 t104 t105 a0_0 x113001_1 = some (r1, r2, r3)) ∧ Aside0 (kq ≤ k1) ∧ Aside0 (Kd.R Kd.bool 4 w' w.heap.size (fun _ => True) (.slice Ao17 t105.length co17) t105) ∧ Aside0 (Kd.R (Kd.int .i64) 3 w' w.heap.size (fun _ => True) u113001 x113001_1) ∧ Aside0 (w'.heap[gb101]? = some (.cells #[.int .i64 a0_0, (.slice A0_1 l0_1.length c0_1)] 24 (0, 0))) ∧ Aside0 (w'.heap[gb102]? = some (.cells #[.int .i64 0, (.slice none 0 0)] 24 (0, 0))) ∧ Aside0 (w'.heap[gb108]? = some (.cells #[.int .i64 t104, (.slice Ao17 t105.length co17)] 53 (0, 0))) ∧ Aside0 (w'.heap[gb112]? = some (.cells #[.int .i64 a0_0, u113001] 24 (0, 0))) ∧ Aside0 (Below w.heap.size w w'))
   case atStart => exact ⟨(0), (0), gR, gR, H', ⟨Nat.le_refl _⟩, ⟨by exact HO_109001.out⟩, ⟨by exact HO_113001.out⟩, ⟨by exact BK101.out⟩, ⟨by exact BK102.out⟩, ⟨by exact BK108.out⟩, ⟨by exact BK112.out⟩, ⟨wB⟩⟩
   case round =>
    clear H'
    (try clear c1); (try clear c2); (try clear p2); (try clear c3); (try clear c4); (try clear c8); (try clear c11); (try clear c14); (try clear c15); (try clear c16); (try clear c27); (try clear c28); (try clear c29); (try clear c31); (try clear c31b0); (try clear c32); (try clear c33); (try clear c34); (try clear hcz30_0); (try clear hcz30_1); (try clear hcz35_0); (try clear hcz35_1); (try clear hfz30_0); (try clear hfz30_1); (try clear hfz35_0); (try clear hfz35_1); (try clear p2)
    obtain ⟨x7_2, x30_2, rfl, rfl, HA, HK2, HO_109001, HO_113001, BK101, BK102, BK108, BK112, HB⟩ := hrel
    cases gk with
    | zero => exact absurd HA.out (by simp [impl_LowerWeights.l1])
    | succ k2 =>
     have H := HA.out
     clear HA
     simp only [impl_LowerWeights.l1] at H
     by_cases c36 : x30_2 < (t105.length : Int)
     rotate_left
     ·rw [if_neg c36] at H
      have c36b0 : decide (x30_2 < (t105.length : Int)) = false := decide_eq_false c36
      clear c36
      by_cases c54 : 0 ≤ x24_1
      rotate_left
      ·rw [if_neg c54] at H
       exact absurd H (by simp)
      rw [if_pos c54] at H
      have c54b0 := decide_eq_true c54
      clear c54
      by_cases c55 : x24_1 < (x113001_1.length : Int)
      rotate_left
      ·rw [if_neg c55] at H
       exact absurd H (by simp)
      rw [if_pos c55] at H
      have c55b0 := decide_eq_true c55
      clear c55
      obtain ⟨y113, hy113⟩ : ∃ y_ : List Int, y_ = (x113001_1.set (x24_1 : Int).toNat x7_2) := ⟨_, rfl⟩
      replace H : (impl_LowerWeights.l0 k2 (t109.length : Int) (wrap64 (x24_1 + 1)) t104 t105 a0_0 y113) = some (r1, r2, r3) := by first | (rw [hy113]; with_reducible exact H) | (have H2_ := (Option.bind_some _ _).symm.trans H; rw [hy113]; with_reducible exact H2_) | (have H2_ := (Option.bind_some _ _).symm.trans H; with_reducible exact H2_) | with_reducible exact H | (rw [hy113]; exact H) | exact H
      have Ny113 := Aside0.mk hy113
      clear hy113
      have H' := Aside0.mk H
      clear H
      have hnb57 := NB112_101.out
      have hnc57 := NB101_112.out
      have hnb58 := NB112_102.out
      have hnc58 := NB102_112.out
      have hnb59 := NB112_108.out
      have hnc59 := NB108_112.out
      obtain ⟨hcz60_0, hcz60_1, hfz60_0, hfz60_1⟩ := zZ BK112
      have p56 : 0 ≤ (x24_1 : Int) := oD
      have q56 : (x24_1 : Int) < ((x113001_1.length : Int) : Int) := oD
      obtain ⟨go56, co56, eo56, gb56, gl56, cl56, HG56⟩ := Kd.R_form HO_113001.out (by omega)
      (first | cases eo56 | (injection eo56 with ea_ en_ ec_; (first | subst ea_ | (injection ea_ with ea_; subst ea_)); subst ec_; clear en_))
      have GB56 := Aside0.mk gb56
      have GG56 := Aside0.mk HG56
      clear gb56 gl56 HG56
      obtain ⟨hx56_0, hf56_0⟩ := Kd.R_celln 0 HO_113001.out (x24_1 : Int) p56 q56
      replace p56 := eq_true p56
      replace q56 := eq_true q56
      have HP61 := Kd.R_putg HO_113001.out (x24_1 : Int) x7_2
      go_wp2_with (first | ((with_reducible refine gate_store (t := 3) (p := 50) rfl ?_); refine sE (t := 3) (p := 50) (w1 := (wr.setCell ⟨go56, (x24_1 : Int).toNat, none⟩ (.int .i64 x7_2))) ?_; intro w62 hw; have hg : wr.grownBy w62 (some go56) := (by rw [hw]; exact HP61.2); have hp_ : Kd.R (Kd.int .i64) 3 w62 w.heap.size (fun _ => True) (.slice (some ⟨go56, 0, none⟩) x113001_1.length co56) y113 := (by rw [hw, Ny113.out]; exact HP61.1); clear HP61; replace HO_109001 := Aside0.mk (Kd.R_over' (v := (.slice (some ⟨go56, 0, none⟩) x113001_1.length co56)) HO_109001.out (Kd.R_typed HO_113001.out) (by decide) hg); replace BK101 := Aside0.mk (blk_grown (g := gb101) (o := .cells #[.int .i64 a0_0, .slice A0_1 l0_1.length c0_1] 24 (0, 0)) BK101.out hg (Kd.R_ne HO_113001.out BK101.out (by decide))); replace BK102 := Aside0.mk (blk_grown (g := gb102) (o := .cells #[.int .i64 0, .slice none 0 0] 24 (0, 0)) BK102.out hg (Kd.R_ne HO_113001.out BK102.out (by decide))); replace BK108 := Aside0.mk (blk_grown (g := gb108) (o := .cells #[.int .i64 t104, .slice Ao17 t105.length co17] 53 (0, 0)) BK108.out hg (Kd.R_ne HO_113001.out BK108.out (by decide))); replace BK112 := Aside0.mk (blk_grown (g := gb112) (o := .cells #[.int .i64 a0_0, .slice (some ⟨go56, 0, none⟩) x113001_1.length co56] 24 (0, 0)) BK112.out hg (Kd.R_ne HO_113001.out BK112.out (by decide))); replace HO_113001 := Aside0.mk (hp_); replace HB := Aside0.mk ((by rw [hw]; exact below_set (HB.out) GB56.out : Below w.heap.size w w62)); clear hg hw hp_))
      go_roundg k2
      case measure => have := HK1.out; have := HK2.out; omega
      case rel => exact ⟨(wrap64 (x24_1 + 1)), (y113), (.slice (some ⟨go56, 0, none⟩) x113001_1.length co56), gR, H', ⟨by have := HK1.out; have := HK2.out; omega⟩, ⟨by exact HO_109001.out⟩, ⟨by exact HO_113001.out⟩, ⟨by exact BK101.out⟩, ⟨by exact BK102.out⟩, ⟨by exact BK108.out⟩, ⟨by exact BK112.out⟩, ⟨wB⟩⟩
     rw [if_pos c36] at H
     have c36b0 := decide_eq_true c36
     clear c36
     replace H := oA H
     obtain ⟨t114, A37, H⟩ := H
     (try dsimp only at H)
     by_cases c38 : t114 = true
     rotate_left
     ·replace c38 := Bool.eq_false_iff.mpr c38
      subst c38
      replace H := iF H
      have H' := Aside0.mk H
      clear H
      have hnb49 := NB108_101.out
      have hnc49 := NB101_108.out
      have hnb50 := NB108_102.out
      have hnc50 := NB102_108.out
      have hnb51 := NB108_112.out
      have hnc51 := NB112_108.out
      obtain ⟨hcz52_0, hcz52_1, hfz52_0, hfz52_1⟩ := zZ BK108
      go_wp2_with (first | ((with_reducible refine gate_callee (f := 50) rfl ?_); refine gL 36 Tryz.func50 #[.agg #[.int .i64 t104, .slice Ao17 t105.length co17], .int .i64 x30_2, .int .i64 x24_1] ?_; (with_reducible refine (impl_votes_isSwing.calls t104 _ _ t105 x30_2 x24_1 false _ ?side1 ?side2 A37.out).mono ?_); (case side1 => have hx_ := (Kd.R_reads' HO_109001.out).2.2; exact cC); (case side2 => exact (Kd.R_reads' HO_109001.out).2.1); rintro e w53 ⟨rfl, hb⟩; refine ⟨_, rfl, ?_⟩; replace HO_109001 := rB HO_109001 hb; replace HO_113001 := rB HO_113001 hb; replace BK101 := bB BK101 hb; replace BK102 := bB BK102 hb; replace BK108 := bB BK108 hb; replace BK112 := bB BK112 hb; replace HB := sB HB hb; (try clear hb)))
      go_roundg k2
      case measure => have := HK1.out; have := HK2.out; omega
      case rel => exact ⟨(x7_2), (wrap64 (x30_2 + 1)), gR, gR, H', ⟨by have := HK1.out; have := HK2.out; omega⟩, ⟨by exact HO_109001.out⟩, ⟨by exact HO_113001.out⟩, ⟨by exact BK101.out⟩, ⟨by exact BK102.out⟩, ⟨by exact BK108.out⟩, ⟨by exact BK112.out⟩, ⟨wB⟩⟩
     subst c38
     replace H := iT H
     replace H := oA H
     obtain ⟨t115, A39, H⟩ := H
     (try dsimp only at H)
     obtain ⟨ji40, hji40⟩ : ∃ j_ : Int, (mx x7_2 (wrap64 (a0_0 - t115))) = j_ := ⟨_, rfl⟩
     replace H : (impl_LowerWeights.l1 k2 x24_1 ji40 (t109.length : Int) x24_1 (t105.length : Int) (wrap64 (x30_2 + 1)) t104 t105 a0_0 x113001_1) = some (r1, r2, r3) := by first | (rw [hji40] at H; exact H) | (simp only [hji40] at H ⊢; exact H)
     (try rw [hji40] at A37)
     (try rw [hji40] at A39)
     have hji40_ : (if x7_2 < (wrap64 (a0_0 - t115)) then (wrap64 (a0_0 - t115)) else x7_2) = ji40 := hji40
     have H' := Aside0.mk H
     clear H
     have hnb41 := NB108_101.out
     have hnc41 := NB101_108.out
     have hnb42 := NB108_102.out
     have hnc42 := NB102_108.out
     have hnb43 := NB108_112.out
     have hnc43 := NB112_108.out
     obtain ⟨hcz44_0, hcz44_1, hfz44_0, hfz44_1⟩ := zZ BK108
     try go_wp2_with (first | ((with_reducible refine gate_callee (f := 50) rfl ?_); refine gL 36 Tryz.func50 #[.agg #[.int .i64 t104, .slice Ao17 t105.length co17], .int .i64 x30_2, .int .i64 x24_1] ?_; (with_reducible refine (impl_votes_isSwing.calls t104 _ _ t105 x30_2 x24_1 true _ ?side1 ?side2 A37.out).mono ?_); (case side1 => have hx_ := (Kd.R_reads' HO_109001.out).2.2; exact cC); (case side2 => exact (Kd.R_reads' HO_109001.out).2.1); rintro e w45 ⟨rfl, hb⟩; refine ⟨_, rfl, ?_⟩; replace HO_109001 := rB HO_109001 hb; replace HO_113001 := rB HO_113001 hb; replace BK101 := bB BK101 hb; replace BK102 := bB BK102 hb; replace BK108 := bB BK108 hb; replace BK112 := bB BK112 hb; replace HB := sB HB hb; (try clear hb)))
     replace HO_109001 := rD HO_109001
     replace HO_113001 := rD HO_113001
     replace BK101 := bD BK101
     replace BK102 := bD BK102
     replace BK108 := bD BK108
     replace BK112 := bD BK112
     replace HB := Aside0.mk (below_drew1 HB.out)
     obtain ⟨Ao47, co47, eo47⟩ := Kd.R_slice HO_113001.out
     (first | subst eo47 | (injection eo47 with f1_ f2_ f3_; have f4_ := f1_.symm; have f5_ := f3_.symm; clear f1_ f2_ f3_; subst f4_; subst f5_))
     refine start_ (n := 9) (S := fun w' => w'.cell? ⟨gb112, 0, none⟩ = some (.int .i64 a0_0) ∧ w'.cell? ⟨gb112, 1, none⟩ = some (.slice Ao47 x113001_1.length co47)) (ds := []) #[F,F,F,F,F,F,F,F,F] (by kernel_rfl) rfl rfl ⟨(blk_cell BK112.out 0).trans rfl, (blk_cell BK112.out 1).trans rfl⟩ (fun hHeld => ?_); refine with_tabW impl_LowerWeights.tab13 impl_LowerWeights.bits13 (fun HT_ HW_ => ?_)
     (try clear hcz44_0 hcz44_1 hfz44_0 hfz44_1)
     generalize w45.drew = w46 at HO_109001 HO_113001 BK101 BK102 BK108 BK112 HB hHeld ⊢
     refine pU 0 HT_ ?_
     refine pU 1 HT_ ?_
     refine pU 4 HT_ ?_
     refine tK 2 HT_ HW_ hHeld (hy := by rintro w' ⟨s0, s1⟩; go_simp; with_reducible rfl) ?_
     refine tK 3 HT_ HW_ hHeld (hy := by rintro w' ⟨s0, s1⟩; go_simp; with_reducible rfl) ?_
     refine oN 5 HT_ (fun K hK => ?_)
     refine gE Tryz.func51 #[.agg #[.int .i64 a0_0, .slice Ao47 x113001_1.length co47], .int .i64 x30_2] ?_
     with_reducible refine (impl_Committee_weight.calls k2 a0_0 _ _ x113001_1 x30_2 t115 _ ?side1 ?side2 A39.out).mono ?_
     (case side1 => have hx_ := (Kd.R_reads' HO_113001.out).2.2; exact cC)
     (case side2 => exact (Kd.R_reads' HO_113001.out).2.1)
     rintro e w48 ⟨rfl, hb⟩
     refine ⟨_, rfl, ?_⟩
     replace HO_109001 := rB HO_109001 hb
     replace HO_113001 := rB HO_113001 hb
     replace BK101 := bB BK101 hb
     replace BK102 := bB BK102 hb
     replace BK108 := bB BK108 hb
     replace BK112 := bB BK112 hb
     replace HB := sB HB hb
     (try clear hb)
     (try clear hb2)
     (try clear hk)
     (try clear hi)
     refine hK.out _ _ ⟨(blk_cell BK112.out 0).trans rfl, (blk_cell BK112.out 1).trans rfl⟩ (fun hHeld => ?_)
     clear hK K
     refine nM ?_
     refine pU 6 HT_ ?_
     refine pU 7 HT_ ?_
     refine pU 8 HT_ ?_
     refine done_ (done_of HT_.out (by kernel_rfl)) ?_
     try go_wp2
     go_roundg k2
     case measure => have := HK1.out; have := HK2.out; omega
     case rel => exact ⟨(ji40), (wrap64 (x30_2 + 1)), (by first | rfl | (simp; done) | (simp only [← hji40] <;> (first | rfl | simp)) | (simp [*]; done)), gR, H', ⟨by have := HK1.out; have := HK2.out; omega⟩, ⟨by exact HO_109001.out⟩, ⟨by exact HO_113001.out⟩, ⟨by exact BK101.out⟩, ⟨by exact BK102.out⟩, ⟨by exact BK108.out⟩, ⟨by exact BK112.out⟩, ⟨wB⟩⟩
def spec_l1Least.f (a0 : Int) (a1 : Int) : Option (Int) := if a0 < a1 then (some a0) else (some a1)
theorem spec_l1Least.calls (a0 : Int) (a1 : Int) (r : Int) (w : World) (h : spec_l1Least.f a0 a1 = some r) :
  Calls Tryz.prog 52 #[.int .i64 a0, .int .i64 a1] w fun e w' => e = .returned (.int .i64 r) ∧ Drawn0 w w' := by
 have H := h
 unfold spec_l1Least.f at H
 clear h
 by_cases c3 : a0 < a1
 ·rw [if_pos c3] at H
  have c3b0 := decide_eq_true c3
  clear c3
  obtain rfl := Option.some.inj H
  go_enter Tryz.func52, Tryz.ntmps52
  go_wp2
  go_ret
  exact ⟨by first | rfl | (simp; done) | (simp [*]; done), dS⟩
 rw [if_neg c3] at H
 have c3b0 : decide (a0 < a1) = false := decide_eq_false c3
 clear c3
 obtain rfl := Option.some.inj H
 go_enter Tryz.func52, Tryz.ntmps52
 go_wp2
 go_ret
 exact ⟨by first | rfl | (simp; done) | (simp [*]; done), dS⟩
mutual
def spec_LowerWeights.l0 : Nat → List Bool → Int → Int → Int → List Int → Option (Int × List Int × Bool)
 | 0, _, _, _, _, _ => none
 | k + 1, x4, x24, x25, x111000, x111001 => if x25 < x24 then (if 0 ≤ x25 then (if x25 < (x111001.length : Int) then (spec_LowerWeights.l1 k x4 x25 (rd x111001 x25) x24 x25 x4 (x4.length : Int) 0 x111000 x111001) else (none)) else (none)) else (some (x111000, x111001, true))
def spec_LowerWeights.l1 : Nat → List Bool → Int → Int → Int → Int → List Bool → Int → Int → Int → List Int → Option (Int × List Int × Bool)
 | 0, _, _, _, _, _, _, _, _, _, _ => none
 | k + 1, x4, x6, x7, x24, x25, x33, x34, x35, x111000, x111001 => if x35 < x34 then (if 0 ≤ x35 then (if x35 < (x33.length : Int) then (if rdOf false x33 x35 = true then (if 0 ≤ x6 then (spec_LowerWeights.j2 k x4 x6 x7 x35 x24 x25 x33 x34 x35 ((Int.tmod (shr .i64 x35 x6) 2) == 1) x111000 x111001) else (none)) else (spec_LowerWeights.j2 k x4 x6 x7 x35 x24 x25 x33 x34 x35 false x111000 x111001)) else (none)) else (none)) else (if 0 ≤ x6 then (if x6 < (x111001.length : Int) then (spec_LowerWeights.l0 k x4 x24 (wrap64 (x25 + 1)) x111000 (x111001.set (x6 : Int).toNat (wrap64 ((rd x111001 x6) - x7)))) else (none)) else (none))
def spec_LowerWeights.j2 : Nat → List Bool → Int → Int → Int → Int → Int → List Bool → Int → Int → Bool → Int → List Int → Option (Int × List Int × Bool)
 | 0, _, _, _, _, _, _, _, _, _, _, _, _ => none
 | k + 1, x4, x6, x7, x8, x24, x25, x33, x34, x35, x47, x111000, x111001 => if x47 = true then ((spec_voWeight.f k x111000 x111001 x8).bind fun t115 => ((spec_l1Least.f x7 (wrap64 (t115 - x111000))).bind fun t116 => (spec_LowerWeights.l1 k x4 x6 t116 x24 x25 x33 x34 (wrap64 (x35 + 1)) x111000 x111001))) else (spec_LowerWeights.l1 k x4 x6 x7 x24 x25 x33 x34 (wrap64 (x35 + 1)) x111000 x111001)
end
def spec_LowerWeights.f (k : Nat) (a0_0 : Int) (l0_1 : List Int) : Option (Int × List Int × Bool) := (spec_voGood.f k a0_0 l0_1).bind fun t103 => (if t103 = true then ((spec_voWins.f k a0_0 l0_1).bind fun t104 => ((spec_l1Own.f l0_1).bind fun t107 => (spec_LowerWeights.l0 k t104 (t107.length : Int) 0 a0_0 t107))) else (some (0, ([] : List Int), false)))
def spec_LowerWeights.T4 : Bool × List (List Nat × List Nat) := (true, [([], []), ([0], [0]), ([], []), ([2], [2]), ([3], [3]), ([1, 4], [1, 4]), ([], []), ([6, 5, 4, 0, 1, 2, 3, 4, 5, 6], [5, 6])])
def spec_LowerWeights.B4 : List Nat := [0, 1, 0, 4, 12, 31, 0, 127]
theorem spec_LowerWeights.tab4 : rtab .any (opsOf Tryz.f12 4) = spec_LowerWeights.T4 := by kernel_rfl
theorem spec_LowerWeights.bits4 : waitsOk spec_LowerWeights.T4.2 spec_LowerWeights.B4 = true := by kernel_rfl
def spec_LowerWeights.T13 : Bool × List (List Nat × List Nat) := (true, [([], []), ([], []), ([], []), ([1, 2], [1, 2]), ([], []), ([4], [4]), ([3, 5], [3, 5]), ([0, 6, 3], [0, 6]), ([7, 7, 0, 1, 2, 3, 4, 5, 6, 7], [0, 7])])
def spec_LowerWeights.B13 : List Nat := [0, 0, 0, 6, 0, 16, 62, 127, 255]
theorem spec_LowerWeights.tab13 : rtab .any (opsOf Tryz.f12 13) = spec_LowerWeights.T13 := by kernel_rfl
theorem spec_LowerWeights.bits13 : waitsOk spec_LowerWeights.T13.2 spec_LowerWeights.B13 = true := by kernel_rfl
theorem spec_LowerWeights.calls (k : Nat) (a0_0 : Int) (A0_1 : Option Addr) (c0_1 : Nat) (l0_1 : List Int) (r1 : Int) (r2 : List Int) (r3 : Bool) (w : World) (hr0_1 : Kd.C (Kd.int .i64) w A0_1 l0_1.length l0_1) (hc0_1 : l0_1.length ≤ c0_1) (h : spec_LowerWeights.f k a0_0 l0_1 = some (r1, r2, r3)) :
  Calls Tryz.prog 12 #[.agg #[.int .i64 a0_0, .slice A0_1 l0_1.length c0_1]] w fun e w' => ∃ v1_ : Value, e = .returned (.tuple #[.agg #[.int .i64 r1, v1_], .bool r3]) ∧ Kd.R (Kd.int .i64) 3 w' w.heap.size (fun _ => True) v1_ r2 ∧ Below w.heap.size w w' := by
 have hu24 := Tryz.underlying24
 have HR0_1 := Aside0.mk hr0_1
 have HC0_1 := Aside0.mk hc0_1
 clear hr0_1 hc0_1
 have HB := Aside0.mk (Below.refl w.heap.size w)
 have H := h
 unfold spec_LowerWeights.f at H
 clear h
 replace H := oA H
 obtain ⟨t103, A2, H⟩ := H
 (try dsimp only at H)
 by_cases c3 : t103 = true
 rotate_left
 ·replace c3 := Bool.eq_false_iff.mpr c3
  subst c3
  replace H := iF H
  simp only [Option.some.injEq, Prod.mk.injEq] at H
  obtain ⟨rfl, rfl, rfl⟩ := H
  go_enter Tryz.func12, Tryz.ntmps12
  go_wp2_with (first | ((with_reducible refine gate_dst (N := 1) rfl ?_); refine xE (N := 1) (cs := #[.int .i64 a0_0, .slice A0_1 l0_1.length c0_1]) (t := 24) ?_; intro gb101 hg w59 BK101 hb; have GW101 : Aside0 (w.heap.size ≤ gb101) := gT hg; have GE101 : Aside0 (w.heap.size ≤ gb101) := gT hg; replace HB := sQ hb; clear hb hg) | ((with_reducible refine gate_dst (N := 2) rfl ?_); refine xE (N := 2) (cs := #[.int .i64 0, .slice none 0 0]) (t := 24) ?_; intro gb102 hg w60 BK102 hb; have GW102 := Aside0.mk ((by rw [hg]; exact (below_size (by repeat (first | exact HB.out | apply ba | apply bd | apply be | refine bs ?_ GE101.out))) : w.heap.size ≤ gb102)); have GE102 := Aside0.mk ((by rw [hg]; exact (below_size (by repeat (first | exact HB.out | apply ba | apply bd | apply be | refine bs ?_ GE101.out))) : w.heap.size ≤ gb102)); have NB101_102 := Aside0.mk ((by rw [hg]; exact Nat.ne_of_lt (blk_lt (g := gb101) (o := .cells #[.int .i64 a0_0, .slice A0_1 l0_1.length c0_1] 24 (0, 0)) (bQ BK101)) : gb101 ≠ gb102)); have NB102_101 := Aside0.mk ((by rw [hg]; exact Nat.ne_of_gt (blk_lt (g := gb101) (o := .cells #[.int .i64 a0_0, .slice A0_1 l0_1.length c0_1] 24 (0, 0)) (bQ BK101)) : gb102 ≠ gb101)); replace BK101 := bP BK101 hb; replace HB := sQ hb; clear hb hg; have hnb61 := NB101_102.out; have hnc61 := NB102_101.out; (try clear hcz50_0 hcz50_1 hfz50_0 hfz50_1 hcz55_0 hcz55_1 hfz55_0 hfz55_1 hcz57_0 hcz57_1 hfz57_0 hfz57_1); obtain ⟨hcz62_0, hcz62_1, hfz62_0, hfz62_1⟩ := zZ BK101) | ((with_reducible refine gate_callee (f := 37) rfl ?_); refine gL 11 Tryz.func37 #[.agg #[.int .i64 a0_0, .slice A0_1 l0_1.length c0_1]] ?_; (with_reducible refine (spec_voGood.calls k a0_0 _ _ l0_1 false _ ?side1 ?side2 A2.out).mono ?_); (case side1 => have hx_ := (Kd.C_below HR0_1.out HB.out); exact cC); (case side2 => exact HC0_1.out); rintro e w63 ⟨rfl, hb⟩; refine ⟨_, rfl, ?_⟩; replace BK101 := bP BK101 hb; replace BK102 := bP BK102 hb; replace HB := sQ hb; (try clear hb); (try clear hcz62_0 hcz62_1 hfz62_0 hfz62_1); obtain ⟨hcz64_0, hcz64_1, hfz64_0, hfz64_1⟩ := zZ BK102))
  refine bodyPost_ret (results_ct rfl _ _ gb102 24 #[.int .i64 0, .slice none 0 0] (0, 0) _ rfl (by (with_reducible repeat (first | refine kN ?_ _ | refine kD ?_ | refine kA ?_ _)); refine blk_put (cs := #[.int .i64 0, .slice none 0 0]) ?_ 1 _ rfl; (with_reducible repeat (first | refine kN ?_ _ | refine kD ?_ | refine kA ?_ _)); refine blk_put (cs := #[.int .i64 0, .slice none 0 0]) ?_ 0 _ rfl; (with_reducible repeat (first | refine kN ?_ _ | refine kD ?_ | refine kA ?_ _)); exact BK102.out) Tryz.underlying24 rfl (by kernel_rfl)) rfl ?_
  exact ⟨_, fR, by first | exact Kd.R_nil _ _ _ _ _ | exact Kd.N_nil _ _ _ _ _ | exact Kd.V_nil _ _ _ _ _ | exact Kd.Q_nil _ _ _ _ _ | exact Kd.S_nil _ _ _ _ _, wB⟩
 subst c3
 replace H := iT H
 replace H := oA H
 obtain ⟨t104, A4, H⟩ := H
 (try dsimp only at H)
 replace H := oA H
 obtain ⟨t107, A5, H⟩ := H
 (try dsimp only at H)
 have H' := Aside0.mk H
 clear H
 go_enter Tryz.func12, Tryz.ntmps12
 try go_wp2_with (first | ((with_reducible refine gate_dst (N := 1) rfl ?_); refine xE (N := 1) (cs := #[.int .i64 a0_0, .slice A0_1 l0_1.length c0_1]) (t := 24) ?_; intro gb101 hg w6 BK101 hb; have GW101 := gS hg HB; have GE101 := gS hg HB; replace HB := sB HB hb; clear hb hg) | ((with_reducible refine gate_dst (N := 2) rfl ?_); refine xE (N := 2) (cs := #[.int .i64 0, .slice none 0 0]) (t := 24) ?_; intro gb102 hg w7 BK102 hb; have GW102 := gS hg HB; have GE102 := gS hg HB; have NB101_102 := nL hg (blk_lt BK101.out); have NB102_101 := nG hg (blk_lt BK101.out); replace BK101 := bB BK101 hb; replace HB := sB HB hb; clear hb hg; have hnb8 := NB101_102.out; have hnc8 := NB102_101.out; obtain ⟨hcz9_0, hcz9_1, hfz9_0, hfz9_1⟩ := zZ BK101) | ((with_reducible refine gate_callee (f := 37) rfl ?_); refine gL 11 Tryz.func37 #[.agg #[.int .i64 a0_0, .slice A0_1 l0_1.length c0_1]] ?_; (with_reducible refine (spec_voGood.calls k a0_0 _ _ l0_1 true _ (Kd.C_below HR0_1.out HB.out) HC0_1.out A2.out).mono ?_); rintro e w10 ⟨rfl, hb⟩; refine ⟨_, rfl, ?_⟩; replace BK101 := bB BK101 hb; replace BK102 := bB BK102 hb; replace HB := sB HB hb; (try clear hb); (try clear hcz9_0 hcz9_1 hfz9_0 hfz9_1); obtain ⟨hcz11_0, hcz11_1, hfz11_0, hfz11_1⟩ := zZ BK101) | ((with_reducible refine gate_callee (f := 44) rfl ?_); refine gL 15 Tryz.func44 #[.agg #[.int .i64 a0_0, .slice A0_1 l0_1.length c0_1]] ?_; (with_reducible refine (spec_voWins.calls k a0_0 _ _ l0_1 t104 _ (Kd.C_below HR0_1.out HB.out) HC0_1.out A4.out).mono ?_); rintro e w12 ⟨v105, rfl, ho0, hb⟩; refine ⟨_, rfl, ?_⟩; have HO106 := Aside0.mk (Kd.R_lower ho0 (below_size HB.out)); replace BK101 := bB BK101 hb; replace BK102 := bB BK102 hb; replace HB := sB HB hb; (try clear hb); (try clear ho0)))
 replace HO106 := rD HO106
 replace BK101 := bD BK101
 replace BK102 := bD BK102
 replace HB := Aside0.mk (below_drew1 HB.out)
 refine start_ (n := 8) (S := fun w' => w'.cell? ⟨gb101, 0, none⟩ = some (.int .i64 a0_0) ∧ w'.cell? ⟨gb101, 1, none⟩ = some (.slice A0_1 l0_1.length c0_1)) (ds := []) #[F,F,F,F,F,F,F,F] (by kernel_rfl) rfl rfl ⟨(blk_cell BK101.out 0).trans rfl, (blk_cell BK101.out 1).trans rfl⟩ (fun hHeld => ?_); refine with_tabW spec_LowerWeights.tab4 spec_LowerWeights.bits4 (fun HT_ HW_ => ?_)
 (try clear hcz11_0 hcz11_1 hfz11_0 hfz11_1)
 generalize w12.drew = w13 at HO106 BK101 BK102 HB hHeld ⊢
 refine pU 0 HT_ ?_
 refine pU 2 HT_ ?_
 refine tK 1 HT_ HW_ hHeld (hy := by rintro w' ⟨s0, s1⟩; go_simp; with_reducible rfl) ?_
 refine tK 3 HT_ HW_ hHeld (hy := by rintro w' ⟨s0, s1⟩; go_simp; with_reducible rfl) ?_
 refine join_ (σ := Value × Nat) 1 #[T,T,T,T,T,T,T,F] (fun s_ => [(20, s_.1), (5, .pointer (some ⟨s_.2, 0, none⟩)), (21, .agg #[.int .i64 a0_0, s_.1])]) (fun s_ w' => (w'.cell? ⟨gb101, 0, none⟩ = some (.int .i64 a0_0) ∧ w'.cell? ⟨gb101, 1, none⟩ = some (.slice A0_1 l0_1.length c0_1)) ∧ (Kd.R Kd.bool 4 w' w.heap.size (fun _ => True) v105 t104) ∧ (Kd.R (Kd.int .i64) 3 w' w.heap.size (fun _ => True) s_.1 t107) ∧ (w'.heap[gb101]? = some (.cells #[.int .i64 a0_0, .slice A0_1 l0_1.length c0_1] 24 (0, 0))) ∧ (w'.heap[gb102]? = some (.cells #[.int .i64 0, .slice none 0 0] 24 (0, 0))) ∧ (w'.heap[s_.2]? = some (.cells #[.int .i64 0, .slice none 0 0] 24 (0, 0))) ∧ (w.heap.size ≤ s_.2) ∧ (w.heap.size ≤ s_.2) ∧ (gb101 ≠ s_.2) ∧ (s_.2 ≠ gb101) ∧ (gb102 ≠ s_.2) ∧ (s_.2 ≠ gb102) ∧ (Below w.heap.size w w')) ?_ ?_
 rotate_left
 ·intro hCont
  refine two_ (i := 4) (j := 6) (Ni := some 20) (Nj := some 5) #[T,T,T,T,T,F,F,F] #[T,T,T,T,F,F,T,F] rfl rfl rfl rfl (two_of HT_.out (by kernel_rfl)) (by decide) (by decide) (fun K hK => ?_) (fun K hK => ?_)
  ·skip
   refine gE Tryz.func49 #[.slice A0_1 l0_1.length c0_1] ?_
   with_reducible refine (spec_l1Own.calls _ _ l0_1 t107 _ (Kd.C_below HR0_1.out HB.out) HC0_1.out A5.out).mono ?_
   rintro e w14 ⟨v108, rfl, ho0, hb⟩
   refine ⟨_, rfl, ?_⟩
   have HO109 := Aside0.mk (Kd.R_lower ho0 (below_size HB.out))
   replace HO106 := rB HO106 hb
   replace BK101 := bB BK101 hb
   replace BK102 := bB BK102 hb
   replace HB := sB HB hb
   (try clear hb)
   (try clear hb2)
   (try clear hk)
   (try clear hi)
   (try clear ho0)
   obtain ⟨Ao15, co15, eo15⟩ := Kd.R_slice HO109.out
   (first | subst eo15 | (injection eo15 with f1_ f2_ f3_; have f4_ := f1_.symm; have f5_ := f3_.symm; clear f1_ f2_ f3_; subst f4_; subst f5_))
   refine hK.out _ _ ⟨(blk_cell BK101.out 0).trans rfl, (blk_cell BK101.out 1).trans rfl⟩ (fun hHeld => ?_)
   clear hK K
   refine nM ?_
   refine pU 5 HT_ ?_
   refine oN 6 HT_ (fun K hK => ?_)
   refine box_step ?hg (N := 5) ?hd (cs := #[.int .i64 0, .slice none 0 0]) (t := 24) ?hr ?_; (case hd => rfl); (case hg => rfl); (case hr => first | (go_simp; done) | (go_simp; rfl))
   intro gb110 hg w16 hbox hb
   have BK110 := Aside0.mk (hbox)
   have GW110 := gS hg HB
   have GE110 := gS hg HB
   have NB101_110 := nL hg (blk_lt BK101.out)
   have NB110_101 := nG hg (blk_lt BK101.out)
   have NB102_110 := nL hg (blk_lt BK102.out)
   have NB110_102 := nG hg (blk_lt BK102.out)
   replace HO106 := rB HO106 hb
   replace HO109 := rB HO109 hb
   replace BK101 := bB BK101 hb
   replace BK102 := bB BK102 hb
   replace HB := sB HB hb
   clear hb hg
   refine hK.out _ _ ⟨(blk_cell BK101.out 0).trans rfl, (blk_cell BK101.out 1).trans rfl⟩ (fun hHeld => ?_)
   clear hK K
   refine nM ?_
   exact norm_ (by simp only [putAll, Act.put, sA, sZ, sS]) (hCont (.slice Ao15 t107.length co15, gb110) _ ⟨hHeld, HO106.out, HO109.out, BK101.out, BK102.out, BK110.out, GW110.out, GE110.out, NB101_110.out, NB110_101.out, NB102_110.out, NB110_102.out, HB.out⟩)
  skip
  refine box_step ?hg (N := 5) ?hd (cs := #[.int .i64 0, .slice none 0 0]) (t := 24) ?hr ?_; (case hd => rfl); (case hg => rfl); (case hr => first | (go_simp; done) | (go_simp; rfl))
  intro gb110 hg w14 hbox hb
  have BK110 := Aside0.mk (hbox)
  have GW110 := gS hg HB
  have GE110 := gS hg HB
  have NB101_110 := nL hg (blk_lt BK101.out)
  have NB110_101 := nG hg (blk_lt BK101.out)
  have NB102_110 := nL hg (blk_lt BK102.out)
  have NB110_102 := nG hg (blk_lt BK102.out)
  replace HO106 := rB HO106 hb
  replace BK101 := bB BK101 hb
  replace BK102 := bB BK102 hb
  replace HB := sB HB hb
  clear hb hg
  refine hK.out _ _ ⟨(blk_cell BK101.out 0).trans rfl, (blk_cell BK101.out 1).trans rfl⟩ (fun hHeld => ?_)
  clear hK K
  refine nM ?_
  refine oN 4 HT_ (fun K hK => ?_)
  refine gE Tryz.func49 #[.slice A0_1 l0_1.length c0_1] ?_
  with_reducible refine (spec_l1Own.calls _ _ l0_1 t107 _ (Kd.C_below HR0_1.out HB.out) HC0_1.out A5.out).mono ?_
  rintro e w15 ⟨v108, rfl, ho0, hb⟩
  refine ⟨_, rfl, ?_⟩
  have HO109 := Aside0.mk (Kd.R_lower ho0 (below_size HB.out))
  replace HO106 := rB HO106 hb
  replace BK101 := bB BK101 hb
  replace BK102 := bB BK102 hb
  replace BK110 := bB BK110 hb
  replace HB := sB HB hb
  (try clear hb)
  (try clear hb2)
  (try clear hk)
  (try clear hi)
  (try clear ho0)
  obtain ⟨Ao16, co16, eo16⟩ := Kd.R_slice HO109.out
  (first | subst eo16 | (injection eo16 with f1_ f2_ f3_; have f4_ := f1_.symm; have f5_ := f3_.symm; clear f1_ f2_ f3_; subst f4_; subst f5_))
  refine hK.out _ _ ⟨(blk_cell BK101.out 0).trans rfl, (blk_cell BK101.out 1).trans rfl⟩ (fun hHeld => ?_)
  clear hK K
  refine nM ?_
  refine pU 5 HT_ ?_
  exact norm_ (by simp only [putAll, Act.put, sA, sZ, sS]) (hCont (.slice Ao16 t107.length co16, gb110) _ ⟨hHeld, HO106.out, HO109.out, BK101.out, BK102.out, BK110.out, GW110.out, GE110.out, NB101_110.out, NB110_101.out, NB102_110.out, NB110_102.out, HB.out⟩)
 rintro ⟨v108, gb110⟩ w17 ⟨hS_, h0_, h1_, h2_, h3_, h4_, h5_, h6_, h7_, h8_, h9_, h10_, h11_⟩
 have n0_ : Aside0 (Kd.R Kd.bool 4 w17 w.heap.size (fun _ => True) v105 t104) := ⟨h0_⟩
 have n1_ : Aside0 (Kd.R (Kd.int .i64) 3 w17 w.heap.size (fun _ => True) v108 t107) := ⟨h1_⟩
 have n2_ : Aside0 (w17.heap[gb101]? = some (.cells #[.int .i64 a0_0, .slice A0_1 l0_1.length c0_1] 24 (0, 0))) := ⟨h2_⟩
 have n3_ : Aside0 (w17.heap[gb102]? = some (.cells #[.int .i64 0, .slice none 0 0] 24 (0, 0))) := ⟨h3_⟩
 have n4_ : Aside0 (w17.heap[gb110]? = some (.cells #[.int .i64 0, .slice none 0 0] 24 (0, 0))) := ⟨h4_⟩
 have n5_ : Aside0 (w.heap.size ≤ gb110) := ⟨h5_⟩
 have n6_ : Aside0 (w.heap.size ≤ gb110) := ⟨h6_⟩
 have n7_ : Aside0 (gb101 ≠ gb110) := ⟨h7_⟩
 have n8_ : Aside0 (gb110 ≠ gb101) := ⟨h8_⟩
 have n9_ : Aside0 (gb102 ≠ gb110) := ⟨h9_⟩
 have n10_ : Aside0 (gb110 ≠ gb102) := ⟨h10_⟩
 have n11_ : Aside0 (Below w.heap.size w w17) := ⟨h11_⟩
 clear HO106
 clear BK101
 clear BK102
 clear HB
 clear h0_ h1_ h2_ h3_ h4_ h5_ h6_ h7_ h8_ h9_ h10_ h11_
 have HO106 := n0_
 have HO109 := n1_
 have BK101 := n2_
 have BK102 := n3_
 have BK110 := n4_
 have GW110 := n5_
 have GE110 := n6_
 have NB101_110 := n7_
 have NB110_101 := n8_
 have NB102_110 := n9_
 have NB110_102 := n10_
 have HB := n11_
 clear n0_ n1_ n2_ n3_ n4_ n5_ n6_ n7_ n8_ n9_ n10_ n11_
 have hHeld : w17.cell? ⟨gb101, 0, none⟩ = some (.int .i64 a0_0) ∧ w17.cell? ⟨gb101, 1, none⟩ = some (.slice A0_1 l0_1.length c0_1) := hS_
 obtain ⟨Ao18, co18, eo18⟩ := Kd.R_slice HO109.out
 (first | subst eo18 | (injection eo18 with f1_ f2_ f3_; have f4_ := f1_.symm; have f5_ := f3_.symm; clear f1_ f2_ f3_; subst f4_; subst f5_))
 refine norm_ (a' := ?_) ?_ ?_
 rotate_left
 ·simp only [putAll, Act.put, sA, sZ, sS]
  rfl
 refine oN 7 HT_ (fun K hK => ?_)
 have hs19 : w17.cell? ⟨gb110, 0, none⟩ = some (.int .i64 0) := (blk_cell BK110.out 0).trans rfl
 have hfs19 := blk_frozen BK110.out 0
 have hns19_0 := NB101_110.out
 have hns19_1 := NB102_110.out
 have hms19_0 := NB110_101.out
 have hms19_1 := NB110_102.out
 have hs20 : w17.cell? ⟨gb110, 1, none⟩ = some (.slice none 0 0) := (blk_cell BK110.out 1).trans rfl
 have hfs20 := blk_frozen BK110.out 1
 have hns20_0 := NB101_110.out
 have hns20_1 := NB102_110.out
 have hms20_0 := NB110_101.out
 have hms20_1 := NB110_102.out
 refine skip_ (w1 := ?_) (by rfl) rfl ?_ ?_
 rotate_left
 ·go_simp
  rfl
 refine hK.out _ _ ⟨((cell_far (p := ⟨gb110, _, none⟩) NB101_110.out _).trans (((cell_far (p := ⟨gb110, _, none⟩) NB101_110.out _).trans (hHeld.1)))), ((cell_far (p := ⟨gb110, _, none⟩) NB101_110.out _).trans (((cell_far (p := ⟨gb110, _, none⟩) NB101_110.out _).trans (hHeld.2))))⟩ (fun hHeld => ?_)
 clear hK K
 refine done_ (done_of HT_.out (by kernel_rfl)) ?_
 have hnb21 := NB110_101.out
 have hnc21 := NB101_110.out
 have hnb22 := NB110_102.out
 have hnc22 := NB102_110.out
 obtain ⟨hcz23_0, hcz23_1, hfz23_0, hfz23_1⟩ := zZ BK110
 try go_wp2
 go_loopg [25] k (fun kq v25 w' => ∃ (x25_1 : Int) (x111001_1 : List Int) (u111001 : Value), v25 = .int .i64 x25_1 ∧ Aside0 (spec_LowerWeights.l0 kq t104 (t107.length : Int) x25_1 a0_0 x111001_1 = some (r1, r2, r3)) ∧ Aside0 (kq ≤ k) ∧ Aside0 (Kd.R Kd.bool 4 w' w.heap.size (fun _ => True) v105 t104) ∧ Aside0 (Kd.R (Kd.int .i64) 3 w' w.heap.size (fun _ => True) u111001 x111001_1) ∧ Aside0 (w'.heap[gb101]? = some (.cells #[.int .i64 a0_0, (.slice A0_1 l0_1.length c0_1)] 24 (0, 0))) ∧ Aside0 (w'.heap[gb102]? = some (.cells #[.int .i64 0, (.slice none 0 0)] 24 (0, 0))) ∧ Aside0 (w'.heap[gb110]? = some (.cells #[.int .i64 a0_0, u111001] 24 (0, 0))) ∧ Aside0 (Below w.heap.size w w'))
 case atStart => exact ⟨(0), (t107), (.slice Ao18 t107.length co18), gR, H', ⟨Nat.le_refl _⟩, ⟨by exact Kd.R_mono (Kd.R_far (p := ⟨gb110, 1, none⟩) (Kd.R_far (p := ⟨gb110, 0, none⟩) (Kd.R_types HO106.out BK110.out (by decide)) (fun _ hk => hk.2) (.int .i64 a0_0)) (fun _ hk => hk.2) (.slice Ao18 t107.length co18)) (fun _ hk => trivial)⟩, ⟨by exact Kd.R_mono (Kd.R_far (p := ⟨gb110, 1, none⟩) (Kd.R_far (p := ⟨gb110, 0, none⟩) (Kd.R_types HO109.out BK110.out (by decide)) (fun _ hk => hk.2) (.int .i64 a0_0)) (fun _ hk => hk.2) (.slice Ao18 t107.length co18)) (fun _ hk => trivial)⟩, ⟨by refine blk_far ?_ NB101_110.out _; refine blk_far ?_ NB101_110.out _; exact BK101.out⟩, ⟨by refine blk_far ?_ NB102_110.out _; refine blk_far ?_ NB102_110.out _; exact BK102.out⟩, ⟨by refine blk_put (cs := #[.int .i64 a0_0, .slice none 0 0]) ?_ 1 _ rfl; refine blk_put (cs := #[.int .i64 0, .slice none 0 0]) ?_ 0 _ rfl; exact BK110.out⟩, ⟨wB⟩⟩
 case round =>
  clear H'
  (try clear c1); (try clear c2); (try clear p2); (try clear c3); (try clear c4); (try clear c8); (try clear c12); (try clear c21); (try clear c22); (try clear hcz23_0); (try clear hcz23_1); (try clear hfz23_0); (try clear hfz23_1)
  obtain ⟨x25_1, x111001_1, u111001, rfl, HA, HK1, HO_4, HO_111001, BK101, BK102, BK110, HB⟩ := hrel
  cases gk with
  | zero => exact absurd HA.out (by simp [spec_LowerWeights.l0])
  | succ k1 =>
   have H := HA.out
   clear HA
   simp only [spec_LowerWeights.l0] at H
   by_cases c24 : x25_1 < (t107.length : Int)
   rotate_left
   ·rw [if_neg c24] at H
    have c24b0 : decide (x25_1 < (t107.length : Int)) = false := decide_eq_false c24
    clear c24
    simp only [Option.some.injEq, Prod.mk.injEq] at H
    obtain ⟨rfl, rfl, rfl⟩ := H
    have hnb53 := NB110_101.out
    have hnc53 := NB101_110.out
    have hnb54 := NB110_102.out
    have hnc54 := NB102_110.out
    obtain ⟨hcz55_0, hcz55_1, hfz55_0, hfz55_1⟩ := zZ BK110
    have hnb56 := NB102_101.out
    have hnc56 := NB101_102.out
    obtain ⟨hcz57_0, hcz57_1, hfz57_0, hfz57_1⟩ := zZ BK102
    obtain ⟨Ao58, co58, eo58⟩ := Kd.R_slice HO_111001.out
    subst eo58
    go_wp2
    refine bodyPost_ret (results_ct rfl _ _ gb102 24 #[.int .i64 a0_0, .slice Ao58 x111001_1.length co58] (0, 0) _ rfl (by (with_reducible repeat (first | refine kN ?_ _ | refine kD ?_ | refine kA ?_ _)); refine blk_put (cs := #[.int .i64 a0_0, .slice none 0 0]) ?_ 1 _ rfl; (with_reducible repeat (first | refine kN ?_ _ | refine kD ?_ | refine kA ?_ _)); refine blk_put (cs := #[.int .i64 0, .slice none 0 0]) ?_ 0 _ rfl; (with_reducible repeat (first | refine kN ?_ _ | refine kD ?_ | refine kA ?_ _)); exact BK102.out) Tryz.underlying24 rfl (by kernel_rfl)) rfl ?_
    exact ⟨_, fR, by (with_reducible repeat (first | apply qA | apply qN | apply qD)); exact Kd.R_mono (Kd.R_far (p := ⟨gb102, 1, none⟩) (Kd.R_far (p := ⟨gb102, 0, none⟩) (Kd.R_types HO_111001.out BK102.out (by decide)) (fun _ hk => hk.2) (.int .i64 a0_0)) (fun _ hk => hk.2) (.slice Ao58 x111001_1.length co58)) (fun _ hk => trivial), wB⟩
   rw [if_pos c24] at H
   have c24b0 := decide_eq_true c24
   clear c24
   by_cases c25 : 0 ≤ x25_1
   rotate_left
   ·rw [if_neg c25] at H
    exact absurd H (by simp)
   rw [if_pos c25] at H
   have c25b0 := decide_eq_true c25
   clear c25
   by_cases c26 : x25_1 < (x111001_1.length : Int)
   rotate_left
   ·rw [if_neg c26] at H
    exact absurd H (by simp)
   rw [if_pos c26] at H
   have c26b0 := decide_eq_true c26
   clear c26
   have H' := Aside0.mk H
   clear H
   have hnb27 := NB110_101.out
   have hnc27 := NB101_110.out
   have hnb28 := NB110_102.out
   have hnc28 := NB102_110.out
   obtain ⟨hcz29_0, hcz29_1, hfz29_0, hfz29_1⟩ := zZ BK110
   obtain ⟨Ao30, co30, eo30⟩ := Kd.R_slice HO_111001.out
   subst eo30
   have p111 : 0 ≤ (x25_1 : Int) := oD
   have q111 : x25_1 < (x111001_1.length : Int) := oD
   obtain ⟨ad111, e111, hx111_0⟩ := Kd.at_int (Kd.R_reads' HO_111001.out).2.2 x25_1 p111 q111
   cases e111
   replace p111 := eq_true p111
   replace q111 := eq_true q111
   obtain ⟨Ao31, co31, eo31⟩ := Kd.R_slice HO_4.out
   subst eo31
   go_wp2
   go_loopg [7, 35] k1 (fun kq v7 v35 w' => ∃ (x7_2 : Int) (x35_2 : Int), v7 = .int .i64 x7_2 ∧ v35 = .int .i64 x35_2 ∧ Aside0 (spec_LowerWeights.l1 kq t104 x25_1 x7_2 (t107.length : Int) x25_1 t104 (t104.length : Int) x35_2 a0_0 x111001_1 = some (r1, r2, r3)) ∧ Aside0 (kq ≤ k1) ∧ Aside0 (Kd.R Kd.bool 4 w' w.heap.size (fun _ => True) (.slice Ao31 t104.length co31) t104) ∧ Aside0 (Kd.R Kd.bool 4 w' w.heap.size (fun _ => True) (.slice Ao31 t104.length co31) t104) ∧ Aside0 (Kd.R (Kd.int .i64) 3 w' w.heap.size (fun _ => True) (.slice (some ad111) x111001_1.length co30) x111001_1) ∧ Aside0 (w'.heap[gb101]? = some (.cells #[.int .i64 a0_0, (.slice A0_1 l0_1.length c0_1)] 24 (0, 0))) ∧ Aside0 (w'.heap[gb102]? = some (.cells #[.int .i64 0, (.slice none 0 0)] 24 (0, 0))) ∧ Aside0 (w'.heap[gb110]? = some (.cells #[.int .i64 a0_0, (.slice (some ad111) x111001_1.length co30)] 24 (0, 0))) ∧ Aside0 (Below w.heap.size w w'))
   case atStart => exact ⟨(rd x111001_1 x25_1), (0), gR, gR, H', ⟨Nat.le_refl _⟩, ⟨by exact HO_4.out⟩, ⟨by exact HO_4.out⟩, ⟨by exact HO_111001.out⟩, ⟨by exact BK101.out⟩, ⟨by exact BK102.out⟩, ⟨by exact BK110.out⟩, ⟨wB⟩⟩
   case round =>
    clear H'
    (try clear c1); (try clear p1); (try clear q1); (try clear hx1); (try clear c2); (try clear p2); (try clear c3); (try clear c4); (try clear c8); (try clear p11); (try clear q11); (try clear hx11); (try clear c12); (try clear c21); (try clear c22); (try clear c24); (try clear c24b0); (try clear c25); (try clear c25b0); (try clear c26); (try clear c26b0); (try clear c27); (try clear c28); (try clear hcz23_0); (try clear hcz23_1); (try clear hcz29_0); (try clear hcz29_1); (try clear hfz23_0); (try clear hfz23_1); (try clear hfz29_0); (try clear hfz29_1); (try clear hx111_0); (try clear p111); (try clear p2); (try clear q111)
    obtain ⟨x7_2, x35_2, rfl, rfl, HA, HK2, HO_4, HO_33, HO_111001, BK101, BK102, BK110, HB⟩ := hrel
    cases gk with
    | zero => exact absurd HA.out (by simp [spec_LowerWeights.l1])
    | succ k2 =>
     have H := HA.out
     clear HA
     simp only [spec_LowerWeights.l1] at H
     by_cases c32 : x35_2 < (t104.length : Int)
     rotate_left
     ·rw [if_neg c32] at H
      have c32b0 : decide (x35_2 < (t104.length : Int)) = false := decide_eq_false c32
      clear c32
      by_cases c45 : 0 ≤ x25_1
      rotate_left
      ·rw [if_neg c45] at H
       exact absurd H (by simp)
      rw [if_pos c45] at H
      have c45b0 := decide_eq_true c45
      clear c45
      by_cases c46 : x25_1 < (x111001_1.length : Int)
      rotate_left
      ·rw [if_neg c46] at H
       exact absurd H (by simp)
      rw [if_pos c46] at H
      have c46b0 := decide_eq_true c46
      clear c46
      obtain ⟨y113, hy113⟩ : ∃ y_ : List Int, y_ = (x111001_1.set (x25_1 : Int).toNat (wrap64 ((rd x111001_1 x25_1) - x7_2))) := ⟨_, rfl⟩
      replace H : (spec_LowerWeights.l0 k2 t104 (t107.length : Int) (wrap64 (x25_1 + 1)) a0_0 y113) = some (r1, r2, r3) := by first | (rw [hy113]; with_reducible exact H) | (have H2_ := (Option.bind_some _ _).symm.trans H; rw [hy113]; with_reducible exact H2_) | (have H2_ := (Option.bind_some _ _).symm.trans H; with_reducible exact H2_) | with_reducible exact H | (rw [hy113]; exact H) | exact H
      have Ny113 := Aside0.mk hy113
      clear hy113
      have H' := Aside0.mk H
      clear H
      have hnb48 := NB110_101.out
      have hnc48 := NB101_110.out
      have hnb49 := NB110_102.out
      have hnc49 := NB102_110.out
      obtain ⟨hcz50_0, hcz50_1, hfz50_0, hfz50_1⟩ := zZ BK110
      have p112 : 0 ≤ (x25_1 : Int) := oD
      have q112 : x25_1 < (x111001_1.length : Int) := oD
      obtain ⟨ad112, e112, hx112_0⟩ := Kd.at_int (Kd.R_reads' HO_111001.out).2.2 x25_1 p112 q112
      obtain rfl : ad111 = ad112 := (by injection e112)
      replace p112 := eq_true p112
      replace q112 := eq_true q112
      have p47 : 0 ≤ (x25_1 : Int) := oD
      have q47 : (x25_1 : Int) < ((x111001_1.length : Int) : Int) := oD
      obtain ⟨go47, co47, eo47, gb47, gl47, cl47, HG47⟩ := Kd.R_form HO_111001.out (by omega)
      (first | cases eo47 | (injection eo47 with ea_ en_ ec_; (first | subst ea_ | (injection ea_ with ea_; subst ea_)); subst ec_; clear en_))
      have GB47 := Aside0.mk gb47
      have GG47 := Aside0.mk HG47
      clear gb47 gl47 HG47
      (first | simp only [add_plain] at hx111_0 | skip)
      (first | simp only [add_plain] at hx112_0 | skip)
      obtain ⟨hx47_0, hf47_0⟩ := Kd.R_celln 0 HO_111001.out (x25_1 : Int) p47 q47
      replace p47 := eq_true p47
      replace q47 := eq_true q47
      have HP51 := Kd.R_putg HO_111001.out (x25_1 : Int) (wrap64 ((rd x111001_1 x25_1) - x7_2))
      go_wp2_with (first | ((with_reducible refine gate_store (t := 3) (p := 64) rfl ?_); refine sE (t := 3) (p := 64) (w1 := (wr.setCell ⟨go47, (x25_1 : Int).toNat, none⟩ (.int .i64 (wrap64 ((rd x111001_1 x25_1) - x7_2))))) ?_; intro w52 hw; have hg : wr.grownBy w52 (some go47) := (by rw [hw]; exact HP51.2); have hp_ : Kd.R (Kd.int .i64) 3 w52 w.heap.size (fun _ => True) (.slice (some ⟨go47, 0, none⟩) x111001_1.length co30) y113 := (by rw [hw, Ny113.out]; exact HP51.1); clear HP51; replace HO_4 := Aside0.mk (Kd.R_over' (v := (.slice (some ⟨go47, 0, none⟩) x111001_1.length co30)) (rQ HO_4) (Kd.R_typed HO_111001.out) (by decide) hg); replace HO_33 := Aside0.mk (Kd.R_over' (v := (.slice (some ⟨go47, 0, none⟩) x111001_1.length co30)) (rQ HO_33) (Kd.R_typed HO_111001.out) (by decide) hg); replace BK101 := Aside0.mk (blk_grown (g := gb101) (o := .cells #[.int .i64 a0_0, .slice A0_1 l0_1.length c0_1] 24 (0, 0)) (bQ BK101) hg (Kd.R_ne HO_111001.out BK101.out (by decide))); replace BK102 := Aside0.mk (blk_grown (g := gb102) (o := .cells #[.int .i64 0, .slice none 0 0] 24 (0, 0)) (bQ BK102) hg (Kd.R_ne HO_111001.out BK102.out (by decide))); replace BK110 := Aside0.mk (blk_grown (g := gb110) (o := .cells #[.int .i64 a0_0, .slice (some ⟨go47, 0, none⟩) x111001_1.length co30] 24 (0, 0)) (bQ BK110) hg (Kd.R_ne HO_111001.out BK110.out (by decide))); replace HO_111001 := Aside0.mk (hp_); replace HB := Aside0.mk ((by rw [hw]; exact below_set (HB.out) GB47.out : Below w.heap.size w w52)); clear hg hw hp_))
      go_roundg k2
      case measure => have := HK1.out; have := HK2.out; omega
      case rel => exact ⟨(wrap64 (x25_1 + 1)), (y113), (.slice (some ⟨go47, 0, none⟩) x111001_1.length co30), gR, H', ⟨by have := HK1.out; have := HK2.out; omega⟩, ⟨rQ HO_4⟩, ⟨rQ HO_111001⟩, ⟨bQ BK101⟩, ⟨bQ BK102⟩, ⟨bQ BK110⟩, ⟨wB⟩⟩
     rw [if_pos c32] at H
     have c32b0 := decide_eq_true c32
     clear c32
     by_cases c33 : 0 ≤ x35_2
     rotate_left
     ·rw [if_neg c33] at H
      exact absurd H (by simp)
     rw [if_pos c33] at H
     have c33b0 := decide_eq_true c33
     clear c33
     by_cases c34 : x35_2 < (t104.length : Int)
     rotate_left
     ·rw [if_neg c34] at H
      exact absurd H (by simp)
     rw [if_pos c34] at H
     have c34b0 := decide_eq_true c34
     clear c34
     have HC35 := Aside0.mk H
     clear H
     have p114 : 0 ≤ (x35_2 : Int) := oD
     have q114 : x35_2 < (t104.length : Int) := oD
     obtain ⟨ad114, e114, hx114_0⟩ := Kd.at_bool (Kd.R_reads' HO_33.out).2.2 x35_2 p114 q114
     cases e114
     replace p114 := eq_true p114
     replace q114 := eq_true q114
     go_upto_region 12 with (fail)
     obtain ⟨bq36, hbq36⟩ : ∃ b_ : Bool, b_ = (rdOf false t104 x35_2) := ⟨_, rfl⟩
     rw [← hbq36] at HC35
     (try rw [← hbq36])
     have Nbq36 := Aside0.mk hbq36
     clear hbq36
     go_cut [47] (fun v47 wc => ∃ (kq : Nat) (x47_34 : Bool), v47 = .bool x47_34 ∧ Aside0 (spec_LowerWeights.j2 kq t104 x25_1 x7_2 x35_2 (t107.length : Int) x25_1 t104 (t104.length : Int) x35_2 x47_34 a0_0 x111001_1 = some (r1, r2, r3)) ∧ Aside0 (kq ≤ k2) ∧ Aside0 (Kd.R Kd.bool 4 wc w.heap.size (fun _ => True) (.slice (some ad114) t104.length co31) t104) ∧ Aside0 (Kd.R Kd.bool 4 wc w.heap.size (fun _ => True) (.slice (some ad114) t104.length co31) t104) ∧ Aside0 (Kd.R (Kd.int .i64) 3 wc w.heap.size (fun _ => True) (.slice (some ad111) x111001_1.length co30) x111001_1) ∧ Aside0 (wc.heap[gb101]? = some (.cells #[.int .i64 a0_0, (.slice A0_1 l0_1.length c0_1)] 24 (0, 0))) ∧ Aside0 (wc.heap[gb102]? = some (.cells #[.int .i64 0, (.slice none 0 0)] 24 (0, 0))) ∧ Aside0 (wc.heap[gb110]? = some (.cells #[.int .i64 a0_0, (.slice (some ad111) x111001_1.length co30)] 24 (0, 0))) ∧ Aside0 (Below w.heap.size w wc))
     case first =>
      have H := HC35.out
      clear HC35
      by_cases c37 : bq36 = true
      rotate_left
      ·replace c37 := Bool.eq_false_iff.mpr c37
       subst c37
       replace H := iF H
       have H' := Aside0.mk H
       clear H
       go_wp2
       go_meet
       case rel => exact ⟨_, (false), gR, H', ⟨by have := HK1.out; have := HK2.out; first | omega | exact Nat.le_refl _⟩, ⟨by exact HO_4.out⟩, ⟨by exact HO_33.out⟩, ⟨by exact HO_111001.out⟩, ⟨by exact BK101.out⟩, ⟨by exact BK102.out⟩, ⟨by exact BK110.out⟩, ⟨wB⟩⟩
      subst c37
      replace H := iT H
      by_cases c38 : 0 ≤ x25_1
      rotate_left
      ·rw [if_neg c38] at H
       exact absurd H (by simp)
      rw [if_pos c38] at H
      have c38b0 := eq_true c38
      have c38b1 := decide_eq_true c38
      clear c38
      obtain ⟨ji39, hji39⟩ : ∃ j_ : Int, (shr .i64 x35_2 x25_1) = j_ := ⟨_, rfl⟩
      replace H : (spec_LowerWeights.j2 k2 t104 x25_1 x7_2 x35_2 (t107.length : Int) x25_1 t104 (t104.length : Int) x35_2 ((Int.tmod (ji39) 2) == 1) a0_0 x111001_1) = some (r1, r2, r3) := by first | (rw [hji39] at H; exact H) | (simp only [hji39] at H ⊢; exact H)
      have hji39_ : (x35_2 / 2 ^ min x25_1.toNat 64) = ji39 := hji39
      have hji39z : x25_1 ≤ 64 → (x35_2 / 2 ^ x25_1.toNat) = ji39 := shr_small hji39
      have H' := Aside0.mk H
      clear H
      go_wp2
      go_meet
      case rel => exact ⟨_, (((Int.tmod (ji39) 2) == 1)), (by first | rfl | (simp; done) | (simp only [← hji39] <;> (first | rfl | simp)) | (simp [*]; done)), H', ⟨by have := HK1.out; have := HK2.out; first | omega | exact Nat.le_refl _⟩, ⟨by exact HO_4.out⟩, ⟨by exact HO_33.out⟩, ⟨by exact HO_111001.out⟩, ⟨by exact BK101.out⟩, ⟨by exact BK102.out⟩, ⟨by exact BK110.out⟩, ⟨wB⟩⟩
     case rest =>
      clear HC35
      (try clear c1); (try clear p1); (try clear q1); (try clear hx1); (try clear c2); (try clear p2); (try clear c3); (try clear q3); (try clear c4); (try clear c8); (try clear p11); (try clear q11); (try clear hx11); (try clear c12); (try clear c21); (try clear c22); (try clear c24); (try clear c24b0); (try clear c25); (try clear c25b0); (try clear c26); (try clear c26b0); (try clear c27); (try clear c28); (try clear c32); (try clear c32b0); (try clear c33); (try clear c33b0); (try clear c34); (try clear c34b0); (try clear q36); (try clear c37); (try clear c38); (try clear c38b0); (try clear c38b1); (try clear hcz23_0); (try clear hcz23_1); (try clear hcz29_0); (try clear hcz29_1); (try clear hfz23_0); (try clear hfz23_1); (try clear hfz29_0); (try clear hfz29_1); (try clear hx111_0); (try clear hx114_0); (try clear p1); (try clear p11); (try clear p111); (try clear p114); (try clear p2); (try clear q1); (try clear q11); (try clear q111); (try clear q114)
      obtain ⟨kq, x47_34, rfl, HA, HJ34, HO_4, HO_33, HO_111001, BK101, BK102, BK110, HB⟩ := hcut
      cases kq with
      | zero => exact absurd HA.out (by simp [spec_LowerWeights.j2])
      | succ kj34 =>
       have H := HA.out
       clear HA
       simp only [spec_LowerWeights.j2] at H
       by_cases c40 : x47_34 = true
       rotate_left
       ·replace c40 := Bool.eq_false_iff.mpr c40
        subst c40
        replace H := iF H
        have H' := Aside0.mk H
        clear H
        go_wp2
        go_roundg kj34
        case measure => have := HK1.out; have := HK2.out; have := HJ34.out; omega
        case rel => exact ⟨(x7_2), (wrap64 (x35_2 + 1)), gR, gR, H', ⟨by have := HK1.out; have := HK2.out; have := HJ34.out; omega⟩, ⟨rQ HO_4⟩, ⟨rQ HO_33⟩, ⟨rQ HO_111001⟩, ⟨bQ BK101⟩, ⟨bQ BK102⟩, ⟨bQ BK110⟩, ⟨wB⟩⟩
       subst c40
       replace H := iT H
       replace H := oA H
       obtain ⟨t115, A41, H⟩ := H
       (try dsimp only at H)
       replace H := oA H
       obtain ⟨t116, A42, H⟩ := H
       (try dsimp only at H)
       have H' := Aside0.mk H
       clear H
       try go_wp2
       replace HO_4 := rD HO_4
       replace HO_33 := rD HO_33
       replace HO_111001 := rD HO_111001
       replace BK101 := bD BK101
       replace BK102 := bD BK102
       replace BK110 := bD BK110
       replace HB := Aside0.mk (below_drew1 HB.out)
       refine start_ (n := 9) (S := fun w' => w'.cell? ⟨gb110, 0, none⟩ = some (.int .i64 a0_0) ∧ w'.cell? ⟨gb110, 1, none⟩ = some (.slice (some ad111) x111001_1.length co30)) (ds := []) #[F,F,F,F,F,F,F,F,F] (by kernel_rfl) rfl rfl ⟨(blk_cell BK110.out 0).trans rfl, (blk_cell BK110.out 1).trans rfl⟩ (fun hHeld => ?_); refine with_tabW spec_LowerWeights.tab13 spec_LowerWeights.bits13 (fun HT_ HW_ => ?_)
       generalize wc.drew = w43 at HO_4 HO_33 HO_111001 BK101 BK102 BK110 HB hHeld ⊢
       refine pU 0 HT_ ?_
       refine pU 2 HT_ ?_
       refine pU 4 HT_ ?_
       refine tK 1 HT_ HW_ hHeld (hy := by rintro w' ⟨s0, s1⟩; go_simp; with_reducible rfl) ?_
       refine tK 5 HT_ HW_ hHeld (hy := by rintro w' ⟨s0, s1⟩; go_simp; with_reducible rfl) ?_
       refine oN 3 HT_ (fun K hK => ?_)
       refine gE Tryz.func53 #[.agg #[.int .i64 a0_0, .slice (some ad111) x111001_1.length co30], .int .i64 x35_2] ?_
       with_reducible refine (spec_voWeight.calls kj34 a0_0 _ _ x111001_1 x35_2 t115 _ ?side1 ?side2 A41.out).mono ?_
       (case side1 => have hx_ := (Kd.R_reads' HO_111001.out).2.2; exact cC)
       (case side2 => exact (Kd.R_reads' HO_111001.out).2.1)
       rintro e w44 ⟨rfl, hb⟩
       refine ⟨_, rfl, ?_⟩
       replace HO_4 := rB HO_4 hb
       replace HO_33 := rB HO_33 hb
       replace HO_111001 := rB HO_111001 hb
       replace BK101 := bB BK101 hb
       replace BK102 := bB BK102 hb
       replace BK110 := bB BK110 hb
       replace HB := sB HB hb
       (try clear hb)
       (try clear hb2)
       (try clear hk)
       (try clear hi)
       refine hK.out _ _ ⟨(blk_cell BK110.out 0).trans rfl, (blk_cell BK110.out 1).trans rfl⟩ (fun hHeld => ?_)
       clear hK K
       refine nM ?_
       refine pU 6 HT_ ?_
       refine oN 7 HT_ (fun K hK => ?_)
       refine gE Tryz.func52 #[.int .i64 x7_2, .int .i64 (wrap64 (t115 - a0_0))] ?_
       with_reducible refine (spec_l1Least.calls x7_2 (wrap64 (t115 - a0_0)) t116 _ A42.out).mono ?_
       rintro e w' ⟨rfl, ⟨nd, rfl⟩⟩
       refine ⟨_, rfl, ?_⟩
       refine hK.out _ _ ⟨(blk_cell BK110.out 0).trans rfl, (blk_cell BK110.out 1).trans rfl⟩ (fun hHeld => ?_)
       clear hK K
       refine nM ?_
       refine pU 8 HT_ ?_
       refine done_ (done_of HT_.out (by kernel_rfl)) ?_
       try go_wp2
       go_roundg kj34
       case measure => have := HK1.out; have := HK2.out; have := HJ34.out; omega
       case rel => exact ⟨(t116), (wrap64 (x35_2 + 1)), gR, gR, H', ⟨by have := HK1.out; have := HK2.out; have := HJ34.out; omega⟩, ⟨rQ HO_4⟩, ⟨rQ HO_33⟩, ⟨rQ HO_111001⟩, ⟨bQ BK101⟩, ⟨bQ BK102⟩, ⟨bQ BK110⟩, ⟨wB⟩⟩
def impl_SpareOf.f (k : Nat) (a0_0 : Int) (l0_1 : List Int) : Option (Int × Int × Bool) := (impl_IsCommittee.f k a0_0 l0_1).bind fun t102 => (if t102 = true then ((impl_Committee_votes.f k a0_0 l0_1).bind fun bt103 => ((impl_votes_spare.f k bt103.1 bt103.2 l0_1).bind fun bt107 => (some (wrap64 (bt107.1 - a0_0), wrap64 (a0_0 - bt107.2), true)))) else (some (0, 0, false)))
def impl_SpareOf.T3 : Bool × List (List Nat × List Nat) := (true, [([], []), ([0], [0]), ([], []), ([2], [2]), ([1, 3, 1], [1, 3]), ([4], [4]), ([5], [5]), ([5], [5]), ([6, 4, 0, 1, 2, 3, 4, 5, 6], [6]), ([7, 8, 0, 1, 2, 3, 4, 5, 6, 7, 8], [7])])
def impl_SpareOf.B3 : List Nat := [0, 1, 0, 4, 15, 31, 63, 63, 127, 511]
theorem impl_SpareOf.tab3 : rtab .any (opsOf Tryz.f13 3) = impl_SpareOf.T3 := by kernel_rfl
theorem impl_SpareOf.bits3 : waitsOk impl_SpareOf.T3.2 impl_SpareOf.B3 = true := by kernel_rfl
def impl_SpareOf.T4 : Bool × List (List Nat × List Nat) := (true, [([], []), ([], []), ([1], [1]), ([0, 2], [0, 2]), ([], []), ([4], [4]), ([], []), ([5, 6], [5, 6]), ([3, 0, 1, 2, 3], [3]), ([7, 8, 0, 1, 2, 3, 4, 5, 6, 7, 8], [7]), ([9, 0, 1, 2, 3, 4, 5, 6, 7, 8, 9], [])])
def impl_SpareOf.B4 : List Nat := [0, 0, 2, 7, 0, 16, 0, 112, 15, 511, 1023]
theorem impl_SpareOf.tab4 : rtab .any (opsOf Tryz.f13 4) = impl_SpareOf.T4 := by kernel_rfl
theorem impl_SpareOf.bits4 : waitsOk impl_SpareOf.T4.2 impl_SpareOf.B4 = true := by kernel_rfl
theorem impl_SpareOf.calls (k : Nat) (a0_0 : Int) (A0_1 : Option Addr) (c0_1 : Nat) (l0_1 : List Int) (r1 : Int) (r2 : Int) (r3 : Bool) (w : World) (hr0_1 : Kd.C (Kd.int .i64) w A0_1 l0_1.length l0_1) (hc0_1 : l0_1.length ≤ c0_1) (h : impl_SpareOf.f k a0_0 l0_1 = some (r1, r2, r3)) :
  Calls Tryz.prog 13 #[.agg #[.int .i64 a0_0, .slice A0_1 l0_1.length c0_1]] w fun e w' => e = .returned (.tuple #[.int .i64 r1, .int .i64 r2, .bool r3]) ∧ Below w.heap.size w w' := by
 have hu24 := Tryz.underlying24
 have HR0_1 := Aside0.mk hr0_1
 have HC0_1 := Aside0.mk hc0_1
 clear hr0_1 hc0_1
 have HB := Aside0.mk (Below.refl w.heap.size w)
 have H := h
 unfold impl_SpareOf.f at H
 clear h
 replace H := oA H
 obtain ⟨t102, A2, H⟩ := H
 (try dsimp only at H)
 by_cases c3 : t102 = true
 rotate_left
 ·replace c3 := Bool.eq_false_iff.mpr c3
  subst c3
  replace H := iF H
  simp only [Option.some.injEq, Prod.mk.injEq] at H
  obtain ⟨rfl, rfl, rfl⟩ := H
  go_enter Tryz.func13, Tryz.ntmps13
  go_wp2_with (first | ((with_reducible refine gate_dst (N := 1) rfl ?_); refine xE (N := 1) (cs := #[.int .i64 a0_0, .slice A0_1 l0_1.length c0_1]) (t := 24) ?_; intro gb101 hg w14 BK101 hb; have GW101 := gS hg HB; have GE101 := gS hg HB; replace HB := sB HB hb; clear hb hg; obtain ⟨hcz15_0, hcz15_1, hfz15_0, hfz15_1⟩ := zZ BK101) | ((with_reducible refine gate_callee (f := 16) rfl ?_); refine gL 8 Tryz.func16 #[.agg #[.int .i64 a0_0, .slice A0_1 l0_1.length c0_1]] ?_; (with_reducible refine (impl_IsCommittee.calls k a0_0 _ _ l0_1 false _ (Kd.C_below HR0_1.out HB.out) HC0_1.out A2.out).mono ?_); rintro e w16 ⟨rfl, hb⟩; refine ⟨_, rfl, ?_⟩; replace BK101 := bB BK101 hb; replace HB := sB HB hb; (try clear hb)))
  go_ret3
  exact ⟨fR, wB⟩
 subst c3
 replace H := iT H
 replace H := oB H
 obtain ⟨⟨t103, t104⟩, A40, H⟩ := H
 (try dsimp only at H)
 have A4 := Aside0.mk A40
 clear A40
 replace H := oB H
 obtain ⟨⟨t107, t108⟩, A50, H⟩ := H
 (try dsimp only at H)
 have A5 := Aside0.mk A50
 clear A50
 simp only [Option.some.injEq, Prod.mk.injEq] at H
 obtain ⟨rfl, rfl, rfl⟩ := H
 go_enter Tryz.func13, Tryz.ntmps13
 try go_wp2_with (first | ((with_reducible refine gate_dst (N := 1) rfl ?_); refine xE (N := 1) (cs := #[.int .i64 a0_0, .slice A0_1 l0_1.length c0_1]) (t := 24) ?_; intro gb101 hg w6 BK101 hb; have GW101 := gS hg HB; have GE101 := gS hg HB; replace HB := sB HB hb; clear hb hg; obtain ⟨hcz7_0, hcz7_1, hfz7_0, hfz7_1⟩ := zZ BK101) | ((with_reducible refine gate_callee (f := 16) rfl ?_); refine gL 8 Tryz.func16 #[.agg #[.int .i64 a0_0, .slice A0_1 l0_1.length c0_1]] ?_; (with_reducible refine (impl_IsCommittee.calls k a0_0 _ _ l0_1 true _ (Kd.C_below HR0_1.out HB.out) HC0_1.out A2.out).mono ?_); rintro e w8 ⟨rfl, hb⟩; refine ⟨_, rfl, ?_⟩; replace BK101 := bB BK101 hb; replace HB := sB HB hb; (try clear hb)))
 replace BK101 := bD BK101
 replace HB := Aside0.mk (below_drew1 HB.out)
 refine start_ (n := 10) (S := fun w' => w'.cell? ⟨gb101, 0, none⟩ = some (.int .i64 a0_0) ∧ w'.cell? ⟨gb101, 1, none⟩ = some (.slice A0_1 l0_1.length c0_1)) (ds := []) #[F,F,F,F,F,F,F,F,F,F] (by kernel_rfl) rfl rfl ⟨(blk_cell BK101.out 0).trans rfl, (blk_cell BK101.out 1).trans rfl⟩ (fun hHeld => ?_); refine with_tabW impl_SpareOf.tab3 impl_SpareOf.bits3 (fun HT_ HW_ => ?_)
 (try clear hcz7_0 hcz7_1 hfz7_0 hfz7_1)
 generalize w8.drew = w9 at BK101 HB hHeld ⊢
 refine pU 2 HT_ ?_
 refine tK 0 HT_ HW_ hHeld (hy := by rintro w' ⟨s0, s1⟩; go_simp; with_reducible rfl) ?_
 refine tK 3 HT_ HW_ hHeld (hy := by rintro w' ⟨s0, s1⟩; go_simp; with_reducible rfl) ?_
 refine oN 1 HT_ (fun K hK => ?_)
 refine gE Tryz.func40 #[.agg #[.int .i64 a0_0, .slice A0_1 l0_1.length c0_1]] ?_
 with_reducible refine (impl_Committee_votes.calls k a0_0 _ _ l0_1 t103 t104 _ (Kd.C_below HR0_1.out HB.out) HC0_1.out A4.out).mono ?_
 rintro e w10 ⟨v105, rfl, ho0, hb⟩
 refine ⟨_, rfl, ?_⟩
 have HO106 := Aside0.mk (Kd.R_lower ho0 (below_size HB.out))
 replace BK101 := bB BK101 hb
 replace HB := sB HB hb
 (try clear hb)
 (try clear hb2)
 (try clear hk)
 (try clear hi)
 (try clear ho0)
 obtain ⟨Ao11, co11, eo11⟩ := Kd.R_slice HO106.out
 (first | subst eo11 | (injection eo11 with f1_ f2_ f3_; have f4_ := f1_.symm; have f5_ := f3_.symm; clear f1_ f2_ f3_; subst f4_; subst f5_))
 refine hK.out _ _ ⟨(blk_cell BK101.out 0).trans rfl, (blk_cell BK101.out 1).trans rfl⟩ (fun hHeld => ?_)
 clear hK K
 refine nM ?_
 refine oN 4 HT_ (fun K hK => ?_)
 refine gE Tryz.func41 #[.agg #[.int .i64 t103, .slice Ao11 t104.length co11], .slice A0_1 l0_1.length c0_1] ?_
 with_reducible refine (impl_votes_spare.calls k t103 _ _ t104 _ _ l0_1 t107 t108 _ ?side1 ?side2 ?side3 ?side4 A5.out).mono ?_
 (case side1 => have hx_ := (Kd.R_reads' HO106.out).2.2; exact cC)
 (case side2 => exact (Kd.R_reads' HO106.out).2.1)
 (case side3 => have hx_ := (Kd.C_below HR0_1.out HB.out); exact cC)
 (case side4 => exact HC0_1.out)
 rintro e w12 ⟨rfl, hb⟩
 refine ⟨_, rfl, ?_⟩
 replace HO106 := rB HO106 hb
 replace BK101 := bB BK101 hb
 replace HB := sB HB hb
 (try clear hb)
 (try clear hb2)
 (try clear hk)
 (try clear hi)
 refine hK.out _ _ ⟨(blk_cell BK101.out 0).trans rfl, (blk_cell BK101.out 1).trans rfl⟩ (fun hHeld => ?_)
 clear hK K
 refine nM ?_
 refine pU 5 HT_ ?_
 refine pU 6 HT_ ?_
 refine pU 7 HT_ ?_
 refine pU 8 HT_ ?_
 refine pU 9 HT_ ?_
 refine done_ (done_of HT_.out (by kernel_rfl)) ?_
 try go_wp2
 replace HO106 := rD HO106
 replace BK101 := bD BK101
 replace HB := Aside0.mk (below_drew1 HB.out)
 refine start_ (n := 11) (S := fun w' => w'.cell? ⟨gb101, 0, none⟩ = some (.int .i64 a0_0) ∧ w'.cell? ⟨gb101, 1, none⟩ = some (.slice A0_1 l0_1.length c0_1)) (ds := []) #[F,F,F,F,F,F,F,F,F,F,F] (by kernel_rfl) rfl rfl ⟨(blk_cell BK101.out 0).trans rfl, (blk_cell BK101.out 1).trans rfl⟩ (fun hHeld => ?_); refine with_tabW impl_SpareOf.tab4 impl_SpareOf.bits4 (fun HT_ HW_ => ?_)
 generalize w12.drew = w13 at HO106 BK101 HB hHeld ⊢
 refine pU 0 HT_ ?_
 refine pU 1 HT_ ?_
 refine pU 4 HT_ ?_
 refine pU 6 HT_ ?_
 refine tK 2 HT_ HW_ hHeld (hy := by rintro w' ⟨s0, s1⟩; go_simp; with_reducible rfl) ?_
 refine pU 3 HT_ ?_
 refine pU 8 HT_ ?_
 refine tK 5 HT_ HW_ hHeld (hy := by rintro w' ⟨s0, s1⟩; go_simp; with_reducible rfl) ?_
 refine pU 7 HT_ ?_
 refine pU 9 HT_ ?_
 refine pU 10 HT_ ?_
 refine done_ (done_of HT_.out (by kernel_rfl)) ?_
 try go_wp2
 go_ret3
 exact ⟨fR, wB⟩
def spec_SpareOf.l0 : Nat → Int → Int → List Bool → Int → Int → Int → List Int → Option (Int × Int × Bool)
 | 0, _, _, _, _, _, _, _ => none
 | k + 1, x5, x6, x22, x23, x24, x102000, x102001 => if x24 < x23 then (if 0 ≤ x24 then (if x24 < (x22.length : Int) then ((spec_voWeight.f k x102000 x102001 x24).bind fun t108 => (if rdOf false x22 x24 = true then ((spec_l1Least.f x5 (wrap64 (t108 - x102000))).bind fun t109 => (spec_SpareOf.l0 k t109 x6 x22 x23 (wrap64 (x24 + 1)) x102000 x102001)) else ((spec_l1Least.f x6 (wrap64 (x102000 - t108))).bind fun t110 => (spec_SpareOf.l0 k x5 t110 x22 x23 (wrap64 (x24 + 1)) x102000 x102001)))) else (none)) else (none)) else (some (x5, x6, true))
def spec_SpareOf.f (k : Nat) (a0_0 : Int) (l0_1 : List Int) : Option (Int × Int × Bool) := (spec_voGood.f k a0_0 l0_1).bind fun t102 => (if t102 = true then ((spec_voSum.f k l0_1).bind fun t103 => ((spec_voWins.f k a0_0 l0_1).bind fun t104 => (spec_SpareOf.l0 k (wrap64 (t103 - a0_0)) a0_0 t104 (t104.length : Int) 0 a0_0 l0_1))) else (some (0, 0, false)))
theorem spec_SpareOf.calls (k : Nat) (a0_0 : Int) (A0_1 : Option Addr) (c0_1 : Nat) (l0_1 : List Int) (r1 : Int) (r2 : Int) (r3 : Bool) (w : World) (hr0_1 : Kd.C (Kd.int .i64) w A0_1 l0_1.length l0_1) (hc0_1 : l0_1.length ≤ c0_1) (h : spec_SpareOf.f k a0_0 l0_1 = some (r1, r2, r3)) :
  Calls Tryz.prog 14 #[.agg #[.int .i64 a0_0, .slice A0_1 l0_1.length c0_1]] w fun e w' => e = .returned (.tuple #[.int .i64 r1, .int .i64 r2, .bool r3]) ∧ Below w.heap.size w w' := by
 have hu24 := Tryz.underlying24
 have HR0_1 := Aside0.mk hr0_1
 have HC0_1 := Aside0.mk hc0_1
 clear hr0_1 hc0_1
 have HB := Aside0.mk (Below.refl w.heap.size w)
 have H := h
 unfold spec_SpareOf.f at H
 clear h
 replace H := oA H
 obtain ⟨t102, A2, H⟩ := H
 (try dsimp only at H)
 by_cases c3 : t102 = true
 rotate_left
 ·replace c3 := Bool.eq_false_iff.mpr c3
  subst c3
  replace H := iF H
  simp only [Option.some.injEq, Prod.mk.injEq] at H
  obtain ⟨rfl, rfl, rfl⟩ := H
  go_enter Tryz.func14, Tryz.ntmps14
  go_wp2_with (first | ((with_reducible refine gate_dst (N := 1) rfl ?_); refine xE (N := 1) (cs := #[.int .i64 a0_0, .slice A0_1 l0_1.length c0_1]) (t := 24) ?_; intro gb101 hg w26 BK101 hb; have GW101 : Aside0 (w.heap.size ≤ gb101) := gT hg; have GE101 : Aside0 (w.heap.size ≤ gb101) := gT hg; replace HB := sQ hb; clear hb hg; (try clear hcz25_0 hcz25_1 hfz25_0 hfz25_1 hcz25_0 hcz25_1 hfz25_0 hfz25_1 hcz25_0 hcz25_1 hfz25_0 hfz25_1); obtain ⟨hcz27_0, hcz27_1, hfz27_0, hfz27_1⟩ := zZ BK101) | (go_at_call 37; (with_reducible refine (spec_voGood.calls k a0_0 _ _ l0_1 false _ ?side1 ?side2 A2.out).mono ?_); (case side1 => have hx_ := (Kd.C_below HR0_1.out HB.out); exact cC); (case side2 => exact HC0_1.out); rintro e w28 ⟨rfl, hb⟩; replace BK101 := bP BK101 hb; replace HB := sQ hb; (try clear hb)))
  repeat (go_quiet (first | ((with_reducible refine gate_dst (N := 1) rfl ?_); refine xE (N := 1) (cs := #[.int .i64 a0_0, .slice A0_1 l0_1.length c0_1]) (t := 24) ?_; intro gb101 hg w26 BK101 hb; have GW101 : Aside0 (w.heap.size ≤ gb101) := gT hg; have GE101 : Aside0 (w.heap.size ≤ gb101) := gT hg; replace HB := sQ hb; clear hb hg; obtain ⟨hcz27_0, hcz27_1, hfz27_0, hfz27_1⟩ := zZ BK101) | (go_at_call 37; (with_reducible refine (spec_voGood.calls k a0_0 _ _ l0_1 false _ ?side1 ?side2 A2.out).mono ?_); (case side1 => have hx_ := (Kd.C_below HR0_1.out HB.out); exact cC); (case side2 => exact HC0_1.out); rintro e w28 ⟨rfl, hb⟩; replace BK101 := bP BK101 hb; replace HB := sQ hb; (try clear hb))); try go_wp2_with (first | ((with_reducible refine gate_dst (N := 1) rfl ?_); refine xE (N := 1) (cs := #[.int .i64 a0_0, .slice A0_1 l0_1.length c0_1]) (t := 24) ?_; intro gb101 hg w26 BK101 hb; have GW101 : Aside0 (w.heap.size ≤ gb101) := gT hg; have GE101 : Aside0 (w.heap.size ≤ gb101) := gT hg; replace HB := sQ hb; clear hb hg; obtain ⟨hcz27_0, hcz27_1, hfz27_0, hfz27_1⟩ := zZ BK101) | (go_at_call 37; (with_reducible refine (spec_voGood.calls k a0_0 _ _ l0_1 false _ ?side1 ?side2 A2.out).mono ?_); (case side1 => have hx_ := (Kd.C_below HR0_1.out HB.out); exact cC); (case side2 => exact HC0_1.out); rintro e w28 ⟨rfl, hb⟩; replace BK101 := bP BK101 hb; replace HB := sQ hb; (try clear hb))))
  go_ret3
  exact ⟨fR, wB⟩
 subst c3
 replace H := iT H
 replace H := oA H
 obtain ⟨t103, A4, H⟩ := H
 (try dsimp only at H)
 replace H := oA H
 obtain ⟨t104, A5, H⟩ := H
 (try dsimp only at H)
 have H' := Aside0.mk H
 clear H
 go_enter Tryz.func14, Tryz.ntmps14
 go_wp2_with (first | ((with_reducible refine gate_dst (N := 1) rfl ?_); refine xE (N := 1) (cs := #[.int .i64 a0_0, .slice A0_1 l0_1.length c0_1]) (t := 24) ?_; intro gb101 hg w6 BK101 hb; have GW101 := gS hg HB; have GE101 := gS hg HB; replace HB := sB HB hb; clear hb hg; obtain ⟨hcz7_0, hcz7_1, hfz7_0, hfz7_1⟩ := zZ BK101) | (go_at_call 37; (with_reducible refine (spec_voGood.calls k a0_0 _ _ l0_1 true _ (Kd.C_below HR0_1.out HB.out) HC0_1.out A2.out).mono ?_); rintro e w8 ⟨rfl, hb⟩; replace BK101 := bB BK101 hb; replace HB := sB HB hb; (try clear hb); obtain ⟨hcz9_0, hcz9_1, hfz9_0, hfz9_1⟩ := zZ BK101) | (go_at_call 54; (with_reducible refine (spec_voSum.calls k _ _ l0_1 t103 _ (Kd.C_below HR0_1.out HB.out) HC0_1.out A4.out).mono ?_); rintro e w' ⟨rfl, ⟨nd, rfl⟩⟩; (try exact dR)) | (go_at_call 44; (with_reducible refine (spec_voWins.calls k a0_0 _ _ l0_1 t104 _ ?side1 ?side2 A5.out).mono ?_); (case side1 =>  repeat (first | exact (Kd.C_below HR0_1.out (by repeat (first | exact HB.out | apply ba | apply bd | apply be | refine bs ?_ GE101.out))) | (with_reducible refine Kd.C_alloc ?_ _) | (with_reducible refine Kd.C_drewN ?_ _) | (with_reducible refine Kd.C_drew ?_))); (case side2 => exact HC0_1.out); rintro e w10 ⟨v105, rfl, ho0, hb⟩; have HO106 := Aside0.mk (Kd.R_lower ho0 (below_size (by repeat (first | exact HB.out | apply ba | apply bd | apply be | refine bs ?_ GE101.out)))); replace BK101 := bP BK101 hb; replace HB := sQ hb; (try clear hb); (try clear ho0); obtain ⟨Ao11, co11, eo11⟩ := Kd.R_slice HO106.out; subst eo11))
 repeat (go_quiet (first | ((with_reducible refine gate_dst (N := 1) rfl ?_); refine xE (N := 1) (cs := #[.int .i64 a0_0, .slice A0_1 l0_1.length c0_1]) (t := 24) ?_; intro gb101 hg w6 BK101 hb; have GW101 : Aside0 (w.heap.size ≤ gb101) := gT hg; have GE101 : Aside0 (w.heap.size ≤ gb101) := gT hg; replace HB := sQ hb; clear hb hg; (try clear hcz9_0 hcz9_1 hfz9_0 hfz9_1); obtain ⟨hcz7_0, hcz7_1, hfz7_0, hfz7_1⟩ := zZ BK101) | (go_at_call 37; (with_reducible refine (spec_voGood.calls k a0_0 _ _ l0_1 true _ ?side1 ?side2 A2.out).mono ?_); (case side1 => have hx_ := (Kd.C_below HR0_1.out HB.out); exact cC); (case side2 => exact HC0_1.out); rintro e w8 ⟨rfl, hb⟩; replace BK101 := bP BK101 hb; replace HB := sQ hb; (try clear hb); obtain ⟨hcz9_0, hcz9_1, hfz9_0, hfz9_1⟩ := zZ BK101) | (go_at_call 54; (with_reducible refine (spec_voSum.calls k _ _ l0_1 t103 _ ?side1 ?side2 A4.out).mono ?_); (case side1 => have hx_ := (Kd.C_below HR0_1.out HB.out); exact cC); (case side2 => exact HC0_1.out); rintro e w' ⟨rfl, ⟨nd, rfl⟩⟩; (try exact dR)) | (go_at_call 44; (with_reducible refine (spec_voWins.calls k a0_0 _ _ l0_1 t104 _ ?side1 ?side2 A5.out).mono ?_); (case side1 =>  repeat (first | exact (Kd.C_below HR0_1.out (by repeat (first | exact HB.out | apply ba | apply bd | apply be | refine bs ?_ GE101.out))) | (with_reducible refine Kd.C_alloc ?_ _) | (with_reducible refine Kd.C_drewN ?_ _) | (with_reducible refine Kd.C_drew ?_))); (case side2 => exact HC0_1.out); rintro e w10 ⟨v105, rfl, ho0, hb⟩; have HO106 := Aside0.mk (Kd.R_lower ho0 (below_size (by repeat (first | exact HB.out | apply ba | apply bd | apply be | refine bs ?_ GE101.out)))); replace BK101 := bP BK101 hb; replace HB := sQ hb; (try clear hb); (try clear ho0); obtain ⟨Ao11, co11, eo11⟩ := Kd.R_slice HO106.out; subst eo11)); try go_wp2_with (first | ((with_reducible refine gate_dst (N := 1) rfl ?_); refine xE (N := 1) (cs := #[.int .i64 a0_0, .slice A0_1 l0_1.length c0_1]) (t := 24) ?_; intro gb101 hg w6 BK101 hb; have GW101 : Aside0 (w.heap.size ≤ gb101) := gT hg; have GE101 : Aside0 (w.heap.size ≤ gb101) := gT hg; replace HB := sQ hb; clear hb hg; (try clear hcz9_0 hcz9_1 hfz9_0 hfz9_1); obtain ⟨hcz7_0, hcz7_1, hfz7_0, hfz7_1⟩ := zZ BK101) | (go_at_call 37; (with_reducible refine (spec_voGood.calls k a0_0 _ _ l0_1 true _ ?side1 ?side2 A2.out).mono ?_); (case side1 => have hx_ := (Kd.C_below HR0_1.out HB.out); exact cC); (case side2 => exact HC0_1.out); rintro e w8 ⟨rfl, hb⟩; replace BK101 := bP BK101 hb; replace HB := sQ hb; (try clear hb); obtain ⟨hcz9_0, hcz9_1, hfz9_0, hfz9_1⟩ := zZ BK101) | (go_at_call 54; (with_reducible refine (spec_voSum.calls k _ _ l0_1 t103 _ ?side1 ?side2 A4.out).mono ?_); (case side1 => have hx_ := (Kd.C_below HR0_1.out HB.out); exact cC); (case side2 => exact HC0_1.out); rintro e w' ⟨rfl, ⟨nd, rfl⟩⟩; (try exact dR)) | (go_at_call 44; (with_reducible refine (spec_voWins.calls k a0_0 _ _ l0_1 t104 _ ?side1 ?side2 A5.out).mono ?_); (case side1 =>  repeat (first | exact (Kd.C_below HR0_1.out (by repeat (first | exact HB.out | apply ba | apply bd | apply be | refine bs ?_ GE101.out))) | (with_reducible refine Kd.C_alloc ?_ _) | (with_reducible refine Kd.C_drewN ?_ _) | (with_reducible refine Kd.C_drew ?_))); (case side2 => exact HC0_1.out); rintro e w10 ⟨v105, rfl, ho0, hb⟩; have HO106 := Aside0.mk (Kd.R_lower ho0 (below_size (by repeat (first | exact HB.out | apply ba | apply bd | apply be | refine bs ?_ GE101.out)))); replace BK101 := bP BK101 hb; replace HB := sQ hb; (try clear hb); (try clear ho0); obtain ⟨Ao11, co11, eo11⟩ := Kd.R_slice HO106.out; subst eo11)))
 go_loopg [5, 6, 24] k (fun kq v5 v6 v24 w' => ∃ (x5_1 : Int) (x6_1 : Int) (x24_1 : Int), v5 = .int .i64 x5_1 ∧ v6 = .int .i64 x6_1 ∧ v24 = .int .i64 x24_1 ∧ Aside0 (spec_SpareOf.l0 kq x5_1 x6_1 t104 (t104.length : Int) x24_1 a0_0 l0_1 = some (r1, r2, r3)) ∧ Aside0 (kq ≤ k) ∧ Aside0 (Kd.R Kd.bool 4 w' w.heap.size (fun _ => True) (.slice Ao11 t104.length co11) t104) ∧ Aside0 (w'.heap[gb101]? = some (.cells #[.int .i64 a0_0, (.slice A0_1 l0_1.length c0_1)] 24 (0, 0))) ∧ Aside0 (Below w.heap.size w w'))
 case atStart => exact ⟨(wrap64 (t103 - a0_0)), (a0_0), (0), gR, gR, gR, H', ⟨Nat.le_refl _⟩, ⟨rQ HO106⟩, ⟨bQ BK101⟩, ⟨wB⟩⟩
 case round =>
  clear H'
  (try clear c1); (try clear p2); (try clear c3); (try clear p6); (try clear hcz7_0); (try clear hcz7_1); (try clear hfz7_0); (try clear hfz7_1)
  obtain ⟨x5_1, x6_1, x24_1, rfl, rfl, rfl, HA, HK1, HO_22, BK101, HB⟩ := hrel
  cases gk with
  | zero => exact absurd HA.out (by simp [spec_SpareOf.l0])
  | succ k1 =>
   have H := HA.out
   clear HA
   simp only [spec_SpareOf.l0] at H
   by_cases c12 : x24_1 < (t104.length : Int)
   rotate_left
   ·rw [if_neg c12] at H
    have c12b0 : decide (x24_1 < (t104.length : Int)) = false := decide_eq_false c12
    clear c12
    simp only [Option.some.injEq, Prod.mk.injEq] at H
    obtain ⟨rfl, rfl, rfl⟩ := H
    go_wp2
    repeat (go_quiet (fail); try go_wp2)
    go_ret3
    exact ⟨fR, wB⟩
   rw [if_pos c12] at H
   have c12b0 := decide_eq_true c12
   clear c12
   by_cases c13 : 0 ≤ x24_1
   rotate_left
   ·rw [if_neg c13] at H
    exact absurd H (by simp)
   rw [if_pos c13] at H
   have c13b0 := decide_eq_true c13
   clear c13
   by_cases c14 : x24_1 < (t104.length : Int)
   rotate_left
   ·rw [if_neg c14] at H
    exact absurd H (by simp)
   rw [if_pos c14] at H
   have c14b0 := decide_eq_true c14
   clear c14
   replace H := oA H
   obtain ⟨t108, A15, H⟩ := H
   (try dsimp only at H)
   obtain ⟨bq16, hbq16⟩ : ∃ b_ : Bool, b_ = (rdOf false t104 x24_1) := ⟨_, rfl⟩
   replace H : (if bq16 = true then ((spec_l1Least.f x5_1 (wrap64 (t108 - a0_0))).bind fun t109 => (spec_SpareOf.l0 k1 t109 x6_1 t104 (t104.length : Int) (wrap64 (x24_1 + 1)) a0_0 l0_1)) else ((spec_l1Least.f x6_1 (wrap64 (a0_0 - t108))).bind fun t110 => (spec_SpareOf.l0 k1 x5_1 t110 t104 (t104.length : Int) (wrap64 (x24_1 + 1)) a0_0 l0_1))) = some (r1, r2, r3) := by rw [← hbq16] at H; exact H
   have Nbq16 := Aside0.mk hbq16
   clear hbq16
   by_cases c17 : bq16 = true
   ·subst c17
    replace H := iT H
    replace H := oA H
    obtain ⟨t109, A18, H⟩ := H
    (try dsimp only at H)
    have H' := Aside0.mk H
    clear H
    have p107 : 0 ≤ (x24_1 : Int) := oD
    have q107 : x24_1 < (t104.length : Int) := oD
    obtain ⟨ad107, e107, hx107_0⟩ := Kd.at_bool (Kd.R_reads' HO_22.out).2.2 x24_1 p107 q107
    (try rw [← Nbq16.out] at hx107_0)
    cases e107
    replace p107 := eq_true p107
    replace q107 := eq_true q107
    obtain ⟨hcz19_0, hcz19_1, hfz19_0, hfz19_1⟩ := zZ BK101
    go_wp2_with (first | (go_at_call 53; (with_reducible refine (spec_voWeight.calls k1 a0_0 _ _ l0_1 x24_1 t108 _ (Kd.C_below HR0_1.out HB.out) HC0_1.out A15.out).mono ?_); rintro e w20 ⟨rfl, hb⟩; replace HO_22 := rB HO_22 hb; replace BK101 := bB BK101 hb; replace HB := sB HB hb; (try clear hb); (try clear hcz19_0 hcz19_1 hfz19_0 hfz19_1); obtain ⟨hcz21_0, hcz21_1, hfz21_0, hfz21_1⟩ := zZ BK101) | (go_at_call 52; (with_reducible refine (spec_l1Least.calls x5_1 (wrap64 (t108 - a0_0)) t109 _ A18.out).mono ?_); rintro e w' ⟨rfl, ⟨nd, rfl⟩⟩; (try exact dR)))
    repeat (go_quiet (first | (go_at_call 53; (with_reducible refine (spec_voWeight.calls k1 a0_0 _ _ l0_1 x24_1 t108 _ ?side1 ?side2 A15.out).mono ?_); (case side1 => have hx_ := (Kd.C_below HR0_1.out HB.out); exact cC); (case side2 => exact HC0_1.out); rintro e w20 ⟨rfl, hb⟩; replace HO_22 := rP HO_22 hb; replace BK101 := bP BK101 hb; replace HB := sQ hb; (try clear hb); obtain ⟨hcz21_0, hcz21_1, hfz21_0, hfz21_1⟩ := zZ BK101) | (go_at_call 52; (with_reducible refine (spec_l1Least.calls x5_1 (wrap64 (t108 - a0_0)) t109 _ A18.out).mono ?_); rintro e w' ⟨rfl, ⟨nd, rfl⟩⟩; (try exact dR))); try go_wp2_with (first | (go_at_call 53; (with_reducible refine (spec_voWeight.calls k1 a0_0 _ _ l0_1 x24_1 t108 _ ?side1 ?side2 A15.out).mono ?_); (case side1 => have hx_ := (Kd.C_below HR0_1.out HB.out); exact cC); (case side2 => exact HC0_1.out); rintro e w20 ⟨rfl, hb⟩; replace HO_22 := rP HO_22 hb; replace BK101 := bP BK101 hb; replace HB := sQ hb; (try clear hb); obtain ⟨hcz21_0, hcz21_1, hfz21_0, hfz21_1⟩ := zZ BK101) | (go_at_call 52; (with_reducible refine (spec_l1Least.calls x5_1 (wrap64 (t108 - a0_0)) t109 _ A18.out).mono ?_); rintro e w' ⟨rfl, ⟨nd, rfl⟩⟩; (try exact dR))))
    go_roundg k1
    case measure => have := HK1.out; omega
    case rel => exact ⟨(t109), (x6_1), (wrap64 (x24_1 + 1)), gR, gR, gR, H', ⟨by have := HK1.out; omega⟩, ⟨rQ HO_22⟩, ⟨bQ BK101⟩, ⟨wB⟩⟩
   replace c17 := Bool.eq_false_iff.mpr c17
   subst c17
   replace H := iF H
   replace H := oA H
   obtain ⟨t110, A22, H⟩ := H
   (try dsimp only at H)
   have H' := Aside0.mk H
   clear H
   have p107 : 0 ≤ (x24_1 : Int) := oD
   have q107 : x24_1 < (t104.length : Int) := oD
   obtain ⟨ad107, e107, hx107_0⟩ := Kd.at_bool (Kd.R_reads' HO_22.out).2.2 x24_1 p107 q107
   (try rw [← Nbq16.out] at hx107_0)
   cases e107
   replace p107 := eq_true p107
   replace q107 := eq_true q107
   (try clear hcz21_0 hcz21_1 hfz21_0 hfz21_1 hcz21_0 hcz21_1 hfz21_0 hfz21_1 hcz21_0 hcz21_1 hfz21_0 hfz21_1)
   obtain ⟨hcz23_0, hcz23_1, hfz23_0, hfz23_1⟩ := zZ BK101
   go_wp2_with (first | (go_at_call 53; (with_reducible refine (spec_voWeight.calls k1 a0_0 _ _ l0_1 x24_1 t108 _ ?side1 ?side2 A15.out).mono ?_); (case side1 => have hx_ := (Kd.C_below HR0_1.out HB.out); exact cC); (case side2 => exact HC0_1.out); rintro e w24 ⟨rfl, hb⟩; replace HO_22 := rP HO_22 hb; replace BK101 := bP BK101 hb; replace HB := sQ hb; (try clear hb); (try clear hcz23_0 hcz23_1 hfz23_0 hfz23_1); obtain ⟨hcz25_0, hcz25_1, hfz25_0, hfz25_1⟩ := zZ BK101) | (go_at_call 52; (with_reducible refine (spec_l1Least.calls x6_1 (wrap64 (a0_0 - t108)) t110 _ A22.out).mono ?_); rintro e w' ⟨rfl, ⟨nd, rfl⟩⟩; (try exact dR)))
   repeat (go_quiet (first | (go_at_call 53; (with_reducible refine (spec_voWeight.calls k1 a0_0 _ _ l0_1 x24_1 t108 _ ?side1 ?side2 A15.out).mono ?_); (case side1 => have hx_ := (Kd.C_below HR0_1.out HB.out); exact cC); (case side2 => exact HC0_1.out); rintro e w24 ⟨rfl, hb⟩; replace HO_22 := rP HO_22 hb; replace BK101 := bP BK101 hb; replace HB := sQ hb; (try clear hb); obtain ⟨hcz25_0, hcz25_1, hfz25_0, hfz25_1⟩ := zZ BK101) | (go_at_call 52; (with_reducible refine (spec_l1Least.calls x6_1 (wrap64 (a0_0 - t108)) t110 _ A22.out).mono ?_); rintro e w' ⟨rfl, ⟨nd, rfl⟩⟩; (try exact dR))); try go_wp2_with (first | (go_at_call 53; (with_reducible refine (spec_voWeight.calls k1 a0_0 _ _ l0_1 x24_1 t108 _ ?side1 ?side2 A15.out).mono ?_); (case side1 => have hx_ := (Kd.C_below HR0_1.out HB.out); exact cC); (case side2 => exact HC0_1.out); rintro e w24 ⟨rfl, hb⟩; replace HO_22 := rP HO_22 hb; replace BK101 := bP BK101 hb; replace HB := sQ hb; (try clear hb); obtain ⟨hcz25_0, hcz25_1, hfz25_0, hfz25_1⟩ := zZ BK101) | (go_at_call 52; (with_reducible refine (spec_l1Least.calls x6_1 (wrap64 (a0_0 - t108)) t110 _ A22.out).mono ?_); rintro e w' ⟨rfl, ⟨nd, rfl⟩⟩; (try exact dR))))
   go_roundg k1
   case measure => have := HK1.out; omega
   case rel => exact ⟨(x5_1), (t110), (wrap64 (x24_1 + 1)), gR, gR, gR, H', ⟨by have := HK1.out; omega⟩, ⟨rQ HO_22⟩, ⟨bQ BK101⟩, ⟨wB⟩⟩
def laws_mSame.l0 : Nat → List Int → List Int → Int → Int → Option (Bool)
 | 0, _, _, _, _ => none
 | k + 1, x0, x1, x12, x13 => if x13 < x12 then (if 0 ≤ x13 then (if x13 < (x0.length : Int) then (if x13 < (x1.length : Int) then (if (rd x0 x13) = (rd x1 x13) then (laws_mSame.l0 k x0 x1 x12 (wrap64 (x13 + 1))) else (some false)) else (none)) else (none)) else (none)) else (some true)
def laws_mSame.f (k : Nat) (l0 : List Int) (l1 : List Int) : Option (Bool) := if (l0.length : Int) = (l1.length : Int) then (laws_mSame.l0 k l0 l1 (l0.length : Int) 0) else (some false)
theorem laws_mSame.calls (k : Nat) (A0 : Option Addr) (c0 : Nat) (l0 : List Int) (A1 : Option Addr) (c1 : Nat) (l1 : List Int) (r : Bool) (w : World) (hr0 : Kd.C (Kd.int .i64) w A0 l0.length l0) (hc0 : l0.length ≤ c0) (hr1 : Kd.C (Kd.int .i64) w A1 l1.length l1) (hc1 : l1.length ≤ c1) (h : laws_mSame.f k l0 l1 = some r) :
  Calls Tryz.prog 55 #[.slice A0 l0.length c0, .slice A1 l1.length c1] w fun e w' => e = .returned (.bool r) ∧ Drawn0 w w' := by
 have HR0 := Aside0.mk hr0
 have HC0 := Aside0.mk hc0
 clear hr0 hc0
 have HR1 := Aside0.mk hr1
 have HC1 := Aside0.mk hc1
 clear hr1 hc1
 have H := h
 unfold laws_mSame.f at H
 clear h
 by_cases c3 : (l0.length : Int) = (l1.length : Int)
 rotate_left
 ·rw [if_neg c3] at H
  have c3b0 : ((l0.length : Int) == (l1.length : Int)) = false := beq_eq_false_iff_ne.mpr c3
  have c3b1 : ((l0.length : Int) != (l1.length : Int)) = true := bne_iff_ne.mpr c3
  have c3b2 : (l0.length == l1.length) = false := by first | simpa using c3 | (simp at c3 ⊢; omega)
  obtain rfl := Option.some.inj H
  go_enter Tryz.func55, Tryz.ntmps55
  go_wp2
  repeat (go_quiet (fail); try go_wp2)
  go_ret
  exact ⟨by first | rfl | (simp; done) | (simp [*]; done), dS⟩
 rw [if_pos c3] at H
 have c3b0 : ((l0.length : Int) == (l1.length : Int)) = true := beq_iff_eq.mpr c3
 have c3b1 : ((l0.length : Int) != (l1.length : Int)) = false := bne_eq_false_iff_eq.mpr c3
 have c3b2 : (l0.length == l1.length) = true := by first | simpa using c3 | (simp at c3 ⊢; omega)
 clear c3
 have H' := Aside0.mk H
 clear H
 go_enter Tryz.func55, Tryz.ntmps55
 go_wp2
 repeat (go_quiet (fail); try go_wp2)
 go_loopg [13] k (fun kq v13 w' => ∃ (x13_1 : Int), v13 = .int .i64 x13_1 ∧ Aside0 (laws_mSame.l0 kq l0 l1 (l0.length : Int) x13_1 = some r) ∧ Aside0 (kq ≤ k) ∧ Drawn0 w w')
 case atStart => exact ⟨(0), gR, H', ⟨Nat.le_refl _⟩, dS⟩
 case round =>
  clear H'
  (try clear c1); (try clear p2); (try clear c3); (try clear c3b0); (try clear c3b1); (try clear c3b2)
  obtain ⟨x13_1, rfl, HA, HK1, ⟨m1, rfl⟩⟩ := hrel
  cases gk with
  | zero => exact absurd HA.out (by simp [laws_mSame.l0])
  | succ k1 =>
   have H := HA.out
   clear HA
   simp only [laws_mSame.l0] at H
   by_cases c4 : x13_1 < (l0.length : Int)
   rotate_left
   ·rw [if_neg c4] at H
    have c4b0 : decide (x13_1 < (l0.length : Int)) = false := decide_eq_false c4
    clear c4
    obtain rfl := Option.some.inj H
    go_wp2
    repeat (go_quiet (fail); try go_wp2)
    go_ret
    exact ⟨by first | rfl | (simp; done) | (simp [*]; done), dS⟩
   rw [if_pos c4] at H
   have c4b0 := decide_eq_true c4
   clear c4
   by_cases c5 : 0 ≤ x13_1
   rotate_left
   ·rw [if_neg c5] at H
    exact absurd H (by simp)
   rw [if_pos c5] at H
   have c5b0 := decide_eq_true c5
   clear c5
   by_cases c6 : x13_1 < (l0.length : Int)
   rotate_left
   ·rw [if_neg c6] at H
    exact absurd H (by simp)
   rw [if_pos c6] at H
   have c6b0 := decide_eq_true c6
   clear c6
   by_cases c7 : x13_1 < (l1.length : Int)
   rotate_left
   ·rw [if_neg c7] at H
    exact absurd H (by simp)
   rw [if_pos c7] at H
   have c7b0 := decide_eq_true c7
   clear c7
   by_cases c8 : (rd l0 x13_1) = (rd l1 x13_1)
   rotate_left
   ·rw [if_neg c8] at H
    have c8b0 : ((rd l0 x13_1) == (rd l1 x13_1)) = false := beq_eq_false_iff_ne.mpr c8
    have c8b1 : ((rd l0 x13_1) != (rd l1 x13_1)) = true := bne_iff_ne.mpr c8
    obtain rfl := Option.some.inj H
    have p101 : 0 ≤ (x13_1 : Int) := oD
    have q101 : x13_1 < (l0.length : Int) := oD
    obtain ⟨ad101, e101, hx101_0⟩ := Kd.at_int HR0.out x13_1 p101 q101
    cases e101
    replace p101 := eq_true p101
    replace q101 := eq_true q101
    have p102 : 0 ≤ (x13_1 : Int) := oD
    have q102 : x13_1 < (l1.length : Int) := oD
    obtain ⟨ad102, e102, hx102_0⟩ := Kd.at_int HR1.out x13_1 p102 q102
    cases e102
    replace p102 := eq_true p102
    replace q102 := eq_true q102
    go_wp2
    repeat (go_quiet (fail); try go_wp2)
    go_ret
    exact ⟨by first | rfl | (simp; done) | (simp [*]; done), dS⟩
   rw [if_pos c8] at H
   have c8b0 : ((rd l0 x13_1) == (rd l1 x13_1)) = true := beq_iff_eq.mpr c8
   have c8b1 : ((rd l0 x13_1) != (rd l1 x13_1)) = false := bne_eq_false_iff_eq.mpr c8
   clear c8
   have H' := Aside0.mk H
   clear H
   have p101 : 0 ≤ (x13_1 : Int) := oD
   have q101 : x13_1 < (l0.length : Int) := oD
   obtain ⟨ad101, e101, hx101_0⟩ := Kd.at_int HR0.out x13_1 p101 q101
   cases e101
   replace p101 := eq_true p101
   replace q101 := eq_true q101
   have p102 : 0 ≤ (x13_1 : Int) := oD
   have q102 : x13_1 < (l1.length : Int) := oD
   obtain ⟨ad102, e102, hx102_0⟩ := Kd.at_int HR1.out x13_1 p102 q102
   cases e102
   replace p102 := eq_true p102
   replace q102 := eq_true q102
   go_wp2
   repeat (go_quiet (fail); try go_wp2)
   go_roundg k1
   case measure => have := HK1.out; omega
   case rel => exact ⟨(wrap64 (x13_1 + 1)), gR, H', ⟨by have := HK1.out; omega⟩, dS⟩
def laws_mCommittee.f (k : Nat) (a0_0 : Int) (l0_1 : List Int) (a1_0 : Int) (l1_1 : List Int) : Option (Bool) := if a0_0 = a1_0 then ((laws_mSame.f k l0_1 l1_1).bind fun t103 => (some t103)) else (some false)
theorem laws_mCommittee.calls (k : Nat) (a0_0 : Int) (A0_1 : Option Addr) (c0_1 : Nat) (l0_1 : List Int) (a1_0 : Int) (A1_1 : Option Addr) (c1_1 : Nat) (l1_1 : List Int) (r : Bool) (w : World) (hr0_1 : Kd.C (Kd.int .i64) w A0_1 l0_1.length l0_1) (hc0_1 : l0_1.length ≤ c0_1) (hr1_1 : Kd.C (Kd.int .i64) w A1_1 l1_1.length l1_1) (hc1_1 : l1_1.length ≤ c1_1) (h : laws_mCommittee.f k a0_0 l0_1 a1_0 l1_1 = some r) :
  Calls Tryz.prog 15 #[.agg #[.int .i64 a0_0, .slice A0_1 l0_1.length c0_1], .agg #[.int .i64 a1_0, .slice A1_1 l1_1.length c1_1]] w fun e w' => e = .returned (.bool r) ∧ Below w.heap.size w w' := by
 have hu24 := Tryz.underlying24
 have HR0_1 := Aside0.mk hr0_1
 have HC0_1 := Aside0.mk hc0_1
 clear hr0_1 hc0_1
 have HR1_1 := Aside0.mk hr1_1
 have HC1_1 := Aside0.mk hc1_1
 clear hr1_1 hc1_1
 have HB := Aside0.mk (Below.refl w.heap.size w)
 have H := h
 unfold laws_mCommittee.f at H
 clear h
 by_cases c3 : a0_0 = a1_0
 ·rw [if_pos c3] at H
  have c3b0 : (a0_0 == a1_0) = true := beq_iff_eq.mpr c3
  have c3b1 : (a0_0 != a1_0) = false := bne_eq_false_iff_eq.mpr c3
  clear c3
  replace H := oA H
  obtain ⟨t103, A4, H⟩ := H
  (try dsimp only at H)
  obtain rfl := Option.some.inj H
  go_enter Tryz.func15, Tryz.ntmps15
  go_wp2_with (first | ((with_reducible refine gate_dst (N := 2) rfl ?_); refine xE (N := 2) (cs := #[.int .i64 a0_0, .slice A0_1 l0_1.length c0_1]) (t := 24) ?_; intro gb101 hg w5 BK101 hb; have GW101 := gS hg HB; have GE101 := gS hg HB; replace HB := sB HB hb; clear hb hg) | ((with_reducible refine gate_dst (N := 3) rfl ?_); refine xE (N := 3) (cs := #[.int .i64 a1_0, .slice A1_1 l1_1.length c1_1]) (t := 24) ?_; intro gb102 hg w6 BK102 hb; have GW102 := gS hg HB; have GE102 := gS hg HB; have NB101_102 := nL hg (blk_lt BK101.out); have NB102_101 := nG hg (blk_lt BK101.out); replace BK101 := bB BK101 hb; replace HB := sB HB hb; clear hb hg; have hnb7 := NB101_102.out; have hnc7 := NB102_101.out; obtain ⟨hcz8_0, hcz8_1, hfz8_0, hfz8_1⟩ := zZ BK101; obtain ⟨hcz9_0, hcz9_1, hfz9_0, hfz9_1⟩ := zZ BK102) | (go_at_call 55; (with_reducible refine (laws_mSame.calls k _ _ l0_1 _ _ l1_1 t103 _ (Kd.C_below HR0_1.out HB.out) HC0_1.out (Kd.C_below HR1_1.out HB.out) HC1_1.out A4.out).mono ?_); rintro e w' ⟨rfl, ⟨nd, rfl⟩⟩))
  go_ret
  exact ⟨fR, wB⟩
 rw [if_neg c3] at H
 have c3b0 : (a0_0 == a1_0) = false := beq_eq_false_iff_ne.mpr c3
 have c3b1 : (a0_0 != a1_0) = true := bne_iff_ne.mpr c3
 obtain rfl := Option.some.inj H
 go_enter Tryz.func15, Tryz.ntmps15
 go_wp2_with (first | ((with_reducible refine gate_dst (N := 2) rfl ?_); refine xE (N := 2) (cs := #[.int .i64 a0_0, .slice A0_1 l0_1.length c0_1]) (t := 24) ?_; intro gb101 hg w10 BK101 hb; have GW101 : Aside0 (w.heap.size ≤ gb101) := gT hg; have GE101 : Aside0 (w.heap.size ≤ gb101) := gT hg; replace HB := sQ hb; clear hb hg) | ((with_reducible refine gate_dst (N := 3) rfl ?_); refine xE (N := 3) (cs := #[.int .i64 a1_0, .slice A1_1 l1_1.length c1_1]) (t := 24) ?_; intro gb102 hg w11 BK102 hb; have GW102 := Aside0.mk ((by rw [hg]; exact (below_size (by repeat (first | exact HB.out | apply ba | apply bd | apply be | refine bs ?_ GE101.out))) : w.heap.size ≤ gb102)); have GE102 := Aside0.mk ((by rw [hg]; exact (below_size (by repeat (first | exact HB.out | apply ba | apply bd | apply be | refine bs ?_ GE101.out))) : w.heap.size ≤ gb102)); have NB101_102 := Aside0.mk ((by rw [hg]; exact Nat.ne_of_lt (blk_lt (g := gb101) (o := .cells #[.int .i64 a0_0, .slice A0_1 l0_1.length c0_1] 24 (0, 0)) (bQ BK101)) : gb101 ≠ gb102)); have NB102_101 := Aside0.mk ((by rw [hg]; exact Nat.ne_of_gt (blk_lt (g := gb101) (o := .cells #[.int .i64 a0_0, .slice A0_1 l0_1.length c0_1] 24 (0, 0)) (bQ BK101)) : gb102 ≠ gb101)); replace BK101 := bP BK101 hb; replace HB := sQ hb; clear hb hg; have hnb12 := NB101_102.out; have hnc12 := NB102_101.out; (try clear hcz8_0 hcz8_1 hfz8_0 hfz8_1 hcz9_0 hcz9_1 hfz9_0 hfz9_1); obtain ⟨hcz13_0, hcz13_1, hfz13_0, hfz13_1⟩ := zZ BK101; obtain ⟨hcz14_0, hcz14_1, hfz14_0, hfz14_1⟩ := zZ BK102))
 go_ret
 exact ⟨fR, wB⟩
def slices_Equal_bool_bool.l0 : Nat → List Bool → List Bool → Int → Int → Option (Bool)
 | 0, _, _, _, _ => none
 | k + 1, x0, x1, x12, x13 => if x13 < x12 then (if 0 ≤ x13 then (if x13 < (x0.length : Int) then (if x13 < (x1.length : Int) then (if ((rdOf false x0 x13) != (rdOf false x1 x13)) = true then (some false) else (slices_Equal_bool_bool.l0 k x0 x1 x12 (wrap64 (x13 + 1)))) else (none)) else (none)) else (none)) else (some true)
def slices_Equal_bool_bool.f (k : Nat) (l0 : List Bool) (l1 : List Bool) : Option (Bool) := if (l0.length : Int) = (l1.length : Int) then (slices_Equal_bool_bool.l0 k l0 l1 (l0.length : Int) 0) else (some false)
theorem slices_Equal_bool_bool.calls (k : Nat) (A0 : Option Addr) (c0 : Nat) (l0 : List Bool) (A1 : Option Addr) (c1 : Nat) (l1 : List Bool) (r : Bool) (w : World) (hr0 : Kd.C Kd.bool w A0 l0.length l0) (hc0 : l0.length ≤ c0) (hr1 : Kd.C Kd.bool w A1 l1.length l1) (hc1 : l1.length ≤ c1) (h : slices_Equal_bool_bool.f k l0 l1 = some r) :
  Calls Tryz.prog 84 #[.slice A0 l0.length c0, .slice A1 l1.length c1] w fun e w' => e = .returned (.bool r) ∧ Drawn0 w w' := by
 have HR0 := Aside0.mk hr0
 have HC0 := Aside0.mk hc0
 clear hr0 hc0
 have HR1 := Aside0.mk hr1
 have HC1 := Aside0.mk hc1
 clear hr1 hc1
 have H := h
 unfold slices_Equal_bool_bool.f at H
 clear h
 by_cases c3 : (l0.length : Int) = (l1.length : Int)
 rotate_left
 ·rw [if_neg c3] at H
  have c3b0 : ((l0.length : Int) == (l1.length : Int)) = false := beq_eq_false_iff_ne.mpr c3
  have c3b1 : ((l0.length : Int) != (l1.length : Int)) = true := bne_iff_ne.mpr c3
  have c3b2 : (l0.length == l1.length) = false := by first | simpa using c3 | (simp at c3 ⊢; omega)
  obtain rfl := Option.some.inj H
  go_enter Tryz.func84, Tryz.ntmps84
  go_wp2
  repeat (go_quiet (fail); try go_wp2)
  go_ret
  exact ⟨by first | rfl | (simp; done) | (simp [*]; done), dS⟩
 rw [if_pos c3] at H
 have c3b0 : ((l0.length : Int) == (l1.length : Int)) = true := beq_iff_eq.mpr c3
 have c3b1 : ((l0.length : Int) != (l1.length : Int)) = false := bne_eq_false_iff_eq.mpr c3
 have c3b2 : (l0.length == l1.length) = true := by first | simpa using c3 | (simp at c3 ⊢; omega)
 clear c3
 have H' := Aside0.mk H
 clear H
 go_enter Tryz.func84, Tryz.ntmps84
 go_wp2
 repeat (go_quiet (fail); try go_wp2)
 go_loopg [13] k (fun kq v13 w' => ∃ (x13_1 : Int), v13 = .int .i64 x13_1 ∧ Aside0 (slices_Equal_bool_bool.l0 kq l0 l1 (l0.length : Int) x13_1 = some r) ∧ Aside0 (kq ≤ k) ∧ Drawn0 w w')
 case atStart => exact ⟨(0), gR, H', ⟨Nat.le_refl _⟩, dS⟩
 case round =>
  clear H'
  (try clear c1); (try clear p2); (try clear c3); (try clear c3b0); (try clear c3b1); (try clear c3b2)
  obtain ⟨x13_1, rfl, HA, HK1, ⟨m1, rfl⟩⟩ := hrel
  cases gk with
  | zero => exact absurd HA.out (by simp [slices_Equal_bool_bool.l0])
  | succ k1 =>
   have H := HA.out
   clear HA
   simp only [slices_Equal_bool_bool.l0] at H
   by_cases c4 : x13_1 < (l0.length : Int)
   rotate_left
   ·rw [if_neg c4] at H
    have c4b0 : decide (x13_1 < (l0.length : Int)) = false := decide_eq_false c4
    clear c4
    obtain rfl := Option.some.inj H
    go_wp2
    repeat (go_quiet (fail); try go_wp2)
    go_ret
    exact ⟨by first | rfl | (simp; done) | (simp [*]; done), dS⟩
   rw [if_pos c4] at H
   have c4b0 := decide_eq_true c4
   clear c4
   by_cases c5 : 0 ≤ x13_1
   rotate_left
   ·rw [if_neg c5] at H
    exact absurd H (by simp)
   rw [if_pos c5] at H
   have c5b0 := decide_eq_true c5
   clear c5
   by_cases c6 : x13_1 < (l0.length : Int)
   rotate_left
   ·rw [if_neg c6] at H
    exact absurd H (by simp)
   rw [if_pos c6] at H
   have c6b0 := decide_eq_true c6
   clear c6
   by_cases c7 : x13_1 < (l1.length : Int)
   rotate_left
   ·rw [if_neg c7] at H
    exact absurd H (by simp)
   rw [if_pos c7] at H
   have c7b0 := decide_eq_true c7
   clear c7
   by_cases c8 : ((rdOf false l0 x13_1) != (rdOf false l1 x13_1)) = true
   ·rw [if_pos c8] at H
    have c8b0 : ((rdOf false l0 x13_1) != (rdOf false l1 x13_1)) = true := c8
    (try (have c8b1 : decide ((rdOf false l0 x13_1) = (rdOf false l1 x13_1)) = false := by simpa using c8))
    (try (have c8b2 : ((rdOf false l0 x13_1) == (rdOf false l1 x13_1)) = false := by simpa using c8))
    (try (have c8b3 : ¬ ((rdOf false l0 x13_1) = (rdOf false l1 x13_1)) := by simpa using c8))
    clear c8
    obtain rfl := Option.some.inj H
    have p101 : 0 ≤ (x13_1 : Int) := oD
    have q101 : x13_1 < (l0.length : Int) := oD
    obtain ⟨ad101, e101, hx101_0⟩ := Kd.at_bool HR0.out x13_1 p101 q101
    cases e101
    replace p101 := eq_true p101
    replace q101 := eq_true q101
    have p102 : 0 ≤ (x13_1 : Int) := oD
    have q102 : x13_1 < (l1.length : Int) := oD
    obtain ⟨ad102, e102, hx102_0⟩ := Kd.at_bool HR1.out x13_1 p102 q102
    cases e102
    replace p102 := eq_true p102
    replace q102 := eq_true q102
    go_wp2
    repeat (go_quiet (fail); try go_wp2)
    go_ret
    exact ⟨by first | rfl | (simp; done) | (simp [*]; done), dS⟩
   rw [if_neg c8] at H
   have c8b0 : ((rdOf false l0 x13_1) != (rdOf false l1 x13_1)) = false := by simpa using c8
   (try (have c8b1 : decide ((rdOf false l0 x13_1) = (rdOf false l1 x13_1)) = true := by simpa using c8))
   (try (have c8b2 : ((rdOf false l0 x13_1) == (rdOf false l1 x13_1)) = true := by simpa using c8))
   clear c8
   have H' := Aside0.mk H
   clear H
   have p101 : 0 ≤ (x13_1 : Int) := oD
   have q101 : x13_1 < (l0.length : Int) := oD
   obtain ⟨ad101, e101, hx101_0⟩ := Kd.at_bool HR0.out x13_1 p101 q101
   cases e101
   replace p101 := eq_true p101
   replace q101 := eq_true q101
   have p102 : 0 ≤ (x13_1 : Int) := oD
   have q102 : x13_1 < (l1.length : Int) := oD
   obtain ⟨ad102, e102, hx102_0⟩ := Kd.at_bool HR1.out x13_1 p102 q102
   cases e102
   replace p102 := eq_true p102
   replace q102 := eq_true q102
   go_wp2
   repeat (go_quiet (fail); try go_wp2)
   go_roundg k1
   case measure => have := HK1.out; omega
   case rel => exact ⟨(wrap64 (x13_1 + 1)), gR, H', ⟨by have := HK1.out; omega⟩, dS⟩
def impl_votes_same.f (k : Nat) (a0_0 : Int) (l0_1 : List Bool) (a1_0 : Int) (l1_1 : List Bool) : Option (Bool) := (slices_Equal_bool_bool.f k l0_1 l1_1).bind fun t103 => (some t103)
theorem impl_votes_same.calls (k : Nat) (a0_0 : Int) (A0_1 : Option Addr) (c0_1 : Nat) (l0_1 : List Bool) (a1_0 : Int) (A1_1 : Option Addr) (c1_1 : Nat) (l1_1 : List Bool) (r : Bool) (w : World) (hr0_1 : Kd.C Kd.bool w A0_1 l0_1.length l0_1) (hc0_1 : l0_1.length ≤ c0_1) (hr1_1 : Kd.C Kd.bool w A1_1 l1_1.length l1_1) (hc1_1 : l1_1.length ≤ c1_1) (h : impl_votes_same.f k a0_0 l0_1 a1_0 l1_1 = some r) :
  Calls Tryz.prog 58 #[.agg #[.int .i64 a0_0, .slice A0_1 l0_1.length c0_1], .agg #[.int .i64 a1_0, .slice A1_1 l1_1.length c1_1]] w fun e w' => e = .returned (.bool r) ∧ Below w.heap.size w w' := by
 have hu53 := Tryz.underlying53
 have HR0_1 := Aside0.mk hr0_1
 have HC0_1 := Aside0.mk hc0_1
 clear hr0_1 hc0_1
 have HR1_1 := Aside0.mk hr1_1
 have HC1_1 := Aside0.mk hc1_1
 clear hr1_1 hc1_1
 have HB := Aside0.mk (Below.refl w.heap.size w)
 have H := h
 unfold impl_votes_same.f at H
 clear h
 replace H := oA H
 obtain ⟨t103, A3, H⟩ := H
 (try dsimp only at H)
 obtain rfl := Option.some.inj H
 go_enter Tryz.func58, Tryz.ntmps58
 go_wp2_with (first | ((with_reducible refine gate_dst (N := 2) rfl ?_); refine xE (N := 2) (cs := #[.int .i64 a0_0, .slice A0_1 l0_1.length c0_1]) (t := 53) ?_; intro gb101 hg w4 BK101 hb; have GW101 := gS hg HB; have GE101 := gS hg HB; replace HB := sB HB hb; clear hb hg) | ((with_reducible refine gate_dst (N := 3) rfl ?_); refine xE (N := 3) (cs := #[.int .i64 a1_0, .slice A1_1 l1_1.length c1_1]) (t := 53) ?_; intro gb102 hg w5 BK102 hb; have GW102 := gS hg HB; have GE102 := gS hg HB; have NB101_102 := nL hg (blk_lt BK101.out); have NB102_101 := nG hg (blk_lt BK101.out); replace BK101 := bB BK101 hb; replace HB := sB HB hb; clear hb hg; have hnb6 := NB101_102.out; have hnc6 := NB102_101.out; obtain ⟨hcz7_0, hcz7_1, hfz7_0, hfz7_1⟩ := zZ BK101; obtain ⟨hcz8_0, hcz8_1, hfz8_0, hfz8_1⟩ := zZ BK102) | ((with_reducible refine gate_callee (f := 84) rfl ?_); refine gL 9 Tryz.func84 #[.slice A0_1 l0_1.length c0_1, .slice A1_1 l1_1.length c1_1] ?_; (with_reducible refine (slices_Equal_bool_bool.calls k _ _ l0_1 _ _ l1_1 t103 _ (Kd.C_below HR0_1.out HB.out) HC0_1.out (Kd.C_below HR1_1.out HB.out) HC1_1.out A3.out).mono ?_); rintro e w' ⟨rfl, ⟨nd, rfl⟩⟩; refine ⟨_, rfl, ?_⟩))
 go_ret
 exact ⟨fR, wB⟩
def impl_AreSameVotes.j0 : Nat → Bool → Int → List Int → Int → List Int → Option (Bool × Bool)
 | 0, _, _, _, _, _ => none
 | k + 1, x13, x102000, x102001, x103000, x103001 => if x13 = true then (some (false, false)) else ((impl_Committee_votes.f k x102000 x102001).bind fun bt105 => ((impl_Committee_votes.f k x103000 x103001).bind fun bt109 => ((impl_votes_same.f k bt105.1 bt105.2 bt109.1 bt109.2).bind fun t113 => (some (t113, true)))))
def impl_AreSameVotes.f (k : Nat) (a0_0 : Int) (l0_1 : List Int) (a1_0 : Int) (l1_1 : List Int) : Option (Bool × Bool) := (impl_IsCommittee.f k a0_0 l0_1).bind fun t103 => (if t103 = true then ((impl_IsCommittee.f k a1_0 l1_1).bind fun t104 => (impl_AreSameVotes.j0 k (!t104) a0_0 l0_1 a1_0 l1_1)) else (impl_AreSameVotes.j0 k true a0_0 l0_1 a1_0 l1_1))
theorem impl_AreSameVotes.calls (k : Nat) (a0_0 : Int) (A0_1 : Option Addr) (c0_1 : Nat) (l0_1 : List Int) (a1_0 : Int) (A1_1 : Option Addr) (c1_1 : Nat) (l1_1 : List Int) (r1 : Bool) (r2 : Bool) (w : World) (hr0_1 : Kd.C (Kd.int .i64) w A0_1 l0_1.length l0_1) (hc0_1 : l0_1.length ≤ c0_1) (hr1_1 : Kd.C (Kd.int .i64) w A1_1 l1_1.length l1_1) (hc1_1 : l1_1.length ≤ c1_1) (h : impl_AreSameVotes.f k a0_0 l0_1 a1_0 l1_1 = some (r1, r2)) :
  Calls Tryz.prog 17 #[.agg #[.int .i64 a0_0, .slice A0_1 l0_1.length c0_1], .agg #[.int .i64 a1_0, .slice A1_1 l1_1.length c1_1]] w fun e w' => e = .returned (.tuple #[.bool r1, .bool r2]) ∧ Below w.heap.size w w' := by
 have hu24 := Tryz.underlying24
 have HR0_1 := Aside0.mk hr0_1
 have HC0_1 := Aside0.mk hc0_1
 clear hr0_1 hc0_1
 have HR1_1 := Aside0.mk hr1_1
 have HC1_1 := Aside0.mk hc1_1
 clear hr1_1 hc1_1
 have HB := Aside0.mk (Below.refl w.heap.size w)
 have H := h
 unfold impl_AreSameVotes.f at H
 clear h
 have HC3 := Aside0.mk H
 clear H
 go_enter Tryz.func17, Tryz.ntmps17
 go_upto_region 1 with (first | ((with_reducible refine gate_dst (N := 2) rfl ?_); refine xE (N := 2) (cs := #[.int .i64 a0_0, .slice A0_1 l0_1.length c0_1]) (t := 24) ?_; intro gb101 hg w4 BK101 hb; have GW101 := gS hg HB; have GE101 := gS hg HB; replace HB := sB HB hb; clear hb hg) | ((with_reducible refine gate_dst (N := 3) rfl ?_); refine xE (N := 3) (cs := #[.int .i64 a1_0, .slice A1_1 l1_1.length c1_1]) (t := 24) ?_; intro gb102 hg w5 BK102 hb; have GW102 := gS hg HB; have GE102 := gS hg HB; have NB101_102 := nL hg (blk_lt BK101.out); have NB102_101 := nG hg (blk_lt BK101.out); replace BK101 := bB BK101 hb; replace HB := sB HB hb; clear hb hg))
 (try simp only [Act.put, sA, sZ, sS])
 go_cut [13] (fun v13 wc => ∃ (kq : Nat) (x13_2 : Bool), v13 = .bool x13_2 ∧ Aside0 (impl_AreSameVotes.j0 kq x13_2 a0_0 l0_1 a1_0 l1_1 = some (r1, r2)) ∧ Aside0 (kq ≤ k) ∧ Aside0 (wc.heap[gb101]? = some (.cells #[.int .i64 a0_0, (.slice A0_1 l0_1.length c0_1)] 24 (0, 0))) ∧ Aside0 (wc.heap[gb102]? = some (.cells #[.int .i64 a1_0, (.slice A1_1 l1_1.length c1_1)] 24 (0, 0))) ∧ Aside0 (Below w.heap.size w wc))
 case first =>
  have H := HC3.out
  clear HC3
  replace H := oA H
  obtain ⟨t103, A6, H⟩ := H
  (try dsimp only at H)
  by_cases c7 : t103 = true
  rotate_left
  ·replace c7 := Bool.eq_false_iff.mpr c7
   subst c7
   replace H := iF H
   have H' := Aside0.mk H
   clear H
   have hnb14 := NB101_102.out
   have hnc14 := NB102_101.out
   (try clear hcz12_0 hcz12_1 hfz12_0 hfz12_1)
   obtain ⟨hcz15_0, hcz15_1, hfz15_0, hfz15_1⟩ := zZ BK101
   go_wp2_with (first | ((with_reducible refine gate_callee (f := 16) rfl ?_); refine gL 7 Tryz.func16 #[.agg #[.int .i64 a0_0, .slice A0_1 l0_1.length c0_1]] ?_; (with_reducible refine (impl_IsCommittee.calls k a0_0 _ _ l0_1 false _ (Kd.C_below HR0_1.out HB.out) HC0_1.out A6.out).mono ?_); rintro e w16 ⟨rfl, hb⟩; refine ⟨_, rfl, ?_⟩; replace BK101 := bB BK101 hb; replace BK102 := bB BK102 hb; replace HB := sB HB hb; (try clear hb)))
   go_meet
   case rel => exact ⟨_, (true), gR, H', ⟨by first | omega | exact Nat.le_refl _⟩, ⟨by exact BK101.out⟩, ⟨by exact BK102.out⟩, ⟨wB⟩⟩
  subst c7
  replace H := iT H
  replace H := oA H
  obtain ⟨t104, A8, H⟩ := H
  (try dsimp only at H)
  have H' := Aside0.mk H
  clear H
  have hnb9 := NB101_102.out
  have hnc9 := NB102_101.out
  obtain ⟨hcz10_0, hcz10_1, hfz10_0, hfz10_1⟩ := zZ BK101
  go_wp2_with (first | ((with_reducible refine gate_callee (f := 16) rfl ?_); refine gL 7 Tryz.func16 #[.agg #[.int .i64 a0_0, .slice A0_1 l0_1.length c0_1]] ?_; (with_reducible refine (impl_IsCommittee.calls k a0_0 _ _ l0_1 true _ (Kd.C_below HR0_1.out HB.out) HC0_1.out A6.out).mono ?_); rintro e w11 ⟨rfl, hb⟩; refine ⟨_, rfl, ?_⟩; replace BK101 := bB BK101 hb; replace BK102 := bB BK102 hb; replace HB := sB HB hb; (try clear hb); (try clear hcz10_0 hcz10_1 hfz10_0 hfz10_1); obtain ⟨hcz12_0, hcz12_1, hfz12_0, hfz12_1⟩ := zZ BK102) | (go_at_call 16; (with_reducible refine (impl_IsCommittee.calls k a1_0 _ _ l1_1 t104 _ (Kd.C_below HR1_1.out HB.out) HC1_1.out A8.out).mono ?_); rintro e w13 ⟨rfl, hb⟩; replace BK101 := bB BK101 hb; replace BK102 := bB BK102 hb; replace HB := sB HB hb; (try clear hb)))
  go_meet
  case rel => exact ⟨_, (!t104), gR, H', ⟨by first | omega | exact Nat.le_refl _⟩, ⟨by exact BK101.out⟩, ⟨by exact BK102.out⟩, ⟨wB⟩⟩
 case rest =>
  clear HC3
  (try clear c1); (try clear p2); (try clear c7); (try clear c9); (try clear c14); (try clear c16); (try clear hcz15_0); (try clear hcz15_1); (try clear hfz15_0); (try clear hfz15_1)
  obtain ⟨kq, x13_2, rfl, HA, HJ2, BK101, BK102, HB⟩ := hcut
  cases kq with
  | zero => exact absurd HA.out (by simp [impl_AreSameVotes.j0])
  | succ kj2 =>
   have H := HA.out
   clear HA
   simp only [impl_AreSameVotes.j0] at H
   by_cases c17 : x13_2 = true
   ·subst c17
    replace H := iT H
    simp only [Option.some.injEq, Prod.mk.injEq] at H
    obtain ⟨rfl, rfl⟩ := H
    go_wp2
    go_ret2
    exact ⟨fR, wB⟩
   replace c17 := Bool.eq_false_iff.mpr c17
   subst c17
   replace H := iF H
   replace H := oB H
   obtain ⟨⟨t105, t106⟩, A180, H⟩ := H
   (try dsimp only at H)
   have A18 := Aside0.mk A180
   clear A180
   replace H := oB H
   obtain ⟨⟨t109, t110⟩, A190, H⟩ := H
   (try dsimp only at H)
   have A19 := Aside0.mk A190
   clear A190
   replace H := oA H
   obtain ⟨t113, A20, H⟩ := H
   (try dsimp only at H)
   simp only [Option.some.injEq, Prod.mk.injEq] at H
   obtain ⟨rfl, rfl⟩ := H
   try go_wp2
   replace BK101 := bD BK101
   replace BK102 := bD BK102
   replace HB := Aside0.mk (below_drew1 HB.out)
   refine start_ (n := 7) (S := fun w' => w'.cell? ⟨gb101, 0, none⟩ = some (.int .i64 a0_0) ∧ w'.cell? ⟨gb101, 1, none⟩ = some (.slice A0_1 l0_1.length c0_1) ∧ w'.cell? ⟨gb102, 0, none⟩ = some (.int .i64 a1_0) ∧ w'.cell? ⟨gb102, 1, none⟩ = some (.slice A1_1 l1_1.length c1_1)) (ds := []) #[F,F,F,F,F,F,F] (by kernel_rfl) rfl rfl ⟨(blk_cell BK101.out 0).trans rfl, (blk_cell BK101.out 1).trans rfl, (blk_cell BK102.out 0).trans rfl, (blk_cell BK102.out 1).trans rfl⟩ (fun hHeld => ?_)
   generalize wc.drew = w21 at BK101 BK102 HB hHeld ⊢
   refine take_ (i := 0) (N := some 14) (v := ?_) (a' := ?_) #[T,F,F,F,F,F,F] rfl rfl (by kernel_rfl) (fun _ _ _ h => h) (Or.inl ⟨by rfl, ?_⟩) hHeld ?_ ?_
   rotate_left
   ·rintro w' ⟨s0, s1, s2, s3⟩
    go_simp
    with_reducible rfl
   rotate_left
   ·simp only [Act.put, sA, sZ, sS, i64_w, i32_w]
    rfl
   refine take_ (i := 2) (N := some 16) (v := ?_) (a' := ?_) #[T,F,T,F,F,F,F] rfl rfl (by kernel_rfl) (fun _ _ _ h => h) (Or.inl ⟨by rfl, ?_⟩) hHeld ?_ ?_
   rotate_left
   ·rintro w' ⟨s0, s1, s2, s3⟩
    go_simp
    with_reducible rfl
   rotate_left
   ·simp only [Act.put, sA, sZ, sS, i64_w, i32_w]
    rfl
   refine one_ (i := 1) (N := some 15) #[T,T,T,F,F,F,F] rfl rfl (by kernel_rfl) (by decide) (fun K hK => ?_)
   refine gE Tryz.func40 #[.agg #[.int .i64 a0_0, .slice A0_1 l0_1.length c0_1]] ?_
   with_reducible refine (impl_Committee_votes.calls kj2 a0_0 _ _ l0_1 t105 t106 _ (Kd.C_below HR0_1.out HB.out) HC0_1.out A18.out).mono ?_
   rintro e w22 ⟨v107, rfl, ho0, hb⟩
   refine ⟨_, rfl, ?_⟩
   have HO108 := Aside0.mk (Kd.R_lower ho0 (below_size HB.out))
   replace BK101 := bB BK101 hb
   replace BK102 := bB BK102 hb
   replace HB := sB HB hb
   (try clear hb)
   (try clear hb2)
   (try clear hk)
   (try clear hi)
   (try clear ho0)
   refine hK.out _ _ ⟨(blk_cell BK101.out 0).trans rfl, (blk_cell BK101.out 1).trans rfl, (blk_cell BK102.out 0).trans rfl, (blk_cell BK102.out 1).trans rfl⟩ (fun hHeld => ?_)
   clear hK K
   refine nM ?_
   refine one_ (i := 3) (N := some 17) #[T,T,T,T,F,F,F] rfl rfl (by kernel_rfl) (by decide) (fun K hK => ?_)
   refine gE Tryz.func40 #[.agg #[.int .i64 a1_0, .slice A1_1 l1_1.length c1_1]] ?_
   with_reducible refine (impl_Committee_votes.calls kj2 a1_0 _ _ l1_1 t109 t110 _ (Kd.C_below HR1_1.out HB.out) HC1_1.out A19.out).mono ?_
   rintro e w23 ⟨v111, rfl, ho0, hb⟩
   refine ⟨_, rfl, ?_⟩
   have HO112 := Aside0.mk (Kd.R_lower (Kd.R_new' ho0 (Kd.R_lt HO108.out)) (below_size HB.out))
   replace HO108 := rE HO108 (Kd.R_base ho0) hb
   replace BK101 := bB BK101 hb
   replace BK102 := bB BK102 hb
   replace HB := sB HB hb
   (try clear hb)
   (try clear hb2)
   (try clear hk)
   (try clear hi)
   (try clear ho0)
   obtain ⟨Ao24, co24, eo24⟩ := Kd.R_slice HO108.out
   (first | subst eo24 | (injection eo24 with f1_ f2_ f3_; have f4_ := f1_.symm; have f5_ := f3_.symm; clear f1_ f2_ f3_; subst f4_; subst f5_))
   obtain ⟨Ao25, co25, eo25⟩ := Kd.R_slice HO112.out
   (first | subst eo25 | (injection eo25 with f1_ f2_ f3_; have f4_ := f1_.symm; have f5_ := f3_.symm; clear f1_ f2_ f3_; subst f4_; subst f5_))
   refine hK.out _ _ ⟨(blk_cell BK101.out 0).trans rfl, (blk_cell BK101.out 1).trans rfl, (blk_cell BK102.out 0).trans rfl, (blk_cell BK102.out 1).trans rfl⟩ (fun hHeld => ?_)
   clear hK K
   refine nM ?_
   refine one_ (i := 4) (N := some 18) #[T,T,T,T,T,F,F] rfl rfl (by kernel_rfl) (by decide) (fun K hK => ?_)
   refine gE Tryz.func58 #[.agg #[.int .i64 t105, .slice Ao24 t106.length co24], .agg #[.int .i64 t109, .slice Ao25 t110.length co25]] ?_
   with_reducible refine (impl_votes_same.calls kj2 t105 _ _ t106 t109 _ _ t110 t113 _ ?side1 ?side2 ?side3 ?side4 A20.out).mono ?_
   (case side1 => have hx_ := (Kd.R_reads' HO108.out).2.2; exact cC)
   (case side2 => exact (Kd.R_reads' HO108.out).2.1)
   (case side3 => have hx_ := (Kd.R_reads' HO112.out).2.2; exact cC)
   (case side4 => exact (Kd.R_reads' HO112.out).2.1)
   rintro e w26 ⟨rfl, hb⟩
   refine ⟨_, rfl, ?_⟩
   replace HO108 := rB HO108 hb
   replace HO112 := rB HO112 hb
   replace BK101 := bB BK101 hb
   replace BK102 := bB BK102 hb
   replace HB := sB HB hb
   (try clear hb)
   (try clear hb2)
   (try clear hk)
   (try clear hi)
   refine hK.out _ _ ⟨(blk_cell BK101.out 0).trans rfl, (blk_cell BK101.out 1).trans rfl, (blk_cell BK102.out 0).trans rfl, (blk_cell BK102.out 1).trans rfl⟩ (fun hHeld => ?_)
   clear hK K
   refine nM ?_
   refine pure_ (i := 5) (N := some 4) (v := ?_) (a' := ?_) #[T,T,T,T,T,T,F] rfl rfl (by kernel_rfl) (fun _ _ _ h => h) (Or.inl ⟨by rfl, ?_⟩) ?_ ?_
   rotate_left
   ·intro w'
    go_simp
    with_reducible rfl
   rotate_left
   ·simp only [Act.put, sA, sZ, sS, i64_w, i32_w]
    rfl
   refine pure_ (i := 6) (N := some 5) (v := ?_) (a' := ?_) #[T,T,T,T,T,T,T] rfl rfl (by kernel_rfl) (fun _ _ _ h => h) (Or.inl ⟨by rfl, ?_⟩) ?_ ?_
   rotate_left
   ·intro w'
    go_simp
    with_reducible rfl
   rotate_left
   ·simp only [Act.put, sA, sZ, sS, i64_w, i32_w]
    rfl
   refine done_ (by kernel_rfl) ?_
   try go_wp2
   go_ret2
   exact ⟨fR, wB⟩
def slices_Sort_int_int.f (l0 : List Int) : Option (List Int) := if 0 < l0.length ∧ l0.length < 4611686018427387904 then some (l0.mergeSort fun x y => decide (x ≤ y)) else none
theorem slices_Sort_int_int.calls (P0_ : Nat → Prop) (u9000_ : Value) (l0 : List Int) (r : List Int) (w0 w : World) (hB : Below w0.heap.size w0 w) (ho0 : Kd.R (Kd.int .i64) 3 w w0.heap.size P0_ u9000_ l0) (h : slices_Sort_int_int.f l0 = some r) :
  Calls Tryz.prog 85 #[u9000_] w fun e w' => e = .returned (.tuple #[]) ∧ Kd.R (Kd.int .i64) 3 w' w0.heap.size (fun k_ => (P0_ k_ ∨ w.heap.size ≤ k_)) u9000_ r ∧ Below w0.heap.size w0 w' ∧ Kept w w' (fun k_ => P0_ k_) := by
 unfold slices_Sort_int_int.f at h
 by_cases hl : 0 < l0.length ∧ l0.length < 4611686018427387904
 case neg => rw [if_neg hl] at h; cases h
 rw [if_pos hl] at h
 obtain rfl := Option.some.inj h
 obtain ⟨gb, cap, cur, rfl, hok, hbase, hh, hnc, hmax, hcs, hH⟩ := Go.Proofs.YtaambkdiokbdgabGreatR.row_open ho0 hl.1
 have hc := Go.Proofs.AnyG.slices_Sort_int Go.Proofs.YtaambkdiokbdgabGreatL.sortOI gb 0 cap l0 w hH (Array.getElem?_eq_some_iff.1 hh).1 hl.2
 change Calls Tryz.prog 85 _ _ _ at hc
 refine hc.mono ?_
 rintro e w' ⟨rfl, n, os, rfl⟩
 have hlen : (l0.mergeSort fun x y => decide (x ≤ y)).length = l0.length := List.length_mergeSort ..
 have hw := Go.Proofs.YtaambkdiokbdgabGreatR.row_wrote (zs := l0.mergeSort fun x y => decide (x ≤ y)) l0.length n os hB hok hbase hh hmax hcs (by omega) (by omega)
 rw [List.take_of_length_le (by omega), hlen] at hw
 exact ⟨rfl, hw⟩
def slices_Compact_int_int.f (l0 : List Int) : Option (List Int) := if 0 < l0.length then some (Go.Lib.compact l0) else none
theorem slices_Compact_int_int.calls (P0_ : Nat → Prop) (u9000_ : Value) (l0 : List Int) (r : List Int) (w0 w : World) (hB : Below w0.heap.size w0 w) (ho0 : Kd.R (Kd.int .i64) 3 w w0.heap.size P0_ u9000_ l0) (h : slices_Compact_int_int.f l0 = some r) :
  Calls Tryz.prog 86 #[u9000_] w fun e w' => ∃ v0_ : Value, e = .returned (v0_) ∧ Kd.R (Kd.int .i64) 3 w' w0.heap.size (fun k_ => (P0_ k_ ∨ w.heap.size ≤ k_)) v0_ r ∧ Below w0.heap.size w0 w' ∧ Kept w w' (fun k_ => P0_ k_) := by
 unfold slices_Compact_int_int.f at h
 by_cases hl : 0 < l0.length
 case neg => rw [if_neg hl] at h; cases h
 rw [if_pos hl] at h
 obtain rfl := Option.some.inj h
 obtain ⟨gb, cap, cur, rfl, hok, hbase, hh, hnc, hmax, hcs, hH⟩ := Go.Proofs.YtaambkdiokbdgabGreatR.row_open ho0 hl
 have hmx : cap ≤ 9223372036854775807 := Nat.le_trans hmax (by decide)
 have hc := calls_of_every_depth fun D => Go.Proofs.AnySG.slices_Compact_int_in Go.Proofs.YtaambkdiokbdgabGreatL.compI D gb 0 cap l0 w hH (by omega) hnc
 change Calls Tryz.prog 86 _ _ _ at hc
 refine hc.mono ?_
 rintro e w' ⟨rfl, n, rfl⟩
 have hle : (Go.Lib.compact l0).length ≤ l0.length := by
  unfold Go.Lib.compact Go.Lib.compactUpTo
  rw [List.length_map]
  exact Nat.le_trans (List.length_filter_le _ _) (by rw [List.length_range]; exact Nat.le_refl _)
 have hw := Go.Proofs.YtaambkdiokbdgabGreatR.row_wrote (zs := Go.Lib.compact l0 ++ List.replicate (l0.length - (Go.Lib.compact l0).length) 0) (Go.Lib.compact l0).length n #[] hB hok hbase hh hmax hcs (by rw [List.length_append, List.length_replicate]; omega) (by rw [List.length_append]; omega)
 rw [List.take_left] at hw
 have e1 : Go.Proofs.sortWorld (Value.int .i64) w gb 0 n (Go.Lib.compact l0 ++ List.replicate (l0.length - (Go.Lib.compact l0).length) 0).toArray #[] = Go.Sort.putRow (Value.int .i64) (Go.Sort.ahead w n) gb 0 (Go.Lib.compact l0 ++ List.replicate (l0.length - (Go.Lib.compact l0).length) 0).toArray := Go.Sort.grow_empty _
 rw [e1] at hw
 exact ⟨_, rfl, hw⟩
def impl_Committee_sums.l0 : Nat → List Int → Int → Int → Int → List Int → Option (List Int)
 | 0, _, _, _, _, _ => none
 | k + 1, x3, x9, x10, x102000, x102001 => if x10 < x9 then ((impl_Committee_weight.f k x102000 x102001 x10).bind fun t105 => (if x3.length < 17592186044416 then (impl_Committee_sums.l0 k (x3 ++ [t105]) x9 (wrap64 (x10 + 1)) x102000 x102001) else (none))) else ((slices_Sort_int_int.f x3).bind fun t109 => ((slices_Compact_int_int.f t109).bind fun t110 => (some t110)))
def impl_Committee_sums.f (k : Nat) (a0_0 : Int) (l0_1 : List Int) : Option (List Int) := impl_Committee_sums.l0 k (([] : List Int)) (shl .i64 1 (l0_1.length : Int)) 0 a0_0 l0_1
theorem impl_Committee_sums.calls (k : Nat) (a0_0 : Int) (A0_1 : Option Addr) (c0_1 : Nat) (l0_1 : List Int) (r : List Int) (w : World) (hr0_1 : Kd.C (Kd.int .i64) w A0_1 l0_1.length l0_1) (hc0_1 : l0_1.length ≤ c0_1) (h : impl_Committee_sums.f k a0_0 l0_1 = some r) :
  Calls Tryz.prog 59 #[.agg #[.int .i64 a0_0, .slice A0_1 l0_1.length c0_1]] w fun e w' => ∃ v0_ : Value, e = .returned (v0_) ∧ Kd.R (Kd.int .i64) 3 w' w.heap.size (fun _ => True) v0_ r ∧ Below w.heap.size w w' := by
 have hu24 := Tryz.underlying24
 have HR0_1 := Aside0.mk hr0_1
 have HC0_1 := Aside0.mk hc0_1
 clear hr0_1 hc0_1
 have HB := Aside0.mk (Below.refl w.heap.size w)
 have H := h
 unfold impl_Committee_sums.f at H
 clear h
 obtain ⟨y102, hy102⟩ : ∃ y_ : List Int, y_ = (([] : List Int)) := ⟨_, rfl⟩
 replace H : (impl_Committee_sums.l0 k y102 (shl .i64 1 (l0_1.length : Int)) 0 a0_0 l0_1) = some r := by first | (rw [hy102]; with_reducible exact H) | (have H2_ := (Option.bind_some _ _).symm.trans H; rw [hy102]; with_reducible exact H2_) | (have H2_ := (Option.bind_some _ _).symm.trans H; with_reducible exact H2_) | with_reducible exact H | (rw [hy102]; exact H) | exact H
 have Ny102 := Aside0.mk hy102
 clear hy102
 obtain ⟨ji2, hji2⟩ : ∃ j_ : Int, (shl .i64 1 (l0_1.length : Int)) = j_ := ⟨_, rfl⟩
 replace H : (impl_Committee_sums.l0 k y102 ji2 0 a0_0 l0_1) = some r := by first | (rw [hji2] at H; exact H) | (simp only [hji2] at H ⊢; exact H)
 have hji2_ : (IntKind.i64.wrap (1 * 2 ^ min (l0_1.length : Int).toNat 64)) = ji2 := hji2
 have hji2z : (l0_1.length : Int) ≤ 64 → (IntKind.i64.wrap (1 * 2 ^ (l0_1.length : Int).toNat)) = ji2 := shl_small hji2
 have hji2p : (IntKind.i64.wrap (1 * 2 ^ min l0_1.length 64)) = ji2 := hji2_
 have hji2q : (l0_1.length : Int) ≤ 64 → (IntKind.i64.wrap (1 * 2 ^ l0_1.length)) = ji2 := hji2z
 have hji2r : (IntKind.i64.wrap (2 ^ min l0_1.length 64)) = ji2 := by have h_ := hji2p; rw [Int.one_mul] at h_; exact h_
 have hji2s : (l0_1.length : Int) ≤ 64 → (IntKind.i64.wrap (2 ^ l0_1.length)) = ji2 := fun hle_ => by have h_ := hji2q hle_; rw [Int.one_mul] at h_; exact h_
 have hji2u : (IntKind.i64.wrap (2 ^ min (l0_1.length : Int).toNat 64)) = ji2 := by have h_ := hji2_; rw [Int.one_mul] at h_; exact h_
 have hji2v : (l0_1.length : Int) ≤ 64 → (IntKind.i64.wrap (2 ^ (l0_1.length : Int).toNat)) = ji2 := fun hle_ => by have h_ := hji2z hle_; rw [Int.one_mul] at h_; exact h_
 have hji2y : (wrap64 (1 * 2 ^ min (l0_1.length : Int).toNat 64)) = ji2 := (i64_w _).symm.trans hji2_
 have hji2x : (l0_1.length : Int) ≤ 64 → (wrap64 (1 * 2 ^ (l0_1.length : Int).toNat)) = ji2 := fun h_ => (i64_w _).symm.trans (hji2z h_)
 have H' := Aside0.mk H
 clear H
 go_enter Tryz.func59, Tryz.ntmps59
 go_wp2_with (first | ((with_reducible refine gate_dst (N := 1) rfl ?_); refine xE (N := 1) (cs := #[.int .i64 a0_0, .slice A0_1 l0_1.length c0_1]) (t := 24) ?_; intro gb101 hg w3 BK101 hb; have GW101 := gS hg HB; have GE101 := gS hg HB; replace HB := sB HB hb; clear hb hg) | ((with_reducible refine gate_dst (N := 5) rfl ?_); refine Kd.R_lit (Kd.int .i64) _ 3 ?hg (N := 5) ?hd (xs := ([] : List Int)) (inner := []) (ok := fun _ => True) (okp := fun _ => True) ?hr ?hp (fun _ hk => hk) trivial (Below.refl _ _) (Nat.le_refl _) (by simp) ?_; (case hd => rfl); (case hg => rfl); (case hr => first | (go_simp; done) | (go_simp; rfl)); (case hp => exact (Reps.none _ _)); intro v103 w4 ho5 hb hg_ hnew_; clear hg_ hnew_; (first | rw [← Ny102.out] at ho5 | (simp only [Int.reduceToNat] at ho5; rw [← Ny102.out] at ho5)); have HO104 := Aside0.mk (Kd.R_lower ho5 (below_size HB.out)); replace BK101 := bB BK101 hb; replace HB := sB HB hb; clear hb ho5; obtain ⟨hcz6_0, hcz6_1, hfz6_0, hfz6_1⟩ := zZ BK101))
 go_loopg [3, 10] k (fun kq v3 v10 w' => ∃ (x3_1 : List Int) (x10_1 : Int), v10 = .int .i64 x10_1 ∧ Aside0 (impl_Committee_sums.l0 kq x3_1 ji2 x10_1 a0_0 l0_1 = some r) ∧ Aside0 (kq ≤ k) ∧ Aside0 (Kd.R (Kd.int .i64) 3 w' w.heap.size (fun _ => True) v3 x3_1) ∧ Aside0 (w'.heap[gb101]? = some (.cells #[.int .i64 a0_0, (.slice A0_1 l0_1.length c0_1)] 24 (0, 0))) ∧ Aside0 (Below w.heap.size w w'))
 case atStart => exact ⟨(y102), (0), gR, H', ⟨Nat.le_refl _⟩, ⟨by exact HO104.out⟩, ⟨by exact BK101.out⟩, ⟨wB⟩⟩
 case round =>
  clear H'
  (try clear p2); (try clear c5); (try clear p6); (try clear hcz6_0); (try clear hcz6_1); (try clear hfz6_0); (try clear hfz6_1)
  obtain ⟨x3_1, x10_1, rfl, HA, HK1, HO_3, BK101, HB⟩ := hrel
  cases gk with
  | zero => exact absurd HA.out (by simp [impl_Committee_sums.l0])
  | succ k1 =>
   have H := HA.out
   clear HA
   simp only [impl_Committee_sums.l0] at H
   by_cases c7 : x10_1 < ji2
   rotate_left
   ·rw [if_neg c7] at H
    have c7b0 : decide (x10_1 < ji2) = false := decide_eq_false c7
    clear c7
    replace H := oA H
    obtain ⟨t109, A13, H⟩ := H
    (try dsimp only at H)
    replace H := oA H
    obtain ⟨t110, A14, H⟩ := H
    (try dsimp only at H)
    obtain rfl := Option.some.inj H
    obtain ⟨Ao15, co15, eo15⟩ := Kd.R_slice HO_3.out
    subst eo15
    go_wp2_with (first | ((with_reducible refine gate_callee (f := 85) rfl ?_); refine gL 21 Tryz.func85 #[.slice Ao15 x3_1.length co15] ?_; (with_reducible refine (slices_Sort_int_int.calls (fun k_ => some k_ = (.slice Ao15 x3_1.length co15 : Value).ownBlock) (.slice Ao15 x3_1.length co15) x3_1 t109 w _ ?side1 ?side2 A13.out).mono ?_); (case side1 => repeat (first | (with_reducible first | exact HB.out | apply ba | apply bd | apply be | refine bs ?_ GE101.out) | exact HB.out)); (case side2 => exact Kd.R_tight rfl HO_3.out); rintro e w16 ⟨rfl, hy0, hb, hkp⟩; refine ⟨_, rfl, ?_⟩; replace BK101 := Aside0.mk (blk_kept BK101.out hkp (fun hs_ => (fun e_ => (Kd.R_ne HO_3.out BK101.out (by decide)) e_) hs_)); replace HO_3 := Aside0.mk (Kd.R_reok rfl hy0 (fun k_ e_ => HO_3.out.1 k_ e_)); replace HB := Aside0.mk (hb); (try clear hb); (try clear hkp); (try clear hy0)) | ((with_reducible refine gate_callee (f := 86) rfl ?_); refine gL 23 Tryz.func86 #[.slice Ao15 x3_1.length co15] ?_; (with_reducible refine (slices_Compact_int_int.calls (fun k_ => some k_ = (.slice Ao15 x3_1.length co15 : Value).ownBlock) (.slice Ao15 x3_1.length co15) t109 t110 w _ ?side1 ?side2 A14.out).mono ?_); (case side1 => repeat (first | (with_reducible first | exact HB.out | apply ba | apply bd | apply be | refine bs ?_ GE101.out) | exact HB.out)); (case side2 => exact Kd.R_tight rfl HO_3.out); rintro e w17 ⟨v111, rfl, ho0, hb, hkp⟩; refine ⟨_, rfl, ?_⟩; have HO112 := Aside0.mk (Kd.R_mono (ok' := fun k_ => True) ho0 (fun k_ hk_ => trivial)); replace BK101 := Aside0.mk (blk_kept BK101.out hkp (fun hs_ => (fun e_ => (Kd.R_ne HO_3.out BK101.out (by decide)) e_) hs_)); replace HB := Aside0.mk (hb); (try clear hb); (try clear hkp); (try clear ho0)))
    go_ret
    exact ⟨_, by first | rfl | (simp <;> rfl) | (simp only [← hji2]; first | rfl | (simp <;> rfl)) | (simp [*] <;> rfl), by exact HO112.out, wB⟩
   rw [if_pos c7] at H
   have c7b0 := decide_eq_true c7
   clear c7
   replace H := oA H
   obtain ⟨t105, A8, H⟩ := H
   (try dsimp only at H)
   by_cases c9 : x3_1.length < 17592186044416
   rotate_left
   ·rw [if_neg c9] at H
    exact absurd H (by simp)
   rw [if_pos c9] at H
   have LMc9 := Aside0.mk c9
   clear c9
   obtain ⟨y106, hy106⟩ : ∃ y_ : List Int, y_ = (x3_1 ++ [t105]) := ⟨_, rfl⟩
   replace H : (impl_Committee_sums.l0 k1 y106 ji2 (wrap64 (x10_1 + 1)) a0_0 l0_1) = some r := by first | (rw [hy106]; with_reducible exact H) | (have H2_ := (Option.bind_some _ _).symm.trans H; rw [hy106]; with_reducible exact H2_) | (have H2_ := (Option.bind_some _ _).symm.trans H; with_reducible exact H2_) | with_reducible exact H | (rw [hy106]; exact H) | exact H
   have Ny106 := Aside0.mk hy106
   clear hy106
   have H' := Aside0.mk H
   clear H
   obtain ⟨hcz10_0, hcz10_1, hfz10_0, hfz10_1⟩ := zZ BK101
   go_wp2_with (first | ((with_reducible refine gate_callee (f := 51) rfl ?_); refine gL 16 Tryz.func51 #[.agg #[.int .i64 a0_0, .slice A0_1 l0_1.length c0_1], .int .i64 x10_1] ?_; (with_reducible refine (impl_Committee_weight.calls k1 a0_0 _ _ l0_1 x10_1 t105 _ (Kd.C_below HR0_1.out HB.out) HC0_1.out A8.out).mono ?_); rintro e w11 ⟨rfl, hb⟩; refine ⟨_, rfl, ?_⟩; replace HO_3 := rB HO_3 hb; replace BK101 := bB BK101 hb; replace HB := sB HB hb; (try clear hb)) | ((with_reducible refine gate_builtin (b := .append) (xs := #[.tmp 13, .tmp 17]) rfl ?_); at_builtin; refine Kd.R_append (Kd.int .i64) (w0 := w) w.heap.size rfl (.tmp 13) (.tmp 17) 22 3 (.int .i64 0) 8 rfl Tryz.underlying22 info3 rfl (by decide) (by omega) u3 x3_1 t105 [.int .i64 t105] (fun _ => True) (fun _ => False) rfl rfl ?aP (fun _ hk => hk.elim) ?aF ?aO ?aB ?aS ?aL ?_; (case aP => exact rfl); (case aB => exact HB.out); (case aF => exact (fun _ _ => trivial)); (case aO => exact HO_3.out); (case aS => exact (below_size HB.out)); (case aL => have := LMc9.out; omega); intro v107 w12 ho hb hg hat; rw [← Ny106.out] at ho; have HO108 := Aside0.mk (ho); replace BK101 := Aside0.mk (blk_grown (g := gb101) (o := .cells #[.int .i64 a0_0, .slice A0_1 l0_1.length c0_1] 24 (0, 0)) BK101.out hg (Kd.R_ne HO_3.out BK101.out (by decide))); replace HB := Aside0.mk (hb); clear ho hb hg hat))
   go_roundg k1
   case measure => have := HK1.out; omega
   case rel => exact ⟨(y106), (wrap64 (x10_1 + 1)), gR, H', ⟨by have := HK1.out; omega⟩, ⟨by exact HO108.out⟩, ⟨by exact BK101.out⟩, ⟨wB⟩⟩
def impl_QuotaRange.p (q n : Int) : Bool := decide (n ≥ q)
def impl_QuotaRange.g (q : Int) (s : List Int) : Option (Int × Int × Bool) :=
 if 0 ≤ wrap64 (idxOf (impl_QuotaRange.p q) s - 1) then (if wrap64 (idxOf (impl_QuotaRange.p q) s - 1) < (s.length : Int) then (if 0 ≤ idxOf (impl_QuotaRange.p q) s then (if idxOf (impl_QuotaRange.p q) s < (s.length : Int) then some (wrap64 (rd s (wrap64 (idxOf (impl_QuotaRange.p q) s - 1)) + 1), rd s (idxOf (impl_QuotaRange.p q) s), true) else none) else none) else none) else none
def impl_QuotaRange.f (k : Nat) (a0_0 : Int) (l0_1 : List Int) : Option (Int × Int × Bool) := (impl_IsCommittee.f k a0_0 l0_1).bind fun t => if t = true then (impl_Committee_sums.f k a0_0 l0_1).bind (impl_QuotaRange.g a0_0) else some (0, 0, false)
theorem impl_QuotaRange_1.clo (q n : Int) (B : Nat) (W : World) (h0 : W.cell? ⟨B, 0, none⟩ = some (.int .i64 q)) : Calls Tryz.prog 61 (#[.int .i64 n] ++ #[.pointer (some ⟨B, 0, none⟩)]) W fun e W' => e = .returned (.bool (impl_QuotaRange.p q n)) ∧ Below W.heap.size W W' := by
 have huC := Tryz.underlying24
 have HD := Aside0.mk (show W.drew.cell? ⟨B, 0, none⟩ = some (.int .i64 q) from h0)
 obtain ⟨b, hb⟩ : ∃ b, b = decide (n ≥ q) := ⟨_, rfl⟩
 have HBV := Aside0.mk hb
 show Calls Tryz.prog 61 #[.int .i64 n, .pointer (some ⟨B, 0, none⟩)] W fun e W' => e = .returned (.bool (decide (n ≥ q))) ∧ Below W.heap.size W W'
 clear hb
 go_enter Tryz.func61, Tryz.ntmps61
 have hD := HD.out
 go_wp2
 go_ret
 exact ⟨rfl, Below.refl _ _⟩
theorem impl_QuotaRange.calls (k : Nat) (a0_0 : Int) (A0_1 : Option Addr) (c0_1 : Nat) (l0_1 : List Int) (r1 : Int) (r2 : Int) (r3 : Bool) (w : World) (hr0_1 : Kd.C (Kd.int .i64) w A0_1 l0_1.length l0_1) (hc0_1 : l0_1.length ≤ c0_1) (h : impl_QuotaRange.f k a0_0 l0_1 = some (r1, r2, r3)) :
  Calls Tryz.prog 18 #[.agg #[.int .i64 a0_0, .slice A0_1 l0_1.length c0_1]] w fun e w' => e = .returned (.tuple #[.int .i64 r1, .int .i64 r2, .bool r3]) ∧ Below w.heap.size w w' := by
 have eg : ∀ args w, (callFunc 61 args).run Tryz.prog w = .ok (.enter 61 args) w := enters_of Tryz.func61 (by kernel_rfl) rfl
 have hmf : ∀ (fn : Fn) (first cap : Array Value) (w : World), (Instr.makeFunc fn first cap).run Tryz.prog w = .ok (.func fn first cap) w := fun _ _ _ _ => rfl
 have huC := Tryz.underlying24
 obtain ⟨t, ht, h2⟩ := oB h
 have HB1 := Aside0.mk (show Below w.heap.size w (w.alloc (.cells #[.int .i64 a0_0, .slice A0_1 l0_1.length c0_1] 24)) from (Below.refl _ _).alloc (Nat.le_refl _) _)
 have BK1 := Aside0.mk (blk_new w (.cells #[.int .i64 a0_0, .slice A0_1 l0_1.length c0_1] 24))
 have HR := Aside0.mk hr0_1
 have HC := Aside0.mk hc0_1
 have HT := Aside0.mk ht
 clear hr0_1 hc0_1 h ht
 cases t with
 | false =>
  rw [if_neg (by decide)] at h2
  simp only [Option.some.injEq, Prod.mk.injEq] at h2
  obtain ⟨rfl, rfl, rfl⟩ := h2
  go_enter Tryz.func18, Tryz.ntmps18
  go_wp2_with fail
  refine (impl_IsCommittee.calls k a0_0 A0_1 c0_1 l0_1 false _ (Kd.C_below HR.out HB1.out) HC.out HT.out).mono ?_
  rintro e w1 ⟨rfl, hb⟩
  have HB2 := Aside0.mk (HB1.out.trans (hb.mono HB1.out.size))
  clear hb
  go_wp2
  go_ret3
  exact ⟨rfl, HB2.out⟩
 | true =>
  rw [if_pos rfl] at h2
  obtain ⟨s, hs, h3⟩ := oB h2
  have HS := Aside0.mk hs
  clear h2 hs
  go_enter Tryz.func18, Tryz.ntmps18
  go_wp2_with fail
  refine (impl_IsCommittee.calls k a0_0 A0_1 c0_1 l0_1 true _ (Kd.C_below HR.out HB1.out) HC.out HT.out).mono ?_
  rintro e w1 ⟨rfl, hb⟩
  have BK2 := bB BK1 hb
  have HB2 := Aside0.mk (HB1.out.trans (hb.mono HB1.out.size))
  clear hb
  have hz0 : w1.cell? ⟨w.heap.size, 0, none⟩ = some (.int .i64 a0_0) := (blk_cell BK2.out 0).trans rfl
  have hz1 : w1.cell? ⟨w.heap.size, 1, none⟩ = some (.slice A0_1 l0_1.length c0_1) := (blk_cell BK2.out 1).trans rfl
  go_wp2_with fail
  refine (impl_Committee_sums.calls k a0_0 A0_1 c0_1 l0_1 s _ (Kd.C_below HR.out HB2.out) HC.out HS.out).mono ?_
  rintro e w2 ⟨v0, rfl, hO, hb⟩
  obtain ⟨A1, c1, rfl, hl1, hC1⟩ := Kd.R_reads hO
  have BK3 := bB BK2 hb
  have HB3 := Aside0.mk (HB2.out.trans (hb.mono HB2.out.size))
  have HC1 := Aside0.mk hC1
  clear hO hb hl1 hC1 hz0 hz1
  go_wp2_with fail
  refine (slices_IndexFunc_int.hof A1 c1 s 61 #[.pointer (some ⟨w.heap.size, 0, none⟩)] (impl_QuotaRange.p a0_0) _ HC1.out eg (fun W x _ hW => impl_QuotaRange_1.clo a0_0 x w.heap.size W ((hW.cell (World.block_lt_of_cell? _ _ ((blk_cell BK3.out 0).trans rfl))).trans ((blk_cell BK3.out 0).trans rfl)))).mono ?_
  rintro e w3 ⟨rfl, hb⟩
  have HB4 := Aside0.mk (HB3.out.trans (hb.mono HB3.out.size))
  have HC2 := Aside0.mk (Kd.C_below HC1.out hb)
  clear hb
  unfold impl_QuotaRange.g at h3
  generalize idxOf (impl_QuotaRange.p a0_0) s = i at *
  by_cases p1 : 0 ≤ wrap64 (i - 1)
  case neg => rw [if_neg p1] at h3; cases h3
  rw [if_pos p1] at h3
  by_cases q1 : wrap64 (i - 1) < (s.length : Int)
  case neg => rw [if_neg q1] at h3; cases h3
  rw [if_pos q1] at h3
  by_cases p2 : 0 ≤ i
  case neg => rw [if_neg p2] at h3; cases h3
  rw [if_pos p2] at h3
  by_cases q2 : i < (s.length : Int)
  case neg => rw [if_neg q2] at h3; cases h3
  rw [if_pos q2] at h3
  simp only [Option.some.injEq, Prod.mk.injEq] at h3
  obtain ⟨rfl, rfl, rfl⟩ := h3
  obtain ⟨ad, e1, hx1⟩ := Kd.at_int HC2.out _ p1 q1
  obtain ⟨ad2, e2, hx2⟩ := Kd.at_int HC2.out _ p2 q2
  rw [e1] at e2
  obtain rfl := Option.some.inj e2
  subst e1
  have HX1 := Aside0.mk (show w3.drew.cell? _ = _ from hx1)
  have HX2 := Aside0.mk (show w3.drew.cell? _ = _ from hx2)
  replace p1 := eq_true p1
  replace q1 := eq_true q1
  replace p2 := eq_true p2
  replace q2 := eq_true q2
  have hj0 : IntKind.i64.wrap (i - 1) = wrap64 (i - 1) := by simp only [i64_w]
  generalize hj : wrap64 (i - 1) = j at *
  generalize hv1 : rd s j = v1 at *
  generalize hv2 : rd s i = v2 at *
  have HV1 := Aside0.mk hv1
  have HV2 := Aside0.mk hv2
  clear hx1 hx2 hv1 hv2
  go_wp2
  go_region_held3 (fun w' => w'.cell? (ad.add j.toNat) = some (.int .i64 v1) ∧ w'.cell? (ad.add i.toNat) = some (.int .i64 v2)) (first | exact ⟨HX1.out, HX2.out⟩ | go_keep) (fail)
  go_wp2
  go_ret3
  exact ⟨by simp [i64_w, hj, HV1.out, HV2.out], below_drew1 HB4.out⟩
def impl_votes_countWins.l0 : Nat → Int → List Bool → Int → Int → Option (Int)
 | 0, _, _, _, _ => none
 | k + 1, x3, x7, x8, x9 => if x9 < x8 then (if 0 ≤ x9 then (if x9 < (x7.length : Int) then (if rdOf false x7 x9 = true then (impl_votes_countWins.l0 k (wrap64 (x3 + 1)) x7 x8 (wrap64 (x9 + 1))) else (impl_votes_countWins.l0 k x3 x7 x8 (wrap64 (x9 + 1)))) else (none)) else (none)) else (some x3)
def impl_votes_countWins.f (k : Nat) (a0_0 : Int) (l0_1 : List Bool) : Option (Int) := impl_votes_countWins.l0 k 0 l0_1 (l0_1.length : Int) 0
theorem impl_votes_countWins.calls (k : Nat) (a0_0 : Int) (A0_1 : Option Addr) (c0_1 : Nat) (l0_1 : List Bool) (r : Int) (w : World) (hr0_1 : Kd.C Kd.bool w A0_1 l0_1.length l0_1) (hc0_1 : l0_1.length ≤ c0_1) (h : impl_votes_countWins.f k a0_0 l0_1 = some r) :
  Calls Tryz.prog 62 #[.agg #[.int .i64 a0_0, .slice A0_1 l0_1.length c0_1]] w fun e w' => e = .returned (.int .i64 r) ∧ Below w.heap.size w w' := by
 have hu53 := Tryz.underlying53
 have HR0_1 := Aside0.mk hr0_1
 have HC0_1 := Aside0.mk hc0_1
 clear hr0_1 hc0_1
 have HB := Aside0.mk (Below.refl w.heap.size w)
 have H := h
 unfold impl_votes_countWins.f at H
 clear h
 have H' := Aside0.mk H
 clear H
 go_enter Tryz.func62, Tryz.ntmps62
 go_wp2_with (first | ((with_reducible refine gate_dst (N := 1) rfl ?_); refine xE (N := 1) (cs := #[.int .i64 a0_0, .slice A0_1 l0_1.length c0_1]) (t := 53) ?_; intro gb101 hg w2 BK101 hb; have GW101 := gS hg HB; have GE101 := gS hg HB; replace HB := sB HB hb; clear hb hg; obtain ⟨hcz3_0, hcz3_1, hfz3_0, hfz3_1⟩ := zZ BK101))
 go_loopg [3, 9] k (fun kq v3 v9 w' => ∃ (x3_1 : Int) (x9_1 : Int), v3 = .int .i64 x3_1 ∧ v9 = .int .i64 x9_1 ∧ Aside0 (impl_votes_countWins.l0 kq x3_1 l0_1 (l0_1.length : Int) x9_1 = some r) ∧ Aside0 (kq ≤ k) ∧ Aside0 (w'.heap[gb101]? = some (.cells #[.int .i64 a0_0, (.slice A0_1 l0_1.length c0_1)] 53 (0, 0))) ∧ Aside0 (Below w.heap.size w w'))
 case atStart => exact ⟨(0), (0), gR, gR, H', ⟨Nat.le_refl _⟩, ⟨by exact BK101.out⟩, ⟨wB⟩⟩
 case round =>
  clear H'
  (try clear p2); (try clear hcz3_0); (try clear hcz3_1); (try clear hfz3_0); (try clear hfz3_1)
  obtain ⟨x3_1, x9_1, rfl, rfl, HA, HK1, BK101, HB⟩ := hrel
  cases gk with
  | zero => exact absurd HA.out (by simp [impl_votes_countWins.l0])
  | succ k1 =>
   have H := HA.out
   clear HA
   simp only [impl_votes_countWins.l0] at H
   by_cases c4 : x9_1 < (l0_1.length : Int)
   rotate_left
   ·rw [if_neg c4] at H
    have c4b0 : decide (x9_1 < (l0_1.length : Int)) = false := decide_eq_false c4
    clear c4
    obtain rfl := Option.some.inj H
    go_wp2
    go_ret
    exact ⟨fR, wB⟩
   rw [if_pos c4] at H
   have c4b0 := decide_eq_true c4
   clear c4
   by_cases c5 : 0 ≤ x9_1
   rotate_left
   ·rw [if_neg c5] at H
    exact absurd H (by simp)
   rw [if_pos c5] at H
   have c5b0 := decide_eq_true c5
   clear c5
   by_cases c6 : x9_1 < (l0_1.length : Int)
   rotate_left
   ·rw [if_neg c6] at H
    exact absurd H (by simp)
   rw [if_pos c6] at H
   have c6b0 := decide_eq_true c6
   clear c6
   obtain ⟨bq7, hbq7⟩ : ∃ b_ : Bool, b_ = (rdOf false l0_1 x9_1) := ⟨_, rfl⟩
   replace H : (if bq7 = true then (impl_votes_countWins.l0 k1 (wrap64 (x3_1 + 1)) l0_1 (l0_1.length : Int) (wrap64 (x9_1 + 1))) else (impl_votes_countWins.l0 k1 x3_1 l0_1 (l0_1.length : Int) (wrap64 (x9_1 + 1)))) = some r := by rw [← hbq7] at H; exact H
   have Nbq7 := Aside0.mk hbq7
   clear hbq7
   by_cases c8 : bq7 = true
   ·subst c8
    replace H := iT H
    have H' := Aside0.mk H
    clear H
    have p102 : 0 ≤ (x9_1 : Int) := oD
    have q102 : x9_1 < (l0_1.length : Int) := oD
    obtain ⟨ad102, e102, hx102_0⟩ := Kd.at_bool HR0_1.out x9_1 p102 q102
    (try rw [← Nbq7.out] at hx102_0)
    cases e102
    replace hx102_0 := (HB.out.cell (World.block_lt_of_cell? w _ hx102_0)).trans hx102_0
    replace p102 := eq_true p102
    replace q102 := eq_true q102
    go_wp2
    go_roundg k1
    case measure => have := HK1.out; omega
    case rel => exact ⟨(wrap64 (x3_1 + 1)), (wrap64 (x9_1 + 1)), gR, gR, H', ⟨by have := HK1.out; omega⟩, ⟨by exact BK101.out⟩, ⟨wB⟩⟩
   replace c8 := Bool.eq_false_iff.mpr c8
   subst c8
   replace H := iF H
   have H' := Aside0.mk H
   clear H
   have p102 : 0 ≤ (x9_1 : Int) := oD
   have q102 : x9_1 < (l0_1.length : Int) := oD
   obtain ⟨ad102, e102, hx102_0⟩ := Kd.at_bool HR0_1.out x9_1 p102 q102
   (try rw [← Nbq7.out] at hx102_0)
   cases e102
   replace hx102_0 := (HB.out.cell (World.block_lt_of_cell? w _ hx102_0)).trans hx102_0
   replace p102 := eq_true p102
   replace q102 := eq_true q102
   go_wp2
   go_roundg k1
   case measure => have := HK1.out; omega
   case rel => exact ⟨(x3_1), (wrap64 (x9_1 + 1)), gR, gR, H', ⟨by have := HK1.out; omega⟩, ⟨by exact BK101.out⟩, ⟨wB⟩⟩
end Go.Proofs.YtaambkdiokbdgabGreat.Q
