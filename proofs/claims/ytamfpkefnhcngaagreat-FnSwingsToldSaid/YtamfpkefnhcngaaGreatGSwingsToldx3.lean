/- Printed functions, their contracts and plain facts on them: QImplSwingsBySize; QLawsZLess; QSpecVoList; QSpecVoBefore; QSpecVoSorted; QSpecPwMember; QSpecSwingSets; QSpecSwingsBySize; QLawsZRows; QSpecL1CurNext; QSpecL1C. Conditions: as each theorem states. -/
import Derived.Test.YtamfpkefnhcngaaGreatGSwingsToldx1
import Derived.Test.YtamfpkefnhcngaaGreatGSwingsToldx2
set_option maxHeartbeats 40000000
set_option maxRecDepth 100000
namespace Go.Proofs.YtamfpkefnhcngaaGreat.Q
open Go.RowKit Go.Proofs.YtamfpkefnhcngaaGreatX Go.Proofs.YtamfpkefnhcngaaGreatY Go.Proofs.YtamfpkefnhcngaaGreatW.PrintWords Go.Proofs.YtamfpkefnhcngaaGreatW.PrintLast Go.Proofs.YtamfpkefnhcngaaGreatW.PrintMore
attribute [local go_sem] max2_int min2_int max_two min_two max_three min_three max_four min_four   -- for this text's walks alone
set_option linter.unusedVariables false
set_option linter.unusedSimpArgs false
def impl_SwingsBySize.l0 : Nat → Int → List Int → Int → Int → Int → List Bool → Option (List Int × Bool)
 | 0, _, _, _, _, _, _ => none
 | k + 1, x1, x7, x20, x21, x108000, x108001 => if x21 < x20 then ((impl_votes_isSwing.f x108000 x108001 x21 x1).bind fun t111 => (if t111 = true then ((impl_count.f x21).bind fun t112 => (if 0 ≤ t112 then (if t112 < (x7.length : Int) then (impl_SwingsBySize.l0 k x1 (x7.set (t112 : Int).toNat (wrap64 ((rd x7 t112) + 1))) x20 (wrap64 (x21 + 1)) x108000 x108001) else (none)) else (none))) else (impl_SwingsBySize.l0 k x1 x7 x20 (wrap64 (x21 + 1)) x108000 x108001))) else (some (x7, true))
def impl_SwingsBySize.f (k : Nat) (a0_0 : Int) (l0_1 : List Int) (a1 : Int) : Option (List Int × Bool) := (impl_isMember.f k a0_0 l0_1 a1).bind fun t102 => (if t102 = true then ((impl_Committee_votes.f k a0_0 l0_1).bind fun bt103 => (if 0 ≤ bt103.1 then (if (bt103.1 : Int).toNat ≤ 35184372088832 then (impl_SwingsBySize.l0 k a1 (List.replicate (bt103.1 : Int).toNat 0) (bt103.2.length : Int) 0 bt103.1 bt103.2) else (none)) else (none))) else (some (([] : List Int), false)))
theorem impl_SwingsBySize.calls (k : Nat) (a0_0 : Int) (A0_1 : Option Addr) (c0_1 : Nat) (l0_1 : List Int) (a1 : Int) (r1 : List Int) (r2 : Bool) (w : World) (hr0_1 : Kd.C (Kd.int .i64) w A0_1 l0_1.length l0_1) (hc0_1 : l0_1.length ≤ c0_1) (h : impl_SwingsBySize.f k a0_0 l0_1 a1 = some (r1, r2)) :
  Calls Tryz.prog 76 #[.agg #[.int .i64 a0_0, .slice A0_1 l0_1.length c0_1], .int .i64 a1] w fun e w' => ∃ v0_ : Value, e = .returned (.tuple #[v0_, .bool r2]) ∧ Kd.R (Kd.int .i64) 3 w' w.heap.size (fun _ => True) v0_ r1 ∧ Below w.heap.size w w' := by
 have hu26 := Tryz.underlying26
 have hu87 := Tryz.underlying87
 have HR0_1 := Aside0.mk hr0_1
 have HC0_1 := Aside0.mk hc0_1
 clear hr0_1 hc0_1
 have HB := Aside0.mk (Below.refl w.heap.size w)
 have H := h
 unfold impl_SwingsBySize.f at H
 clear h
 replace H := oB H
 obtain ⟨t102, A30, H⟩ := H
 replace H : (if t102 = true then ((impl_Committee_votes.f k a0_0 l0_1).bind fun bt103 => (if 0 ≤ bt103.1 then (if (bt103.1 : Int).toNat ≤ 35184372088832 then (impl_SwingsBySize.l0 k a1 (List.replicate (bt103.1 : Int).toNat 0) (bt103.2.length : Int) 0 bt103.1 bt103.2) else (none)) else (none))) else (some (([] : List Int), false))) = some (r1, r2) := H
 have A3 := Aside0.mk A30
 clear A30
 by_cases c4 : t102 = true
 rotate_left
 ·replace c4 := Bool.eq_false_iff.mpr c4
  subst c4
  replace H := iF H
  simp only [Option.some.injEq, Prod.mk.injEq] at H
  obtain ⟨rfl, rfl⟩ := H
  go_enter Tryz.func76, Tryz.ntmps76
  go_wp2_with (first | ((with_reducible refine gate_dst (N := 2) rfl ?_); refine box_event ?hg (N := 2) ?hd (cs := #[.int .i64 a0_0, .slice A0_1 l0_1.length c0_1]) (t := 26) ?hr ?_; (case hd => rfl); (case hg => rfl); (case hr => first | (go_simp; done) | (go_simp; rfl)); intro gb101 hg w36 hbox hb; have n0_ := sQ hb; have n1_ := Aside0.mk (hbox); have n2_ := Aside0.mk ((by rw [hg]; exact (below_size (wB)) : w.heap.size ≤ gb101)); have n3_ := Aside0.mk ((by rw [hg]; exact (below_size (wB)) : w.heap.size ≤ gb101)); clear HB; have HB := n0_; have BK101 := n1_; have GW101 := n2_; have GE101 := n3_; clear n0_ n1_ n2_ n3_; clear hb hbox hg; obtain ⟨hcz37_0, hcz37_1, hfz37_0, hfz37_1⟩ := zZ BK101) | ((with_reducible refine gate_callee (f := 165) rfl ?_); refine gL 11 Tryz.func165 #[.agg #[.int .i64 a0_0, .slice A0_1 l0_1.length c0_1], .int .i64 a1] ?_; (with_reducible refine (impl_isMember.calls k a0_0 _ _ l0_1 a1 false _ ?side1 ?side2 A3.out).mono ?_); (case side1 => have hx_ := (Kd.C_below HR0_1.out HB.out); exact cC); (case side2 => exact HC0_1.out); rintro e w38 ⟨rfl, hb⟩; refine ⟨_, rfl, ?_⟩; have n0_ := bP BK101 hb; have n1_ := sQ hb; clear BK101; clear HB; have BK101 := n0_; have HB := n1_; clear n0_ n1_; (try clear hb); (try clear hb2); (try clear hk); (try clear hi)))
  go_ret2
  exact ⟨_, fR, by first | exact Kd.R_nil _ _ _ _ _ | exact Kd.N_nil _ _ _ _ _ | exact Kd.V_nil _ _ _ _ _ | exact Kd.Q_nil _ _ _ _ _ | exact Kd.S_nil _ _ _ _ _, wB⟩
 subst c4
 replace H := iT H
 replace H := oB H
 obtain ⟨⟨t103, t104⟩, A50, H⟩ := H
 replace H : (if 0 ≤ t103 then (if (t103 : Int).toNat ≤ 35184372088832 then (impl_SwingsBySize.l0 k a1 (List.replicate (t103 : Int).toNat 0) (t104.length : Int) 0 t103 t104) else (none)) else (none)) = some (r1, r2) := H
 have A5 := Aside0.mk A50
 clear A50
 by_cases c6 : 0 ≤ t103
 rotate_left
 ·rw [if_neg c6] at H
  exact absurd H (by simp)
 rw [if_pos c6] at H
 have c6b0 := eq_true c6
 have c6b1 := decide_eq_true c6
 clear c6
 by_cases c7 : (t103 : Int).toNat ≤ 35184372088832
 rotate_left
 ·rw [if_neg c7] at H
  exact absurd H (by simp)
 rw [if_pos c7] at H
 have c7b0 := eq_true c7
 have c7b1 := decide_eq_true c7
 clear c7
 obtain ⟨y108, hy108⟩ : ∃ y_ : List Int, y_ = (List.replicate (t103 : Int).toNat 0) := ⟨_, rfl⟩
 replace H : (impl_SwingsBySize.l0 k a1 y108 (t104.length : Int) 0 t103 t104) = some (r1, r2) := by first | (rw [hy108]; with_reducible exact H) | (have H2_ := (Option.bind_some _ _).symm.trans H; rw [hy108]; with_reducible exact H2_) | (have H2_ := (Option.bind_some _ _).symm.trans H; with_reducible exact H2_) | with_reducible exact H | (rw [hy108]; exact H) | exact H
 have Ny108 := Aside0.mk hy108
 clear hy108
 have H' := Aside0.mk H
 clear H
 go_enter Tryz.func76, Tryz.ntmps76
 go_wp2_with (first | ((with_reducible refine gate_dst (N := 2) rfl ?_); refine box_event ?hg (N := 2) ?hd (cs := #[.int .i64 a0_0, .slice A0_1 l0_1.length c0_1]) (t := 26) ?hr ?_; (case hd => rfl); (case hg => rfl); (case hr => first | (go_simp; done) | (go_simp; rfl)); intro gb101 hg w8 hbox hb; have n0_ := sQ hb; have n1_ := Aside0.mk (hbox); have n2_ := Aside0.mk ((by rw [hg]; exact (below_size (wB)) : w.heap.size ≤ gb101)); have n3_ := Aside0.mk ((by rw [hg]; exact (below_size (wB)) : w.heap.size ≤ gb101)); clear HB; have HB := n0_; have BK101 := n1_; have GW101 := n2_; have GE101 := n3_; clear n0_ n1_ n2_ n3_; clear hb hbox hg; obtain ⟨hcz9_0, hcz9_1, hfz9_0, hfz9_1⟩ := zZ BK101) | ((with_reducible refine gate_callee (f := 165) rfl ?_); refine gL 11 Tryz.func165 #[.agg #[.int .i64 a0_0, .slice A0_1 l0_1.length c0_1], .int .i64 a1] ?_; (with_reducible refine (impl_isMember.calls k a0_0 _ _ l0_1 a1 true _ ?side1 ?side2 A3.out).mono ?_); (case side1 => have hx_ := (Kd.C_below HR0_1.out HB.out); exact cC); (case side2 => exact HC0_1.out); rintro e w10 ⟨rfl, hb⟩; refine ⟨_, rfl, ?_⟩; have n0_ := bP BK101 hb; have n1_ := sQ hb; clear BK101; clear HB; have BK101 := n0_; have HB := n1_; clear n0_ n1_; (try clear hb); (try clear hb2); (try clear hk); (try clear hi); obtain ⟨hcz11_0, hcz11_1, hfz11_0, hfz11_1⟩ := zZ BK101) | ((with_reducible refine gate_callee (f := 135) rfl ?_); refine gL 14 Tryz.func135 #[.agg #[.int .i64 a0_0, .slice A0_1 l0_1.length c0_1]] ?_; (with_reducible refine (impl_Committee_votes.calls k a0_0 _ _ l0_1 t103 t104 _ ?side1 ?side2 A5.out).mono ?_); (case side1 => have hx_ := (Kd.C_below HR0_1.out HB.out); exact cC); (case side2 => exact HC0_1.out); rintro e w12 ⟨v105, rfl, ho0, hb⟩; refine ⟨_, rfl, ?_⟩; have n0_ := Aside0.mk (Kd.R_lower ho0 (below_size (wB))); have n1_ := bP BK101 hb; have n2_ := sQ hb; clear BK101; clear HB; have HO106 := n0_; have BK101 := n1_; have HB := n2_; clear n0_ n1_ n2_; (try clear hb); (try clear hb2); (try clear hk); (try clear hi); (try clear ho0)) | ((with_reducible refine gate_dst (N := 6) rfl ?_); refine box_event ?hg (N := 6) ?hd (cs := #[.int .i64 0, .slice none 0 0]) (t := 87) ?hr ?_; (case hd => rfl); (case hg => rfl); (case hr => first | (go_simp; done) | (go_simp; rfl)); intro gb107 hg w13 hbox hb; have n0_ := rP HO106 hb; have n1_ := bP BK101 hb; have n2_ := sQ hb; have n3_ := Aside0.mk (hbox); have n4_ := Aside0.mk ((by rw [hg]; exact (below_size (wB)) : w.heap.size ≤ gb107)); have n5_ := Aside0.mk ((by rw [hg]; exact (below_size (wB)) : w.heap.size ≤ gb107)); have n6_ := Aside0.mk ((by rw [hg]; exact Nat.ne_of_lt (blk_lt (g := gb101) (o := .cells #[.int .i64 a0_0, .slice A0_1 l0_1.length c0_1] 26 (0, 0)) (bQ BK101)) : gb101 ≠ gb107)); have n7_ := Aside0.mk ((by rw [hg]; exact Nat.ne_of_gt (blk_lt (g := gb101) (o := .cells #[.int .i64 a0_0, .slice A0_1 l0_1.length c0_1] 26 (0, 0)) (bQ BK101)) : gb107 ≠ gb101)); clear HO106; clear BK101; clear HB; have HO106 := n0_; have BK101 := n1_; have HB := n2_; have BK107 := n3_; have GW107 := n4_; have GE107 := n5_; have NB101_107 := n6_; have NB107_101 := n7_; clear n0_ n1_ n2_ n3_ n4_ n5_ n6_ n7_; clear hb hbox hg; have hnb14 := NB107_101.out; have hnc14 := NB101_107.out; obtain ⟨hcz15_0, hcz15_1, hfz15_0, hfz15_1⟩ := zZ BK107; obtain ⟨Ao16, co16, eo16⟩ := Kd.R_slice HO106.out; subst eo16) | ((with_reducible refine gate_dst (N := 17) rfl ?_); refine Kd.R_make (Kd.int .i64) _ 3 rfl (N := 17) rfl 24 _ _ rfl t103 rfl rfl Tryz.underlying24 (.int .i64 0) 8 info3 rfl (by decide) (by omega) 0 (ok := fun _ => True) (okp := fun _ => True) rfl (fun _ hk => hk) trivial (oD) (Nat.le_trans (Nat.mul_le_mul_right _ (oD : t103.toNat ≤ 35184372088832)) (by omega)) (Below.refl _ _) (Nat.le_refl _) ?_; intro v109 w17 ho18 hb hg_ hnew_; clear hg_ hnew_; (first | rw [← Ny108.out] at ho18 | (simp only [Int.reduceToNat] at ho18; rw [← Ny108.out] at ho18)); have n0_ := Aside0.mk (Kd.R_below (by (try refine rp ?_); exact (Kd.R_mono (Kd.R_far (p := ⟨gb107, 1, none⟩) (Kd.R_far (p := ⟨gb107, 0, none⟩) (Kd.R_types HO106.out BK107.out (by decide)) (fun _ hk => hk.2) (.int .i64 t103)) (fun _ hk => hk.2) (.slice Ao16 t104.length co16)) (fun _ h_ => h_.1))) hb); have n1_ := Aside0.mk (Kd.R_lower ho18 (below_size (wB))); have n2_ := Aside0.mk (blk_below (g := gb101) (o := .cells #[.int .i64 a0_0, .slice A0_1 l0_1.length c0_1] 26 (0, 0)) (by (try refine bp ?_); refine blk_far ?_ NB101_107.out _; (try refine bp ?_); refine blk_far ?_ NB101_107.out _; (first | exact bp BK101.out | exact BK101.out)) hb); have n3_ := Aside0.mk (blk_below (g := gb107) (o := .cells #[.int .i64 t103, .slice Ao16 t104.length co16] 87 (0, 0)) (by (try refine bp ?_); refine blk_put (cs := #[.int .i64 t103, .slice none 0 0]) ?_ 1 _ rfl; (try refine bp ?_); refine blk_put (cs := #[.int .i64 0, .slice none 0 0]) ?_ 0 _ rfl; (first | exact bp BK107.out | exact BK107.out)) hb); have n4_ := sQ hb; clear HO106; clear BK101; clear BK107; clear HB; have HO106 := n0_; have HO110 := n1_; have BK101 := n2_; have BK107 := n3_; have HB := n4_; clear n0_ n1_ n2_ n3_ n4_; clear hb ho18; obtain ⟨hcz19_0, hcz19_1, hfz19_0, hfz19_1⟩ := zZ BK107))
 go_loopg [21] k (fun kq v21 w' => ∃ (x7_1 : List Int) (x21_1 : Int), v21 = .int .i64 x21_1 ∧ Aside0 (impl_SwingsBySize.l0 kq a1 x7_1 (t104.length : Int) x21_1 t103 t104 = some (r1, r2)) ∧ Aside0 (kq ≤ k) ∧ Aside0 (Kd.R (Kd.int .i64) 3 w' w.heap.size (fun _ => True) v109 x7_1) ∧ Aside0 (Kd.R Kd.bool 4 w' w.heap.size (fun _ => True) (.slice Ao16 t104.length co16) t104) ∧ Aside0 (w'.heap[gb101]? = some (.cells #[.int .i64 a0_0, (.slice A0_1 l0_1.length c0_1)] 26 (0, 0))) ∧ Aside0 (w'.heap[gb107]? = some (.cells #[.int .i64 t103, (.slice Ao16 t104.length co16)] 87 (0, 0))) ∧ Aside0 (Below w.heap.size w w'))
 case atStart => exact ⟨(y108), (0), gR, H', ⟨Nat.le_refl _⟩, ⟨rQ HO110⟩, ⟨rQ HO106⟩, ⟨bQ BK101⟩, ⟨bQ BK107⟩, ⟨wB⟩⟩
 case round =>
  clear H'
  try clear c1
  try clear p2
  try clear c4
  try clear c6
  try clear c6b0
  try clear c6b1
  try clear c7
  try clear c7b0
  try clear c7b1
  try clear c13
  try clear c14
  try clear c16
  try clear hcz11_0
  try clear hcz11_1
  try clear hcz15_0
  try clear hcz15_1
  try clear hcz19_0
  try clear hcz19_1
  try clear hcz9_0
  try clear hcz9_1
  try clear hfz11_0
  try clear hfz11_1
  try clear hfz15_0
  try clear hfz15_1
  try clear hfz19_0
  try clear hfz19_1
  try clear hfz9_0
  try clear hfz9_1
  obtain ⟨x7_1, x21_1, rfl, HA, HK1, HO_7, HO_108001, BK101, BK107, HB⟩ := hrel
  cases gk with
  | zero => exact absurd HA.out (by simp [impl_SwingsBySize.l0])
  | succ k1 =>
   have H := HA.out
   clear HA
   simp only [impl_SwingsBySize.l0] at H
   by_cases c20 : x21_1 < (t104.length : Int)
   rotate_left
   ·rw [if_neg c20] at H
    have c20b0 : decide (x21_1 < (t104.length : Int)) = false := decide_eq_false c20
    clear c20
    simp only [Option.some.injEq, Prod.mk.injEq] at H
    obtain ⟨rfl, rfl⟩ := H
    go_wp2
    go_ret2
    exact ⟨_, fR, by (first | exact rp HO_7.out | exact HO_7.out), wB⟩
   rw [if_pos c20] at H
   have c20b0 := decide_eq_true c20
   clear c20
   replace H := oB H
   obtain ⟨t111, A210, H⟩ := H
   replace H : (if t111 = true then ((impl_count.f x21_1).bind fun t112 => (if 0 ≤ t112 then (if t112 < (x7_1.length : Int) then (impl_SwingsBySize.l0 k1 a1 (x7_1.set (t112 : Int).toNat (wrap64 ((rd x7_1 t112) + 1))) (t104.length : Int) (wrap64 (x21_1 + 1)) t103 t104) else (none)) else (none))) else (impl_SwingsBySize.l0 k1 a1 x7_1 (t104.length : Int) (wrap64 (x21_1 + 1)) t103 t104)) = some (r1, r2) := H
   have A21 := Aside0.mk A210
   clear A210
   by_cases c22 : t111 = true
   rotate_left
   ·replace c22 := Bool.eq_false_iff.mpr c22
    subst c22
    replace H := iF H
    have H' := Aside0.mk H
    clear H
    have hnb33 := NB107_101.out
    have hnc33 := NB101_107.out
    obtain ⟨hcz34_0, hcz34_1, hfz34_0, hfz34_1⟩ := zZ BK107
    go_wp2_with (first | ((with_reducible refine gate_callee (f := 167) rfl ?_); refine gL 27 Tryz.func167 #[.agg #[.int .i64 t103, .slice Ao16 t104.length co16], .int .i64 x21_1, .int .i64 a1] ?_; (with_reducible refine (impl_votes_isSwing.calls t103 _ _ t104 x21_1 a1 false _ ?side1 ?side2 A21.out).mono ?_); (case side1 => have hx_ := (Kd.R_reads' HO_108001.out).2.2; exact cC); (case side2 => exact (Kd.R_reads' HO_108001.out).2.1); rintro e w35 ⟨rfl, hb⟩; refine ⟨_, rfl, ?_⟩; have n0_ := rP HO_7 hb; have n1_ := rP HO_108001 hb; have n2_ := bP BK101 hb; have n3_ := bP BK107 hb; have n4_ := sQ hb; clear HO_7; clear HO_108001; clear BK101; clear BK107; clear HB; have HO_7 := n0_; have HO_108001 := n1_; have BK101 := n2_; have BK107 := n3_; have HB := n4_; clear n0_ n1_ n2_ n3_ n4_; (try clear hb); (try clear hb2); (try clear hk); (try clear hi)))
    go_roundg k1
    case measure => have := HK1.out; omega
    case rel => exact ⟨(x7_1), (wrap64 (x21_1 + 1)), gR, H', ⟨by have := HK1.out; omega⟩, ⟨rQ HO_7⟩, ⟨rQ HO_108001⟩, ⟨bQ BK101⟩, ⟨bQ BK107⟩, ⟨wB⟩⟩
   subst c22
   replace H := iT H
   replace H := oB H
   obtain ⟨t112, A230, H⟩ := H
   replace H : (if 0 ≤ t112 then (if t112 < (x7_1.length : Int) then (impl_SwingsBySize.l0 k1 a1 (x7_1.set (t112 : Int).toNat (wrap64 ((rd x7_1 t112) + 1))) (t104.length : Int) (wrap64 (x21_1 + 1)) t103 t104) else (none)) else (none)) = some (r1, r2) := H
   have A23 := Aside0.mk A230
   clear A230
   by_cases c24 : 0 ≤ t112
   rotate_left
   ·rw [if_neg c24] at H
    exact absurd H (by simp)
   rw [if_pos c24] at H
   have c24b0 := decide_eq_true c24
   clear c24
   by_cases c25 : t112 < (x7_1.length : Int)
   rotate_left
   ·rw [if_neg c25] at H
    exact absurd H (by simp)
   rw [if_pos c25] at H
   have c25b0 := decide_eq_true c25
   clear c25
   obtain ⟨y114, hy114⟩ : ∃ y_ : List Int, y_ = (x7_1.set (t112 : Int).toNat (wrap64 ((rd x7_1 t112) + 1))) := ⟨_, rfl⟩
   replace H : (impl_SwingsBySize.l0 k1 a1 y114 (t104.length : Int) (wrap64 (x21_1 + 1)) t103 t104) = some (r1, r2) := by first | (rw [hy114]; with_reducible exact H) | (have H2_ := (Option.bind_some _ _).symm.trans H; rw [hy114]; with_reducible exact H2_) | (have H2_ := (Option.bind_some _ _).symm.trans H; with_reducible exact H2_) | with_reducible exact H | (rw [hy114]; exact H) | exact H
   have Ny114 := Aside0.mk hy114
   clear hy114
   have H' := Aside0.mk H
   clear H
   have hnb27 := NB107_101.out
   have hnc27 := NB101_107.out
   obtain ⟨hcz28_0, hcz28_1, hfz28_0, hfz28_1⟩ := zZ BK107
   go_wp2_with (first | ((with_reducible refine gate_callee (f := 167) rfl ?_); refine gL 27 Tryz.func167 #[.agg #[.int .i64 t103, .slice Ao16 t104.length co16], .int .i64 x21_1, .int .i64 a1] ?_; (with_reducible refine (impl_votes_isSwing.calls t103 _ _ t104 x21_1 a1 true _ ?side1 ?side2 A21.out).mono ?_); (case side1 => have hx_ := (Kd.R_reads' HO_108001.out).2.2; exact cC); (case side2 => exact (Kd.R_reads' HO_108001.out).2.1); rintro e w29 ⟨rfl, hb⟩; refine ⟨_, rfl, ?_⟩; have n0_ := rP HO_7 hb; have n1_ := rP HO_108001 hb; have n2_ := bP BK101 hb; have n3_ := bP BK107 hb; have n4_ := sQ hb; clear HO_7; clear HO_108001; clear BK101; clear BK107; clear HB; have HO_7 := n0_; have HO_108001 := n1_; have BK101 := n2_; have BK107 := n3_; have HB := n4_; clear n0_ n1_ n2_ n3_ n4_; (try clear hb); (try clear hb2); (try clear hk); (try clear hi)) | ((with_reducible refine gate_callee (f := 154) rfl ?_); refine gL 30 Tryz.func154 #[.int .i64 x21_1] ?_; (with_reducible refine (impl_count.calls x21_1 t112 _ A23.out).mono ?_); rintro e w' ⟨rfl, ⟨nd, rfl⟩⟩; refine ⟨_, rfl, ?_⟩; (try (rw [drewN_self w29]; generalize hq_ : World.drewN w29 _ = w29; have n0_ : Aside0 (Kd.R Kd.bool 4 w29 w.heap.size (fun _ => True) (.slice Ao16 t104.length co16) t104) := ⟨by rw [← hq_]; exact (rQ HO_108001)⟩; have n1_ : Aside0 (Kd.R (Kd.int .i64) 3 w29 w.heap.size (fun _ => True) v109 x7_1) := ⟨by rw [← hq_]; exact (rQ HO_7)⟩; have n2_ : Aside0 (w29.heap[gb101]? = some (.cells #[.int .i64 a0_0, .slice A0_1 l0_1.length c0_1] 26 (0, 0))) := ⟨by rw [← hq_]; exact (bQ BK101)⟩; have n3_ : Aside0 (w29.heap[gb107]? = some (.cells #[.int .i64 t103, .slice Ao16 t104.length co16] 87 (0, 0))) := ⟨by rw [← hq_]; exact (bQ BK107)⟩; have n4_ : Aside0 (Below w.heap.size w w29) := ⟨by rw [← hq_]; exact (wB)⟩; clear HO_108001 HO_7 BK101 BK107 HB hq_; have HO_108001 := n0_; have HO_7 := n1_; have BK101 := n2_; have BK107 := n3_; have HB := n4_; clear n0_ n1_ n2_ n3_ n4_)); obtain ⟨Ao30, co30, eo30⟩ := Kd.R_slice HO_7.out; subst eo30; have p113 : 0 ≤ (t112 : Int) := oD; have q113 : t112 < (x7_1.length : Int) := oD; obtain ⟨ad113, e113, hx113_0⟩ := Kd.at_int (Kd.R_reads' HO_7.out).2.2 t112 p113 q113; cases e113; replace p113 := eq_true p113; replace q113 := eq_true q113; have p26 : 0 ≤ (t112 : Int) := oD; have q26 : (t112 : Int) < ((x7_1.length : Int) : Int) := oD; obtain ⟨go26, co26, eo26, gb26, gl26, cl26, HG26⟩ := Kd.R_form HO_7.out (by omega); (first | cases eo26 | (injection eo26 with ea_ en_ ec_; (first | subst ea_ | (injection ea_ with ea_; subst ea_)); subst ec_; clear en_)); have GB26 := Aside0.mk gb26; have GG26 := Aside0.mk HG26; clear gb26 gl26 HG26; (first | simp only [add_plain] at hx113_0 | skip); obtain ⟨hx26_0, hf26_0⟩ := Kd.R_celln 0 HO_7.out (t112 : Int) p26 q26; replace p26 := eq_true p26; replace q26 := eq_true q26; obtain ⟨hy31_, hz31_⟩ := Kd.R_celln 0 HO_7.out (t112 : Int) (oD) (oD); have HP31 := Kd.R_putg HO_7.out (t112 : Int) (wrap64 ((rd x7_1 t112) + 1))) | ((with_reducible refine gate_store (t := 3) (p := 34) rfl ?_); refine sE (t := 3) (p := 34) (w1 := (w29.setCell ⟨go26, (t112 : Int).toNat, none⟩ (.int .i64 (wrap64 ((rd x7_1 t112) + 1))))) ?_; intro w32 hw; have hg : w29.grownBy w32 (some go26) := (by rw [hw]; exact HP31.2); have hp_ : Kd.R (Kd.int .i64) 3 w32 w.heap.size (fun _ => True) (.slice (some ⟨go26, 0, none⟩) x7_1.length co30) y114 := (by rw [hw, Ny114.out]; exact HP31.1); clear HP31; have n0_ := Aside0.mk (hp_); have n1_ := Aside0.mk (Kd.R_over' (v := (.slice (some ⟨go26, 0, none⟩) x7_1.length co30)) (rQ HO_108001) (Kd.R_typed HO_7.out) (by decide) hg); have n2_ := Aside0.mk (blk_grown (g := gb101) (o := .cells #[.int .i64 a0_0, .slice A0_1 l0_1.length c0_1] 26 (0, 0)) (bQ BK101) hg (Kd.R_ne HO_7.out BK101.out (by decide))); have n3_ := Aside0.mk (blk_grown (g := gb107) (o := .cells #[.int .i64 t103, .slice Ao16 t104.length co16] 87 (0, 0)) (bQ BK107) hg (Kd.R_ne HO_7.out BK107.out (by decide))); have n4_ := Aside0.mk ((by rw [hw]; exact below_set (HB.out) GB26.out : Below w.heap.size w w32)); clear HO_7; clear HO_108001; clear BK101; clear BK107; clear HB; have HO_7 := n0_; have HO_108001 := n1_; have BK101 := n2_; have BK107 := n3_; have HB := n4_; clear n0_ n1_ n2_ n3_ n4_; clear hg hw hp_))
   go_roundg k1
   case measure => have := HK1.out; omega
   case rel => exact ⟨(y114), (wrap64 (x21_1 + 1)), gR, H', ⟨by have := HK1.out; omega⟩, ⟨rQ HO_7⟩, ⟨rQ HO_108001⟩, ⟨bQ BK101⟩, ⟨bQ BK107⟩, ⟨wB⟩⟩
end Go.Proofs.YtamfpkefnhcngaaGreat.Q
namespace Go.Proofs.YtamfpkefnhcngaaGreat.Q
open Go.RowKit Go.Proofs.YtamfpkefnhcngaaGreatX Go.Proofs.YtamfpkefnhcngaaGreatY Go.Proofs.YtamfpkefnhcngaaGreatX Go.Proofs.YtamfpkefnhcngaaGreatW.PrintWords Go.Proofs.YtamfpkefnhcngaaGreatW.PrintLast Go.Proofs.YtamfpkefnhcngaaGreatW.PrintMore
attribute [local go_sem] max2_int min2_int max_two min_two max_three min_three max_four min_four   -- for this text's walks alone
set_option linter.unusedVariables false
set_option linter.unusedSimpArgs false
mutual
def laws_zLess.l0 : Nat → List Int → List Int → Int → Option (Bool)
 | 0, _, _, _ => none
 | k + 1, x0, x1, x5 => if x5 < (x0.length : Int) then (laws_zLess.j1 k x0 x1 x5 (decide (x5 < (x1.length : Int)))) else (laws_zLess.j1 k x0 x1 x5 false)
def laws_zLess.j1 : Nat → List Int → List Int → Int → Bool → Option (Bool)
 | 0, _, _, _, _ => none
 | k + 1, x0, x1, x5, x15 => if x15 = true then (if 0 ≤ x5 then (if x5 < (x0.length : Int) then (if x5 < (x1.length : Int) then (if (rd x0 x5) = (rd x1 x5) then (laws_zLess.l0 k x0 x1 (wrap64 (x5 + 1))) else (some (decide ((rd x0 x5) < (rd x1 x5))))) else (none)) else (none)) else (none)) else (some (decide ((x0.length : Int) < (x1.length : Int))))
end
def laws_zLess.f (k : Nat) (l0 : List Int) (l1 : List Int) : Option (Bool) := laws_zLess.l0 k l0 l1 0
theorem laws_zLess.calls (k : Nat) (A0 : Option Addr) (c0 : Nat) (l0 : List Int) (A1 : Option Addr) (c1 : Nat) (l1 : List Int) (r : Bool) (w : World) (hr0 : Kd.C (Kd.int .i64) w A0 l0.length l0) (hc0 : l0.length ≤ c0) (hr1 : Kd.C (Kd.int .i64) w A1 l1.length l1) (hc1 : l1.length ≤ c1) (h : laws_zLess.f k l0 l1 = some r) :
  Calls Tryz.prog 77 #[.slice A0 l0.length c0, .slice A1 l1.length c1] w fun e w' => e = .returned (.bool r) ∧ Drawn0 w w' := by
 have HR0 := Aside0.mk hr0
 have HC0 := Aside0.mk hc0
 clear hr0 hc0
 have HR1 := Aside0.mk hr1
 have HC1 := Aside0.mk hc1
 clear hr1 hc1
 have H : (laws_zLess.l0 k l0 l1 0) = some r := h
 clear h
 have H' := Aside0.mk H
 clear H
 go_enter Tryz.func77, Tryz.ntmps77
 go_wp2
 repeat (go_quiet (fail); try go_wp2)
 go_loopg [5] k (fun kq v5 w' => ∃ (x5_1 : Int), v5 = .int .i64 x5_1 ∧ Aside0 (laws_zLess.l0 kq l0 l1 x5_1 = some r) ∧ Aside0 (kq ≤ k) ∧ Drawn0 w w')
 case atStart => exact ⟨(0), gR, H', ⟨Nat.le_refl _⟩, dS⟩
 case round =>
  clear H'
  (try clear c1); (try clear p2)
  obtain ⟨x5_1, rfl, HA, HK1, ⟨m1, rfl⟩⟩ := hrel
  cases gk with
  | zero => exact absurd HA.out (by simp [laws_zLess.l0])
  | succ k1 =>
   have H := HA.out
   clear HA
   simp only [laws_zLess.l0] at H
   have HC3 := Aside0.mk H
   clear H
   go_upto_region 2 with (fail)
   repeat (go_quiet (fail); go_upto_region 2 with (fail))
   go_cut [15] (fun v15 wc => ∃ (kq : Nat) (x15_2 : Bool), v15 = .bool x15_2 ∧ Aside0 (laws_zLess.j1 kq l0 l1 x5_1 x15_2 = some r) ∧ Aside0 (kq ≤ k1) ∧ Drawn0 w wc)
   case first =>
    have H := HC3.out
    clear HC3
    by_cases c4 : x5_1 < (l0.length : Int)
    ·rw [if_pos c4] at H
     have c4b0 := decide_eq_true c4
     clear c4
     (first | rw [c4b0] | (simp only [i64_w, i32_w]; rw [c4b0]) | skip)
     have H' := Aside0.mk H
     clear H
     go_wp2
     repeat (go_quiet (fail); try go_wp2)
     go_meet
     case rel => exact ⟨_, (decide (x5_1 < (l1.length : Int))), gR, H', ⟨oN'⟩, dS⟩
    rw [if_neg c4] at H
    have c4b0 : decide (x5_1 < (l0.length : Int)) = false := decide_eq_false c4
    clear c4
    (first | rw [c4b0] | (simp only [i64_w, i32_w]; rw [c4b0]) | skip)
    have H' := Aside0.mk H
    clear H
    go_wp2
    repeat (go_quiet (fail); try go_wp2)
    go_meet
    case rel => exact ⟨_, (false), gR, H', ⟨oN'⟩, dS⟩
   case rest =>
    clear HC3
    (try clear c1); (try clear p2); (try clear c4); (try clear c4b0); (try clear p2)
    obtain ⟨kq, x15_2, rfl, HA, HJ2, ⟨mc2, rfl⟩⟩ := hcut
    cases kq with
    | zero => exact absurd HA.out (by simp [laws_zLess.j1])
    | succ kj2 =>
     have H := HA.out
     clear HA
     simp only [laws_zLess.j1] at H
     by_cases c5 : x15_2 = true
     rotate_left
     ·replace c5 := Bool.eq_false_iff.mpr c5
      subst c5
      replace H := iF H
      obtain rfl := Option.some.inj H
      go_wp2
      repeat (go_quiet (fail); try go_wp2)
      go_ret
      exact ⟨by first | rfl | (simp; done) | (simp [*]; done), dS⟩
     subst c5
     replace H := iT H
     by_cases c6 : 0 ≤ x5_1
     rotate_left
     ·rw [if_neg c6] at H
      exact absurd H (by simp)
     rw [if_pos c6] at H
     have c6b0 := decide_eq_true c6
     clear c6
     by_cases c7 : x5_1 < (l0.length : Int)
     rotate_left
     ·rw [if_neg c7] at H
      exact absurd H (by simp)
     rw [if_pos c7] at H
     have c7b0 := decide_eq_true c7
     clear c7
     by_cases c8 : x5_1 < (l1.length : Int)
     rotate_left
     ·rw [if_neg c8] at H
      exact absurd H (by simp)
     rw [if_pos c8] at H
     have c8b0 := decide_eq_true c8
     clear c8
     by_cases c9 : (rd l0 x5_1) = (rd l1 x5_1)
     ·rw [if_pos c9] at H
      have c9b0 : ((rd l0 x5_1) == (rd l1 x5_1)) = true := beq_iff_eq.mpr c9
      have c9b1 : ((rd l0 x5_1) != (rd l1 x5_1)) = false := bne_eq_false_iff_eq.mpr c9
      clear c9
      have H' := Aside0.mk H
      clear H
      have p101 : 0 ≤ (x5_1 : Int) := oD
      have q101 : x5_1 < (l0.length : Int) := oD
      obtain ⟨ad101, e101, hx101_0⟩ := Kd.at_int HR0.out x5_1 p101 q101
      cases e101
      replace p101 := eq_true p101
      replace q101 := eq_true q101
      have p102 : 0 ≤ (x5_1 : Int) := oD
      have q102 : x5_1 < (l1.length : Int) := oD
      obtain ⟨ad102, e102, hx102_0⟩ := Kd.at_int HR1.out x5_1 p102 q102
      cases e102
      replace p102 := eq_true p102
      replace q102 := eq_true q102
      go_wp2
      repeat (go_quiet (fail); try go_wp2)
      go_roundg kj2
      case measure => have := HK1.out; have := HJ2.out; omega
      case rel => exact ⟨(wrap64 (x5_1 + 1)), gR, H', ⟨by have := HK1.out; have := HJ2.out; omega⟩, dS⟩
     rw [if_neg c9] at H
     have c9b0 : ((rd l0 x5_1) == (rd l1 x5_1)) = false := beq_eq_false_iff_ne.mpr c9
     have c9b1 : ((rd l0 x5_1) != (rd l1 x5_1)) = true := bne_iff_ne.mpr c9
     obtain rfl := Option.some.inj H
     have p101 : 0 ≤ (x5_1 : Int) := oD
     have q101 : x5_1 < (l0.length : Int) := oD
     obtain ⟨ad101, e101, hx101_0⟩ := Kd.at_int HR0.out x5_1 p101 q101
     cases e101
     replace p101 := eq_true p101
     replace q101 := eq_true q101
     have p102 : 0 ≤ (x5_1 : Int) := oD
     have q102 : x5_1 < (l1.length : Int) := oD
     obtain ⟨ad102, e102, hx102_0⟩ := Kd.at_int HR1.out x5_1 p102 q102
     cases e102
     replace p102 := eq_true p102
     replace q102 := eq_true q102
     have p103 : 0 ≤ (x5_1 : Int) := oD
     have q103 : x5_1 < (l0.length : Int) := oD
     obtain ⟨ad103, e103, hx103_0⟩ := Kd.at_int HR0.out x5_1 p103 q103
     obtain rfl : ad101 = ad103 := (by injection e103)
     replace p103 := eq_true p103
     replace q103 := eq_true q103
     have p104 : 0 ≤ (x5_1 : Int) := oD
     have q104 : x5_1 < (l1.length : Int) := oD
     obtain ⟨ad104, e104, hx104_0⟩ := Kd.at_int HR1.out x5_1 p104 q104
     obtain rfl : ad102 = ad104 := (by injection e104)
     replace p104 := eq_true p104
     replace q104 := eq_true q104
     go_wp2
     repeat (go_quiet (fail); try go_wp2)
     go_ret
     exact ⟨by first | rfl | (simp; done) | (simp [*]; done), dS⟩
def spec_voList.l0 : Nat → Int → List Int → Int → Option (List Int)
 | 0, _, _, _ => none
 | k + 1, x0, x3, x4 => if 0 ≤ x4 then (if (shr .i64 x0 x4) > 0 then (if (Int.tmod (shr .i64 x0 x4) 2) = 1 then (if x3.length < 17592186044416 then (spec_voList.l0 k x0 (x3 ++ [x4]) (wrap64 (x4 + 1))) else (none)) else (spec_voList.l0 k x0 x3 (wrap64 (x4 + 1)))) else (some x3)) else (none)
def spec_voList.f (k : Nat) (a0 : Int) : Option (List Int) := spec_voList.l0 k a0 ([] : List Int) 0
theorem spec_voList.calls (k : Nat) (a0 : Int) (r : List Int) (w : World) (h : spec_voList.f k a0 = some r) :
  Calls Tryz.prog 146 #[.int .i64 a0] w fun e w' => ∃ v0_ : Value, e = .returned (v0_) ∧ Kd.R (Kd.int .i64) 3 w' w.heap.size (fun _ => True) v0_ r ∧ Below w.heap.size w w' := by
 have HB := Aside0.mk (Below.refl w.heap.size w)
 have H := h
 unfold spec_voList.f at H
 clear h
 have H' := Aside0.mk H
 clear H
 go_enter Tryz.func146, Tryz.ntmps146
 go_wp2
 go_loopg [3, 4] k (fun kq v3 v4 w' => ∃ (x3_1 : List Int) (x4_1 : Int), v4 = .int .i64 x4_1 ∧ Aside0 (spec_voList.l0 kq a0 x3_1 x4_1 = some r) ∧ Aside0 (kq ≤ k) ∧ Aside0 (Kd.R (Kd.int .i64) 3 w' w.heap.size (fun _ => True) v3 x3_1) ∧ Aside0 (Below w.heap.size w w'))
 case atStart => exact ⟨(([] : List Int)), (0), gR, H', ⟨Nat.le_refl _⟩, ⟨by first | exact Kd.R_nil _ _ _ _ _ | exact Kd.N_nil _ _ _ _ _ | exact Kd.V_nil _ _ _ _ _ | exact Kd.Q_nil _ _ _ _ _ | exact Kd.S_nil _ _ _ _ _⟩, ⟨wB⟩⟩
 case round =>
  clear H'
  (try clear c1)
  obtain ⟨x3_1, x4_1, rfl, HA, HK1, HO_3, HB⟩ := hrel
  cases gk with
  | zero => exact absurd HA.out (by simp [spec_voList.l0])
  | succ k1 =>
   have H := HA.out
   clear HA
   simp only [spec_voList.l0] at H
   by_cases c2 : 0 ≤ x4_1
   rotate_left
   ·rw [if_neg c2] at H
    exact absurd H (by simp)
   rw [if_pos c2] at H
   have c2b0 := eq_true c2
   have c2b1 := decide_eq_true c2
   clear c2
   obtain ⟨ji3, hji3⟩ : ∃ j_ : Int, (shr .i64 a0 x4_1) = j_ := ⟨_, rfl⟩
   replace H : (if (ji3) > 0 then (if (Int.tmod (ji3) 2) = 1 then (if x3_1.length < 17592186044416 then (spec_voList.l0 k1 a0 (x3_1 ++ [x4_1]) (wrap64 (x4_1 + 1))) else (none)) else (spec_voList.l0 k1 a0 x3_1 (wrap64 (x4_1 + 1)))) else (some x3_1)) = some r := by first | (rw [hji3] at H; exact H) | (simp only [hji3] at H ⊢; exact H)
   have hji3_ : (a0 / 2 ^ min x4_1.toNat 64) = ji3 := hji3
   have hji3z : x4_1 ≤ 64 → (a0 / 2 ^ x4_1.toNat) = ji3 := shr_small hji3
   by_cases c4 : (ji3) > 0
   rotate_left
   ·rw [if_neg c4] at H
    have c4b0 : decide (0 < (ji3)) = false := decide_eq_false c4
    clear c4
    obtain rfl := Option.some.inj H
    go_wp2
    go_ret
    exact ⟨_, by first | rfl | (simp <;> rfl) | (simp only [← hji3]; first | rfl | (simp <;> rfl)) | (simp [*] <;> rfl), by exact HO_3.out, wB⟩
   rw [if_pos c4] at H
   have c4b0 : decide (0 < (ji3)) = true := decide_eq_true c4
   clear c4
   have c5b0 := eq_true (oD : 0 ≤ x4_1)
   by_cases c7 : (Int.tmod (ji3) 2) = 1
   rotate_left
   ·rw [if_neg c7] at H
    have c7b0 : ((Int.tmod (ji3) 2) == 1) = false := beq_eq_false_iff_ne.mpr c7
    have c7b1 : ((Int.tmod (ji3) 2) != 1) = true := bne_iff_ne.mpr c7
    have H' := Aside0.mk H
    clear H
    go_wp2
    go_roundg k1
    case measure => have := HK1.out; omega
    case rel => exact ⟨(x3_1), (wrap64 (x4_1 + 1)), gR, H', ⟨by have := HK1.out; omega⟩, ⟨by exact HO_3.out⟩, ⟨wB⟩⟩
   rw [if_pos c7] at H
   have c7b0 : ((Int.tmod (ji3) 2) == 1) = true := beq_iff_eq.mpr c7
   have c7b1 : ((Int.tmod (ji3) 2) != 1) = false := bne_eq_false_iff_eq.mpr c7
   clear c7
   by_cases c8 : x3_1.length < 17592186044416
   rotate_left
   ·rw [if_neg c8] at H
    exact absurd H (by simp)
   rw [if_pos c8] at H
   have LMc8 := Aside0.mk c8
   clear c8
   obtain ⟨y101, hy101⟩ : ∃ y_ : List Int, y_ = (x3_1 ++ [x4_1]) := ⟨_, rfl⟩
   replace H : (spec_voList.l0 k1 a0 y101 (wrap64 (x4_1 + 1))) = some r := by first | (rw [hy101]; with_reducible exact H) | (have H2_ := (Option.bind_some _ _).symm.trans H; rw [hy101]; with_reducible exact H2_) | (have H2_ := (Option.bind_some _ _).symm.trans H; with_reducible exact H2_) | with_reducible exact H | (rw [hy101]; exact H) | exact H
   have Ny101 := Aside0.mk hy101
   clear hy101
   have H' := Aside0.mk H
   clear H
   go_wp2_with (first | ((with_reducible refine gate_builtin (b := .append) (xs := #[.tmp 16, .tmp 18]) rfl ?_); at_builtin; refine Kd.R_append (Kd.int .i64) (w0 := w) w.heap.size rfl (.tmp 16) (.tmp 18) 24 3 (.int .i64 0) 8 rfl Tryz.underlying24 info3 rfl (by decide) (by omega) u3 x3_1 x4_1 [.int .i64 x4_1] (fun _ => True) (fun _ => False) rfl rfl ?aP (fun _ hk => hk.elim) ?aF ?aO ?aB ?aS ?aL ?_; (case aP => exact rfl); (case aB => exact HB.out); (case aF => exact (fun _ _ => trivial)); (case aO => exact HO_3.out); (case aS => exact (below_size HB.out)); (case aL => have := LMc8.out; omega); intro v102 w9 ho hb hg hat; rw [← Ny101.out] at ho; have HO103 := Aside0.mk (ho); replace HB := Aside0.mk (hb); clear ho hb hg hat))
   go_roundg k1
   case measure => have := HK1.out; omega
   case rel => exact ⟨(y101), (wrap64 (x4_1 + 1)), gR, H', ⟨by have := HK1.out; omega⟩, ⟨by exact HO103.out⟩, ⟨wB⟩⟩
mutual
def spec_voBefore.l0 : Nat → List Int → List Int → Int → Option (Bool)
 | 0, _, _, _ => none
 | k + 1, x0, x1, x5 => if x5 < (x0.length : Int) then (spec_voBefore.j1 k x0 x1 x5 (decide (x5 < (x1.length : Int)))) else (spec_voBefore.j1 k x0 x1 x5 false)
def spec_voBefore.j1 : Nat → List Int → List Int → Int → Bool → Option (Bool)
 | 0, _, _, _, _ => none
 | k + 1, x0, x1, x5, x15 => if x15 = true then (if 0 ≤ x5 then (if x5 < (x0.length : Int) then (if x5 < (x1.length : Int) then (if (rd x0 x5) = (rd x1 x5) then (spec_voBefore.l0 k x0 x1 (wrap64 (x5 + 1))) else (some (decide ((rd x0 x5) < (rd x1 x5))))) else (none)) else (none)) else (none)) else (some (decide ((x0.length : Int) < (x1.length : Int))))
end
def spec_voBefore.f (k : Nat) (l0 : List Int) (l1 : List Int) : Option (Bool) := spec_voBefore.l0 k l0 l1 0
theorem spec_voBefore.calls (k : Nat) (A0 : Option Addr) (c0 : Nat) (l0 : List Int) (A1 : Option Addr) (c1 : Nat) (l1 : List Int) (r : Bool) (w : World) (hr0 : Kd.C (Kd.int .i64) w A0 l0.length l0) (hc0 : l0.length ≤ c0) (hr1 : Kd.C (Kd.int .i64) w A1 l1.length l1) (hc1 : l1.length ≤ c1) (h : spec_voBefore.f k l0 l1 = some r) :
  Calls Tryz.prog 212 #[.slice A0 l0.length c0, .slice A1 l1.length c1] w fun e w' => e = .returned (.bool r) ∧ Drawn0 w w' := by
 have HR0 := Aside0.mk hr0
 have HC0 := Aside0.mk hc0
 clear hr0 hc0
 have HR1 := Aside0.mk hr1
 have HC1 := Aside0.mk hc1
 clear hr1 hc1
 have H : (spec_voBefore.l0 k l0 l1 0) = some r := h
 clear h
 have H' := Aside0.mk H
 clear H
 go_enter Tryz.func212, Tryz.ntmps212
 go_wp2
 repeat (go_quiet (fail); try go_wp2)
 go_loopg [5] k (fun kq v5 w' => ∃ (x5_1 : Int), v5 = .int .i64 x5_1 ∧ Aside0 (spec_voBefore.l0 kq l0 l1 x5_1 = some r) ∧ Aside0 (kq ≤ k) ∧ Drawn0 w w')
 case atStart => exact ⟨(0), gR, H', ⟨Nat.le_refl _⟩, dS⟩
 case round =>
  clear H'
  (try clear c1); (try clear c2); (try clear p2)
  obtain ⟨x5_1, rfl, HA, HK1, ⟨m1, rfl⟩⟩ := hrel
  cases gk with
  | zero => exact absurd HA.out (by simp [spec_voBefore.l0])
  | succ k1 =>
   have H := HA.out
   clear HA
   simp only [spec_voBefore.l0] at H
   have HC3 := Aside0.mk H
   clear H
   go_upto_region 2 with (fail)
   repeat (go_quiet (fail); go_upto_region 2 with (fail))
   go_cut [15] (fun v15 wc => ∃ (kq : Nat) (x15_2 : Bool), v15 = .bool x15_2 ∧ Aside0 (spec_voBefore.j1 kq l0 l1 x5_1 x15_2 = some r) ∧ Aside0 (kq ≤ k1) ∧ Drawn0 w wc)
   case first =>
    have H := HC3.out
    clear HC3
    by_cases c4 : x5_1 < (l0.length : Int)
    ·rw [if_pos c4] at H
     have c4b0 := decide_eq_true c4
     clear c4
     (first | rw [c4b0] | (simp only [i64_w, i32_w]; rw [c4b0]) | skip)
     have H' := Aside0.mk H
     clear H
     go_wp2
     repeat (go_quiet (fail); try go_wp2)
     go_meet
     case rel => exact ⟨_, (decide (x5_1 < (l1.length : Int))), gR, H', ⟨oN'⟩, dS⟩
    rw [if_neg c4] at H
    have c4b0 : decide (x5_1 < (l0.length : Int)) = false := decide_eq_false c4
    clear c4
    (first | rw [c4b0] | (simp only [i64_w, i32_w]; rw [c4b0]) | skip)
    have H' := Aside0.mk H
    clear H
    go_wp2
    repeat (go_quiet (fail); try go_wp2)
    go_meet
    case rel => exact ⟨_, (false), gR, H', ⟨oN'⟩, dS⟩
   case rest =>
    clear HC3
    (try clear c1); (try clear c2); (try clear p2); (try clear c4); (try clear c4b0); (try clear p2)
    obtain ⟨kq, x15_2, rfl, HA, HJ2, ⟨mc2, rfl⟩⟩ := hcut
    cases kq with
    | zero => exact absurd HA.out (by simp [spec_voBefore.j1])
    | succ kj2 =>
     have H := HA.out
     clear HA
     simp only [spec_voBefore.j1] at H
     by_cases c5 : x15_2 = true
     rotate_left
     ·replace c5 := Bool.eq_false_iff.mpr c5
      subst c5
      replace H := iF H
      obtain rfl := Option.some.inj H
      go_wp2
      repeat (go_quiet (fail); try go_wp2)
      go_ret
      exact ⟨by first | rfl | (simp; done) | (simp [*]; done), dS⟩
     subst c5
     replace H := iT H
     by_cases c6 : 0 ≤ x5_1
     rotate_left
     ·rw [if_neg c6] at H
      exact absurd H (by simp)
     rw [if_pos c6] at H
     have c6b0 := decide_eq_true c6
     clear c6
     by_cases c7 : x5_1 < (l0.length : Int)
     rotate_left
     ·rw [if_neg c7] at H
      exact absurd H (by simp)
     rw [if_pos c7] at H
     have c7b0 := decide_eq_true c7
     clear c7
     by_cases c8 : x5_1 < (l1.length : Int)
     rotate_left
     ·rw [if_neg c8] at H
      exact absurd H (by simp)
     rw [if_pos c8] at H
     have c8b0 := decide_eq_true c8
     clear c8
     by_cases c9 : (rd l0 x5_1) = (rd l1 x5_1)
     ·rw [if_pos c9] at H
      have c9b0 : ((rd l0 x5_1) == (rd l1 x5_1)) = true := beq_iff_eq.mpr c9
      have c9b1 : ((rd l0 x5_1) != (rd l1 x5_1)) = false := bne_eq_false_iff_eq.mpr c9
      clear c9
      have H' := Aside0.mk H
      clear H
      have p101 : 0 ≤ (x5_1 : Int) := oD
      have q101 : x5_1 < (l0.length : Int) := oD
      obtain ⟨ad101, e101, hx101_0⟩ := Kd.at_int HR0.out x5_1 p101 q101
      cases e101
      replace p101 := eq_true p101
      replace q101 := eq_true q101
      have p102 : 0 ≤ (x5_1 : Int) := oD
      have q102 : x5_1 < (l1.length : Int) := oD
      obtain ⟨ad102, e102, hx102_0⟩ := Kd.at_int HR1.out x5_1 p102 q102
      cases e102
      replace p102 := eq_true p102
      replace q102 := eq_true q102
      go_wp2
      repeat (go_quiet (fail); try go_wp2)
      go_roundg kj2
      case measure => have := HK1.out; have := HJ2.out; omega
      case rel => exact ⟨(wrap64 (x5_1 + 1)), gR, H', ⟨by have := HK1.out; have := HJ2.out; omega⟩, dS⟩
     rw [if_neg c9] at H
     have c9b0 : ((rd l0 x5_1) == (rd l1 x5_1)) = false := beq_eq_false_iff_ne.mpr c9
     have c9b1 : ((rd l0 x5_1) != (rd l1 x5_1)) = true := bne_iff_ne.mpr c9
     obtain rfl := Option.some.inj H
     have p101 : 0 ≤ (x5_1 : Int) := oD
     have q101 : x5_1 < (l0.length : Int) := oD
     obtain ⟨ad101, e101, hx101_0⟩ := Kd.at_int HR0.out x5_1 p101 q101
     cases e101
     replace p101 := eq_true p101
     replace q101 := eq_true q101
     have p102 : 0 ≤ (x5_1 : Int) := oD
     have q102 : x5_1 < (l1.length : Int) := oD
     obtain ⟨ad102, e102, hx102_0⟩ := Kd.at_int HR1.out x5_1 p102 q102
     cases e102
     replace p102 := eq_true p102
     replace q102 := eq_true q102
     have p103 : 0 ≤ (x5_1 : Int) := oD
     have q103 : x5_1 < (l0.length : Int) := oD
     obtain ⟨ad103, e103, hx103_0⟩ := Kd.at_int HR0.out x5_1 p103 q103
     obtain rfl : ad101 = ad103 := (by injection e103)
     replace p103 := eq_true p103
     replace q103 := eq_true q103
     have p104 : 0 ≤ (x5_1 : Int) := oD
     have q104 : x5_1 < (l1.length : Int) := oD
     obtain ⟨ad104, e104, hx104_0⟩ := Kd.at_int HR1.out x5_1 p104 q104
     obtain rfl : ad102 = ad104 := (by injection e104)
     replace p104 := eq_true p104
     replace q104 := eq_true q104
     go_wp2
     repeat (go_quiet (fail); try go_wp2)
     go_ret
     exact ⟨by first | rfl | (simp; done) | (simp [*]; done), dS⟩
mutual
def spec_voSorted.l0 : Nat → List (List Int) → List (List Int) → Int → Option (List (List Int))
 | 0, _, _, _ => none
 | k + 1, out, l, x => if x < (l.length : Int) then (if 0 ≤ x then spec_voSorted.l1 k out l x (rdOf [] l x) 0 else none) else some out
def spec_voSorted.l1 : Nat → List (List Int) → List (List Int) → Int → List Int → Int → Option (List (List Int))
 | 0, _, _, _, _, _ => none
 | k + 1, out, l, x, s, y => if y < (out.length : Int) then ((spec_voBefore.f k (rdOf [] out y) s).bind fun t => if t = true then spec_voSorted.l1 k out l x s (wrap64 (y + 1)) else (if out.length < 5000000000000 then spec_voSorted.l0 k (out.take y.toNat ++ s :: out.drop y.toNat) l (wrap64 (x + 1)) else none)) else (if out.length < 5000000000000 then spec_voSorted.l0 k (out.take y.toNat ++ s :: out.drop y.toNat) l (wrap64 (x + 1)) else none)
end
def spec_voSorted.f (k : Nat) (l0 : List (List Int)) : Option (List (List Int)) := spec_voSorted.l0 k [] l0 0
theorem spec_voSorted.next {k : Nat} {l0 : List (List Int)} {ys : List (Fin l0.length)} {x y : Int} {p : Fin l0.length} {z : List Int} {r : List (List Int)} (h0 : 0 ≤ x) (hl : x < (l0.length : Int)) (hn : l0.length ≤ 9223372036854775807) (hp : p.1 = x.toNat) (hz : z = l0[p]) (h : spec_voSorted.l0 k ((ys.map fun i => l0[i]).take y.toNat ++ z :: (ys.map fun i => l0[i]).drop y.toNat) l0 (wrap64 (x + 1)) = some r) : spec_voSorted.l0 k (([] ++ ys.take y.toNat ++ [p] ++ ys.drop y.toNat).map fun i => l0[i]) l0 (wrap64 (x + 1)) = some r := by
 rw [← h]
 congr 1
 simp [hz, List.map_take, List.map_drop]
theorem spec_voSorted.perm {n : Nat} {ys : List (Fin n)} {x y : Int} {p : Fin n} (h0 : 0 ≤ x) (hl : x < (n : Int)) (hn : n ≤ 9223372036854775807) (hp : p.1 = x.toNat) (hy : y.toNat ≤ ys.length) (h : ys.Perm ((List.finRange n).take x.toNat)) : ([] ++ ys.take y.toNat ++ [p] ++ ys.drop y.toNat).Perm ((List.finRange n).take (wrap64 (x + 1)).toNat) := by
 have e1 : (wrap64 (x + 1)).toNat = x.toNat + 1 := by unfold wrap64; omega
 have hx : x.toNat < (List.finRange n).length := by rw [List.length_finRange]; omega
 have e2 : (List.finRange n)[x.toNat] = p := by apply Fin.ext; simp [hp]
 rw [e1, List.take_succ_eq_append_getElem hx, e2, List.nil_append, List.append_assoc, List.singleton_append]
 refine List.perm_middle.trans ?_
 rw [List.take_append_drop]
 exact (List.Perm.cons p h).trans (List.perm_append_singleton p _).symm
theorem wHR_spec_voSorted {p : Prop} (h : p := by repeat (first | (with_reducible first | exact HR.out | apply ba | apply bd | apply be) | exact HR.out)) : p := h
theorem spec_voSorted.calls (k : Nat) (base : Nat) (A0 : Option Addr) (c0 : Nat) (l0 : List (List Int)) (r : List (List Int)) (w : World) (hS : Kd.S (Kd.slice 3 (Kd.int .i64)) 24 w base (fun _ => True) (.slice A0 l0.length c0) l0) (hbase : base ≤ w.heap.size) (h : spec_voSorted.f k l0 = some r) :
  Calls Tryz.prog 147 #[.slice A0 l0.length c0] w fun e w' => ∃ v0_ : Value, e = .returned (v0_) ∧ Kd.S (Kd.slice 3 (Kd.int .i64)) 24 w' base (fun _ => True) v0_ r ∧ Below w.heap.size w w' := by
 obtain ⟨enc, h1, hR, hK, hfin⟩ := Go.Proofs.YtamfpkefnhcngaaGreatS.S_open rfl hS
 obtain ⟨A', c', hv, hcc, hC⟩ := Kd.R_reads hR
 rw [List.length_finRange] at hv hcc hC
 injection hv with f1 f2 f3
 subst f1
 subst f3
 have HN := Aside0.mk (Kd.C_max hC)
 have HF := Aside0.mk hfin
 have HK := Aside0.mk hK
 have HC := Aside0.mk hC
 have HBASE := Aside0.mk hbase
 have HB := Aside0.mk (Below.refl w.heap.size w)
 have H' : Aside0 (spec_voSorted.l0 k (([] : List (Fin l0.length)).map fun i => l0[i]) l0 0 = some r) := ⟨h⟩
 clear h hS hR hK hfin hC hbase hcc f2
 go_enter Tryz.func147, Tryz.ntmps147
 go_wp2
 go_loopg [3, 10] k (fun kq v3 v10 w' => ∃ (ys : List (Fin l0.length)) (x : Int), v10 = .int .i64 x ∧ Aside0 (spec_voSorted.l0 kq (ys.map fun i => l0[i]) l0 x = some r) ∧ Aside0 (kq ≤ k) ∧ Aside0 (0 ≤ x) ∧ Aside0 ((Kd.scalar enc h1).R 24 w' w.heap.size (fun _ => True) v3 ys) ∧ Aside0 (ys.Perm ((List.finRange l0.length).take x.toNat)) ∧ Aside0 (Below w.heap.size w w'))
 case atStart => exact ⟨[], 0, gR, H', ⟨Nat.le_refl _⟩, ⟨Int.le_refl _⟩, ⟨Kd.R_nil _ _ _ _ _⟩, ⟨by simp⟩, HB⟩
 case round =>
  clear H' HB
  obtain ⟨ys, x, rfl, HA, HK1, HX0, HO, HP, HB⟩ := hrel
  obtain ⟨Ao, co, rfl, hco, hCo⟩ := Kd.R_reads HO.out
  have HCO := Aside0.mk hco
  clear hco hCo
  cases gk with
  | zero => exact absurd HA.out (by simp [spec_voSorted.l0])
  | succ k1 =>
   have H := HA.out
   clear HA
   simp only [spec_voSorted.l0] at H
   by_cases c1 : x < (l0.length : Int)
   rotate_left
   ·rw [if_neg c1] at H
    obtain rfl := Option.some.inj H
    have hpm := HP.out
    rw [List.take_of_length_le (by rw [List.length_finRange]; omega)] at hpm
    have HPM := Aside0.mk hpm
    have c1b0 : decide (x < (l0.length : Int)) = false := decide_eq_false c1
    clear c1 H hpm
    go_wp2
    go_ret
    exact ⟨_, rfl, HF.out _ _ ys (by repeat (first | exact HB.out | apply ba | apply bd | apply be)) HPM.out HBASE.out (by (with_reducible repeat (first | apply qA | apply qN | apply qD)); exact HO.out), wB⟩
   rw [if_pos c1, if_pos HX0.out] at H
   have HXL := Aside0.mk c1
   have hx0' := HX0.out
   obtain ⟨p, hp⟩ : ∃ p : Fin l0.length, p.1 = x.toNat := ⟨⟨x.toNat, by omega⟩, rfl⟩
   have HPX := Aside0.mk hp
   obtain ⟨z, hz⟩ : ∃ z : List Int, z = l0[p]'(p.2) := ⟨_, rfl⟩
   have HZ := Aside0.mk hz
   have hzr : rdOf [] l0 x = z := by rw [hz]; simp [rdOf, ← hp]
   rw [hzr] at H
   have H' := Aside0.mk H
   obtain ⟨ad, cc, e1, _, hKx, hcell⟩ := Kd.C_get HC.out p x hx0' c1
   have hKx' : cc = [enc p] := by
    have h_ : cc = [enc ((List.finRange l0.length).getD x.toNat p)] := hKx
    rw [h_, ← hp]
    simp
   have hx0 : w.cell? (ad.add (x.toNat * 1 + 0)) = some (enc p) := hcell 0 _ (by rw [hKx']; rfl)
   rw [Nat.mul_one, Nat.add_zero] at hx0
   obtain ⟨A5, c5, e5, hle5, hC5⟩ := HK.out p
   rw [← hz] at e5 hle5 hC5
   have e5' : enc p = .slice A5 z.length c5 := (List.cons.inj e5).1
   have HEP := Aside0.mk e5'
   have HC5 := Aside0.mk hC5
   have HL5 := Aside0.mk hle5
   rw [e5'] at hx0
   replace hx0 := (HB.out.cell (World.block_lt_of_cell? w _ hx0)).trans hx0
   cases e1
   clear hp hz hzr H hKx hKx' hcell e5 e5' hle5 hC5
   have c1b0 := decide_eq_true c1
   replace c1 := eq_true c1
   replace hx0' := eq_true hx0'
   go_wp2
   go_loopg [6] k1 (fun kq v6 w' => ∃ (y : Int), v6 = .int .i64 y ∧ Aside0 (spec_voSorted.l1 kq (ys.map fun i => l0[i]) l0 x z y = some r) ∧ Aside0 (kq ≤ k1) ∧ Aside0 (0 ≤ y) ∧ Aside0 (y ≤ (ys.length : Int)) ∧ Aside0 ((Kd.scalar enc h1).R 24 w' w.heap.size (fun _ => True) (.slice Ao ys.length co) ys) ∧ Aside0 (Below w.heap.size w w'))
   case atStart => exact ⟨0, gR, H', ⟨Nat.le_refl _⟩, ⟨Int.le_refl _⟩, ⟨by omega⟩, ⟨by exact HO.out⟩, ⟨wB⟩⟩
   case round =>
    clear H' HB HO
    (try clear hx0)
    try clear hx0'
    (try clear c1); (try clear c1b0)
    obtain ⟨y, rfl, HA, HK2, HY0, HYL, HO, HB⟩ := hrel
    cases gk with
    | zero => exact absurd HA.out (by simp [spec_voSorted.l1])
    | succ k2 =>
     have H := HA.out
     clear HA
     simp only [spec_voSorted.l1] at H
     obtain ⟨Ao', co', eo', _, hCo⟩ := Kd.R_reads HO.out
     injection eo' with g1 g2 g3
     subst g1
     have HCo := Aside0.mk hCo
     have HYB := Aside0.mk (Kd.C_max hCo)
     clear hCo g2 g3
     have HR := Aside0.mk (Below.refl wr.heap.size wr)
     have HNL := HN
     by_cases c2 : y < ((ys.map fun i => l0[i]).length : Int)
     rotate_left
     ·rw [if_neg c2] at H
      rw [List.length_map] at c2
      have c2b0 : decide (y < (ys.length : Int)) = false := decide_eq_false c2
      clear c2
      by_cases c9 : (ys.map fun i => l0[i]).length < 5000000000000
      rotate_left
      ·rw [if_neg c9] at H
       exact absurd H (by simp)
      rw [if_pos c9] at H
      rw [List.length_map] at c9
      have LM := Aside0.mk c9
      have hyl : y ≤ (ys.length : Int) := HYL.out
      obtain ⟨i0, hi0, _, hsz0, _⟩ := info_parts info24
      have hcutT := cut_to (P := Tryz.prog) 45 24 .i64 Tryz.underlying45 hi0 Ao ys.length co y HY0.out hyl HCO.out
      have hcutF := cut_from (P := Tryz.prog) 45 24 .i64 Tryz.underlying45 hi0 1 hsz0 Ao ys.length co y HY0.out hyl
      rw [Nat.mul_one] at hcutF
      obtain ⟨AF, hAF⟩ : ∃ AF : Option Addr, AF = (if co = y.toNat then Ao else Ao.map (·.add y.toNat)) := ⟨_, rfl⟩
      rw [← hAF] at hcutF
      have HAF := Aside0.mk hAF
      clear hAF
      have hyn : y.toNat ≤ ys.length := by omega
      have HYN := Aside0.mk hyn
      clear c9 hyl hyn hi0 hsz0
      go_wp2_with (first | ((with_reducible refine gate_dst (N := 28) rfl ?_); refine Kd.R_lit (Kd.scalar enc h1) _ 24 ?hg (N := 28) ?hd (xs := []) (inner := []) (ok := fun _ => True) (okp := fun _ => True) ?hr ?hp (fun _ hk => hk) trivial (Below.refl _ _) (Nat.le_refl _) (by simp) ?_; (case hd => rfl); (case hg => rfl); (case hr => first | (go_simp; done) | (go_simp; rfl)); (case hp => exact (Reps.none _ _)); intro v28 w28 ho hb hg_ hnew_; clear hg_ hnew_; have HE := Aside0.mk (Kd.R_lower ho (below_size (wHR_spec_voSorted))); replace HR := Aside0.mk (below_step (wHR_spec_voSorted) hb); clear hb ho) | ((with_reducible refine gate_builtin (b := .append) (xs := #[.tmp 28, .tmp 31]) rfl ?_); at_builtin; refine Kd.R_append_rows (Kd.scalar enc h1) (w0 := wr) wr.heap.size rfl (.tmp 28) (.tmp 31) 45 24 (.slice none 0 0) 24 rfl Tryz.underlying45 info24 rfl Nat.zero_lt_one (by omega) v28 [] (ys.take y.toNat) Ao y.toNat co (fun _ => True) (fun _ => False) rfl rfl ?aO ?aR (fun _ _ h => h) (fun _ h => h.elim) ?aF ?aB ?aS ?aL ?_; (case aR => exact (by have h_ := Kd.C_take (m := y.toNat) (Kd.C_below HCo.out (wHR_spec_voSorted)) HYN.out; rw [show (ys.take y.toNat).length = y.toNat from by rw [List.length_take]; exact Nat.min_eq_left HYN.out] at h_; exact h_)); (case aB => exact (wHR_spec_voSorted)); (case aF => exact (fun _ _ => trivial)); (case aO => exact (by (with_reducible repeat (first | apply qA | apply qN | apply qD)); exact HE.out)); (case aS => exact (below_size (wHR_spec_voSorted))); (case aL => have h1_ := LM.out; have h2_ := HYN.out; simp only [List.length_append, List.length_take, List.length_nil, List.length_cons]; omega); intro v32 w32 ho hb hg hat; replace HR := Aside0.mk hb; replace HE := Aside0.mk ho; clear ho hb hg hat) | ((with_reducible refine gate_builtin (b := .append) (xs := #[.tmp 32, .tmp 34]) rfl ?_); at_builtin; refine Kd.R_append (Kd.scalar enc h1) (w0 := wr) wr.heap.size rfl (.tmp 32) (.tmp 34) 45 24 (.slice none 0 0) 24 rfl Tryz.underlying45 info24 rfl Nat.zero_lt_one (by omega) v32 ([] ++ ys.take y.toNat) p [.slice A5 z.length c5] (fun _ => True) (fun _ => False) rfl rfl ?aP (fun _ hk => hk.elim) ?aF ?aO ?aB ?aS ?aL ?_; (case aP => exact (show [Value.slice A5 z.length c5] = [enc p] from by rw [HEP.out])); (case aB => exact (wHR_spec_voSorted)); (case aF => exact (fun _ _ => trivial)); (case aO => exact (by (with_reducible repeat (first | apply qA | apply qN | apply qD)); exact HE.out)); (case aS => exact (below_size (wHR_spec_voSorted))); (case aL => have h1_ := LM.out; have h2_ := HYN.out; simp only [List.length_append, List.length_take, List.length_nil, List.length_cons]; omega); intro v35 w35 ho hb hg hat; replace HR := Aside0.mk hb; replace HE := Aside0.mk ho; clear ho hb hg hat) | ((with_reducible refine gate_builtin (b := .append) (xs := #[.tmp 36, .tmp 39]) rfl ?_); at_builtin; refine Kd.R_append_rows (Kd.scalar enc h1) (w0 := wr) wr.heap.size rfl (.tmp 36) (.tmp 39) 45 24 (.slice none 0 0) 24 rfl Tryz.underlying45 info24 rfl Nat.zero_lt_one (by omega) v35 ([] ++ ys.take y.toNat ++ [p]) (ys.drop y.toNat) _ _ _ (fun _ => True) (fun _ => False) rfl rfl ?aO ?aR (fun _ _ h => h) (fun _ h => h.elim) ?aF ?aB ?aS ?aL ?_; (case aR => exact (by have h_ : (Kd.scalar enc h1).C _ (if co = y.toNat then Ao else Ao.map (·.add (y.toNat * 1))) (ys.drop y.toNat).length (ys.drop y.toNat) := Kd.C_drop (m := y.toNat) (Kd.C_below HCo.out (wHR_spec_voSorted)) HYN.out HCO.out; rw [List.length_drop, Nat.mul_one, ← HAF.out] at h_; exact h_)); (case aB => exact (wHR_spec_voSorted)); (case aF => exact (fun _ _ => trivial)); (case aO => exact (by (with_reducible repeat (first | apply qA | apply qN | apply qD)); exact HE.out)); (case aS => exact (below_size (wHR_spec_voSorted))); (case aL => have h1_ := LM.out; have h2_ := HYN.out; simp only [List.length_append, List.length_take, List.length_nil, List.length_cons]; omega); intro v40 w40 ho hb hg hat; replace HR := Aside0.mk hb; replace HE := Aside0.mk ho; clear ho hb hg hat))
      go_roundg k2
      case measure => have := HK1.out; have := HK2.out; omega
      case rel => exact ⟨[] ++ ys.take y.toNat ++ [p] ++ ys.drop y.toNat, wrap64 (x + 1), gR, ⟨spec_voSorted.next HX0.out HXL.out HNL.out HPX.out HZ.out H⟩, ⟨by have := HK1.out; have := HK2.out; omega⟩, ⟨by have := HX0.out; have := HXL.out; have := HNL.out; unfold wrap64; omega⟩, ⟨by (with_reducible repeat (first | apply qA | apply qN | apply qD)); exact Kd.R_lower HE.out (below_size HB.out)⟩, ⟨spec_voSorted.perm HX0.out HXL.out HNL.out HPX.out HYN.out HP.out⟩, ⟨HB.out.trans (HR.out.mono (below_size HB.out))⟩⟩
     rw [if_pos c2] at H
     obtain ⟨t, A7, H⟩ := oB H
     rw [List.length_map] at c2
     have hy0 := HY0.out
     have hyl : y.toNat < ys.length := by omega
     obtain ⟨q, hq⟩ : ∃ q : Fin l0.length, q = ys[y.toNat] := ⟨_, rfl⟩
     obtain ⟨zq, hzq⟩ : ∃ z : List Int, z = l0[q]'(q.2) := ⟨_, rfl⟩
     have hzr : rdOf [] (ys.map fun i => l0[i]) y = zq := by rw [hzq, hq]; simp [rdOf, hyl]
     rw [hzr] at A7
     have A8 := Aside0.mk A7
     obtain ⟨ad2, cc2, e2, _, hKy, hcell⟩ := Kd.C_get HCo.out q y hy0 c2
     have hKy' : cc2 = [enc q] := by
      have h_ : cc2 = [enc (ys.getD y.toNat q)] := hKy
      rw [h_, hq]
      simp [hyl]
     have hy1 : wr.cell? (ad2.add (y.toNat * 1 + 0)) = some (enc q) := hcell 0 _ (by rw [hKy']; rfl)
     rw [Nat.mul_one, Nat.add_zero] at hy1
     obtain ⟨Aq, cq, eq, hleq, hCq⟩ := HK.out q
     rw [← hzq] at eq hleq hCq
     rw [(List.cons.inj eq).1] at hy1
     have HCQ := Aside0.mk hCq
     have HLQ := Aside0.mk hleq
     cases e2
     clear hq hzq hzr A7 hKy hKy' hcell eq hleq hCq hyl
     have c2b0 : decide (y < (ys.length : Int)) = true := decide_eq_true c2
     replace c2 := eq_true c2
     replace hy0 := eq_true hy0
     cases t with
     | true =>
      rw [if_pos rfl] at H
      have H' := Aside0.mk H
      clear H
      go_wp2_with (go_at_call 212; refine (spec_voBefore.calls k2 _ _ zq _ _ z true _ (Kd.C_below HCQ.out HB.out) HLQ.out (Kd.C_below HC5.out HB.out) HL5.out A8.out).mono ?_; rintro e w' ⟨rfl, ⟨nd, rfl⟩⟩)
      go_roundg k2
      case measure => have := HK2.out; omega
      case rel => exact ⟨wrap64 (y + 1), gR, H', ⟨by have := HK2.out; omega⟩, ⟨by have h1_ : y < (ys.length : Int) := of_eq_true c2; have h2_ := HYB.out; have := HY0.out; unfold wrap64; omega⟩, ⟨by have h1_ : y < (ys.length : Int) := of_eq_true c2; have h2_ := HYB.out; have := HY0.out; unfold wrap64; omega⟩, ⟨by (with_reducible repeat (first | apply qA | apply qN | apply qD)); exact HO.out⟩, ⟨wB⟩⟩
     | false =>
      rw [if_neg (by decide)] at H
      by_cases c9 : (ys.map fun i => l0[i]).length < 5000000000000
      rotate_left
      ·rw [if_neg c9] at H
       exact absurd H (by simp)
      rw [if_pos c9] at H
      rw [List.length_map] at c9
      have LM := Aside0.mk c9
      have hyl : y ≤ (ys.length : Int) := HYL.out
      obtain ⟨i0, hi0, _, hsz0, _⟩ := info_parts info24
      have hcutT := cut_to (P := Tryz.prog) 45 24 .i64 Tryz.underlying45 hi0 (some ad2) ys.length co y HY0.out hyl HCO.out
      have hcutF := cut_from (P := Tryz.prog) 45 24 .i64 Tryz.underlying45 hi0 1 hsz0 (some ad2) ys.length co y HY0.out hyl
      rw [Nat.mul_one] at hcutF
      obtain ⟨AF, hAF⟩ : ∃ AF : Option Addr, AF = (if co = y.toNat then (some ad2) else (some ad2 : Option Addr).map (·.add y.toNat)) := ⟨_, rfl⟩
      rw [← hAF] at hcutF
      have HAF := Aside0.mk hAF
      clear hAF
      have hyn : y.toNat ≤ ys.length := by omega
      have HYN := Aside0.mk hyn
      clear c9 hyl hyn hi0 hsz0
      go_wp2_with (first | (go_at_call 212; refine (spec_voBefore.calls k2 _ _ zq _ _ z false _ (Kd.C_below HCQ.out HB.out) HLQ.out (Kd.C_below HC5.out HB.out) HL5.out A8.out).mono ?_; rintro e w' ⟨rfl, ⟨nd, rfl⟩⟩) | ((with_reducible refine gate_dst (N := 28) rfl ?_); refine Kd.R_lit (Kd.scalar enc h1) _ 24 ?hg (N := 28) ?hd (xs := []) (inner := []) (ok := fun _ => True) (okp := fun _ => True) ?hr ?hp (fun _ hk => hk) trivial (Below.refl _ _) (Nat.le_refl _) (by simp) ?_; (case hd => rfl); (case hg => rfl); (case hr => first | (go_simp; done) | (go_simp; rfl)); (case hp => exact (Reps.none _ _)); intro v28 w28 ho hb hg_ hnew_; clear hg_ hnew_; have HE := Aside0.mk (Kd.R_lower ho (below_size (wHR_spec_voSorted))); replace HR := Aside0.mk (below_step (wHR_spec_voSorted) hb); clear hb ho) | ((with_reducible refine gate_builtin (b := .append) (xs := #[.tmp 28, .tmp 31]) rfl ?_); at_builtin; refine Kd.R_append_rows (Kd.scalar enc h1) (w0 := wr) wr.heap.size rfl (.tmp 28) (.tmp 31) 45 24 (.slice none 0 0) 24 rfl Tryz.underlying45 info24 rfl Nat.zero_lt_one (by omega) v28 [] (ys.take y.toNat) (some ad2) y.toNat co (fun _ => True) (fun _ => False) rfl rfl ?aO ?aR (fun _ _ h => h) (fun _ h => h.elim) ?aF ?aB ?aS ?aL ?_; (case aR => exact (by have h_ := Kd.C_take (m := y.toNat) (Kd.C_below HCo.out (wHR_spec_voSorted)) HYN.out; rw [show (ys.take y.toNat).length = y.toNat from by rw [List.length_take]; exact Nat.min_eq_left HYN.out] at h_; exact h_)); (case aB => exact (wHR_spec_voSorted)); (case aF => exact (fun _ _ => trivial)); (case aO => exact (by (with_reducible repeat (first | apply qA | apply qN | apply qD)); exact HE.out)); (case aS => exact (below_size (wHR_spec_voSorted))); (case aL => have h1_ := LM.out; have h2_ := HYN.out; simp only [List.length_append, List.length_take, List.length_nil, List.length_cons]; omega); intro v32 w32 ho hb hg hat; replace HR := Aside0.mk hb; replace HE := Aside0.mk ho; clear ho hb hg hat) | ((with_reducible refine gate_builtin (b := .append) (xs := #[.tmp 32, .tmp 34]) rfl ?_); at_builtin; refine Kd.R_append (Kd.scalar enc h1) (w0 := wr) wr.heap.size rfl (.tmp 32) (.tmp 34) 45 24 (.slice none 0 0) 24 rfl Tryz.underlying45 info24 rfl Nat.zero_lt_one (by omega) v32 ([] ++ ys.take y.toNat) p [.slice A5 z.length c5] (fun _ => True) (fun _ => False) rfl rfl ?aP (fun _ hk => hk.elim) ?aF ?aO ?aB ?aS ?aL ?_; (case aP => exact (show [Value.slice A5 z.length c5] = [enc p] from by rw [HEP.out])); (case aB => exact (wHR_spec_voSorted)); (case aF => exact (fun _ _ => trivial)); (case aO => exact (by (with_reducible repeat (first | apply qA | apply qN | apply qD)); exact HE.out)); (case aS => exact (below_size (wHR_spec_voSorted))); (case aL => have h1_ := LM.out; have h2_ := HYN.out; simp only [List.length_append, List.length_take, List.length_nil, List.length_cons]; omega); intro v35 w35 ho hb hg hat; replace HR := Aside0.mk hb; replace HE := Aside0.mk ho; clear ho hb hg hat) | ((with_reducible refine gate_builtin (b := .append) (xs := #[.tmp 36, .tmp 39]) rfl ?_); at_builtin; refine Kd.R_append_rows (Kd.scalar enc h1) (w0 := wr) wr.heap.size rfl (.tmp 36) (.tmp 39) 45 24 (.slice none 0 0) 24 rfl Tryz.underlying45 info24 rfl Nat.zero_lt_one (by omega) v35 ([] ++ ys.take y.toNat ++ [p]) (ys.drop y.toNat) _ _ _ (fun _ => True) (fun _ => False) rfl rfl ?aO ?aR (fun _ _ h => h) (fun _ h => h.elim) ?aF ?aB ?aS ?aL ?_; (case aR => exact (by have h_ : (Kd.scalar enc h1).C _ (if co = y.toNat then (some ad2) else (some ad2 : Option Addr).map (·.add (y.toNat * 1))) (ys.drop y.toNat).length (ys.drop y.toNat) := Kd.C_drop (m := y.toNat) (Kd.C_below HCo.out (wHR_spec_voSorted)) HYN.out HCO.out; rw [List.length_drop, Nat.mul_one, ← HAF.out] at h_; exact h_)); (case aB => exact (wHR_spec_voSorted)); (case aF => exact (fun _ _ => trivial)); (case aO => exact (by (with_reducible repeat (first | apply qA | apply qN | apply qD)); exact HE.out)); (case aS => exact (below_size (wHR_spec_voSorted))); (case aL => have h1_ := LM.out; have h2_ := HYN.out; simp only [List.length_append, List.length_take, List.length_nil, List.length_cons]; omega); intro v40 w40 ho hb hg hat; replace HR := Aside0.mk hb; replace HE := Aside0.mk ho; clear ho hb hg hat))
      go_roundg k2
      case measure => have := HK1.out; have := HK2.out; omega
      case rel => exact ⟨[] ++ ys.take y.toNat ++ [p] ++ ys.drop y.toNat, wrap64 (x + 1), gR, ⟨spec_voSorted.next HX0.out HXL.out HNL.out HPX.out HZ.out H⟩, ⟨by have := HK1.out; have := HK2.out; omega⟩, ⟨by have := HX0.out; have := HXL.out; have := HNL.out; unfold wrap64; omega⟩, ⟨by (with_reducible repeat (first | apply qA | apply qN | apply qD)); exact Kd.R_lower HE.out (below_size HB.out)⟩, ⟨spec_voSorted.perm HX0.out HXL.out HNL.out HPX.out HYN.out HP.out⟩, ⟨HB.out.trans (HR.out.mono (below_size HB.out))⟩⟩
def spec_pwMember.f (k : Nat) (a0_0 : Int) (l0_1 : List Int) (a1 : Int) : Option (Bool) := (spec_voGood.f k a0_0 l0_1).bind fun t102 => (if t102 = true then ((spec_l1In.f a1 0 (wrap64 ((l0_1.length : Int) - 1))).bind fun t103 => (some t103)) else (some false))
theorem spec_pwMember.calls (k : Nat) (a0_0 : Int) (A0_1 : Option Addr) (c0_1 : Nat) (l0_1 : List Int) (a1 : Int) (r : Bool) (w : World) (hr0_1 : Kd.C (Kd.int .i64) w A0_1 l0_1.length l0_1) (hc0_1 : l0_1.length ≤ c0_1) (h : spec_pwMember.f k a0_0 l0_1 a1 = some r) :
  Calls Tryz.prog 168 #[.agg #[.int .i64 a0_0, .slice A0_1 l0_1.length c0_1], .int .i64 a1] w fun e w' => e = .returned (.bool r) ∧ Below w.heap.size w w' := by
 have hu26 := Tryz.underlying26
 have HR0_1 := Aside0.mk hr0_1
 have HC0_1 := Aside0.mk hc0_1
 clear hr0_1 hc0_1
 have HB := Aside0.mk (Below.refl w.heap.size w)
 have H := h
 unfold spec_pwMember.f at H
 clear h
 replace H := oA H
 obtain ⟨t102, A3, H⟩ := H
 (try dsimp only at H)
 by_cases c4 : t102 = true
 rotate_left
 ·replace c4 := Bool.eq_false_iff.mpr c4
  subst c4
  replace H := iF H
  obtain rfl := Option.some.inj H
  go_enter Tryz.func168, Tryz.ntmps168
  go_wp2_with (first | ((with_reducible refine gate_dst (N := 2) rfl ?_); (try (refine gate_guard (by rfl) ?_; dsimp only)); refine xE (N := 2) (cs := #[.int .i64 a0_0, .slice A0_1 l0_1.length c0_1]) (t := 26) ?_; intro gb101 hg w10 BK101 hb; have GW101 : Aside0 (w.heap.size ≤ gb101) := gT hg; have GE101 : Aside0 (w.heap.size ≤ gb101) := gT hg; replace HB := sQ hb; clear hb hg; (try clear hcz9_0 hcz9_1 hfz9_0 hfz9_1); obtain ⟨hcz11_0, hcz11_1, hfz11_0, hfz11_1⟩ := zZ BK101) | ((with_reducible refine gate_callee (f := 129) rfl ?_); refine gL 6 Tryz.func129 #[.agg #[.int .i64 a0_0, .slice A0_1 l0_1.length c0_1]] ?_; (with_reducible refine (spec_voGood.calls k a0_0 _ _ l0_1 false _ ?side1 ?side2 A3.out).mono ?_); (case side1 => have hx_ := (Kd.C_below HR0_1.out HB.out); exact cC); (case side2 => exact HC0_1.out); rintro e w12 ⟨rfl, hb⟩; refine ⟨_, rfl, ?_⟩; replace BK101 := bP BK101 hb; replace HB := sQ hb; (try clear hb)))
  go_ret
  exact ⟨fR, wB⟩
 subst c4
 replace H := iT H
 replace H := oA H
 obtain ⟨t103, A5, H⟩ := H
 (try dsimp only at H)
 obtain rfl := Option.some.inj H
 go_enter Tryz.func168, Tryz.ntmps168
 go_wp2_with (first | ((with_reducible refine gate_dst (N := 2) rfl ?_); (try (refine gate_guard (by rfl) ?_; dsimp only)); refine xE (N := 2) (cs := #[.int .i64 a0_0, .slice A0_1 l0_1.length c0_1]) (t := 26) ?_; intro gb101 hg w6 BK101 hb; have GW101 := gS hg HB; have GE101 := gS hg HB; replace HB := sB HB hb; clear hb hg; obtain ⟨hcz7_0, hcz7_1, hfz7_0, hfz7_1⟩ := zZ BK101) | ((with_reducible refine gate_callee (f := 129) rfl ?_); refine gL 6 Tryz.func129 #[.agg #[.int .i64 a0_0, .slice A0_1 l0_1.length c0_1]] ?_; (with_reducible refine (spec_voGood.calls k a0_0 _ _ l0_1 true _ (Kd.C_below HR0_1.out HB.out) HC0_1.out A3.out).mono ?_); rintro e w8 ⟨rfl, hb⟩; refine ⟨_, rfl, ?_⟩; replace BK101 := bB BK101 hb; replace HB := sB HB hb; (try clear hb); (try clear hcz7_0 hcz7_1 hfz7_0 hfz7_1); obtain ⟨hcz9_0, hcz9_1, hfz9_0, hfz9_1⟩ := zZ BK101) | (go_at_call 156; (with_reducible refine (spec_l1In.calls a1 0 (wrap64 ((l0_1.length : Int) - 1)) t103 _ A5.out).mono ?_); rintro e w' ⟨rfl, ⟨nd, rfl⟩⟩))
 go_ret
 exact ⟨fR, wB⟩
def spec_SwingSets.l0 : Nat → List (List Int) → List Int → Int → Int → Option ((List (List Int)) × Bool)
 | 0, _, _, _, _ => none
 | k + 1, x6, x16, x17, x18 => if x18 < x17 then (if 0 ≤ x18 then (if x18 < (x16.length : Int) then ((spec_voList.f k (rd x16 x18)).bind fun t110 => (if x6.length < 5864062014805 then (spec_SwingSets.l0 k (x6 ++ [t110]) x16 x17 (wrap64 (x18 + 1))) else (none))) else (none)) else (none)) else ((spec_voSorted.f k x6).bind fun t116 => (some (t116, true)))
def spec_SwingSets.f (k : Nat) (a0_0 : Int) (l0_1 : List Int) (a1 : Int) : Option ((List (List Int)) × Bool) := (spec_pwMember.f k a0_0 l0_1 a1).bind fun t102 => (if t102 = true then ((spec_voWins.f k a0_0 l0_1).bind fun t103 => ((spec_pwSwings.f k t103 a1).bind fun t106 => (spec_SwingSets.l0 k ([] : List (List Int)) t106 (t106.length : Int) 0))) else (some (([] : List (List Int)), false)))
theorem spec_SwingSets.calls (k : Nat) (a0_0 : Int) (A0_1 : Option Addr) (c0_1 : Nat) (l0_1 : List Int) (a1 : Int) (r1 : List (List Int)) (r2 : Bool) (w : World) (hr0_1 : Kd.C (Kd.int .i64) w A0_1 l0_1.length l0_1) (hc0_1 : l0_1.length ≤ c0_1) (h : spec_SwingSets.f k a0_0 l0_1 a1 = some (r1, r2)) :
  Calls Tryz.prog 78 #[.agg #[.int .i64 a0_0, .slice A0_1 l0_1.length c0_1], .int .i64 a1] w fun e w' => ∃ v0_ : Value, e = .returned (.tuple #[v0_, .bool r2]) ∧ Kd.S (Kd.slice 3 (Kd.int .i64)) 24 w' w.heap.size (fun _ => True) v0_ r1 ∧ Below w.heap.size w w' := by
 have hu26 := Tryz.underlying26
 have HR0_1 := Aside0.mk hr0_1
 have HC0_1 := Aside0.mk hc0_1
 clear hr0_1 hc0_1
 have HB := Aside0.mk (Below.refl w.heap.size w)
 have H := h
 unfold spec_SwingSets.f at H
 clear h
 replace H := oA H
 obtain ⟨t102, A3, H⟩ := H
 (try dsimp only at H)
 by_cases c4 : t102 = true
 rotate_left
 ·replace c4 := Bool.eq_false_iff.mpr c4
  subst c4
  replace H := iF H
  simp only [Option.some.injEq, Prod.mk.injEq] at H
  obtain ⟨rfl, rfl⟩ := H
  go_enter Tryz.func78, Tryz.ntmps78
  go_wp2_with (first | ((with_reducible refine gate_dst (N := 2) rfl ?_); refine xE (N := 2) (cs := #[.int .i64 a0_0, .slice A0_1 l0_1.length c0_1]) (t := 26) ?_; intro gb101 hg w26 BK101 hb; have GW101 := gS hg HB; have GE101 := gS hg HB; replace HB := sB HB hb; clear hb hg; obtain ⟨hcz27_0, hcz27_1, hfz27_0, hfz27_1⟩ := zZ BK101) | ((with_reducible refine gate_callee (f := 168) rfl ?_); refine gL 11 Tryz.func168 #[.agg #[.int .i64 a0_0, .slice A0_1 l0_1.length c0_1], .int .i64 a1] ?_; (with_reducible refine (spec_pwMember.calls k a0_0 _ _ l0_1 a1 false _ (Kd.C_below HR0_1.out HB.out) HC0_1.out A3.out).mono ?_); rintro e w28 ⟨rfl, hb⟩; refine ⟨_, rfl, ?_⟩; replace BK101 := bB BK101 hb; replace HB := sB HB hb; (try clear hb)))
  go_ret2
  exact ⟨_, fR, by first | exact Kd.S_nil _ _ _ _ _ | exact Kd.N_nil _ _ _ _ _ | exact Kd.V_nil _ _ _ _ _ | exact Kd.Q_nil _ _ _ _ _ | exact Kd.R_nil _ _ _ _ _, wB⟩
 subst c4
 replace H := iT H
 replace H := oA H
 obtain ⟨t103, A5, H⟩ := H
 (try dsimp only at H)
 replace H := oA H
 obtain ⟨t106, A6, H⟩ := H
 (try dsimp only at H)
 have H' := Aside0.mk H
 clear H
 go_enter Tryz.func78, Tryz.ntmps78
 go_wp2_with (first | ((with_reducible refine gate_dst (N := 2) rfl ?_); refine xE (N := 2) (cs := #[.int .i64 a0_0, .slice A0_1 l0_1.length c0_1]) (t := 26) ?_; intro gb101 hg w7 BK101 hb; have GW101 := gS hg HB; have GE101 := gS hg HB; replace HB := sB HB hb; clear hb hg; obtain ⟨hcz8_0, hcz8_1, hfz8_0, hfz8_1⟩ := zZ BK101) | ((with_reducible refine gate_callee (f := 168) rfl ?_); refine gL 11 Tryz.func168 #[.agg #[.int .i64 a0_0, .slice A0_1 l0_1.length c0_1], .int .i64 a1] ?_; (with_reducible refine (spec_pwMember.calls k a0_0 _ _ l0_1 a1 true _ (Kd.C_below HR0_1.out HB.out) HC0_1.out A3.out).mono ?_); rintro e w9 ⟨rfl, hb⟩; refine ⟨_, rfl, ?_⟩; replace BK101 := bB BK101 hb; replace HB := sB HB hb; (try clear hb); (try clear hcz8_0 hcz8_1 hfz8_0 hfz8_1); obtain ⟨hcz10_0, hcz10_1, hfz10_0, hfz10_1⟩ := zZ BK101) | ((with_reducible refine gate_callee (f := 141) rfl ?_); refine gL 14 Tryz.func141 #[.agg #[.int .i64 a0_0, .slice A0_1 l0_1.length c0_1]] ?_; (with_reducible refine (spec_voWins.calls k a0_0 _ _ l0_1 t103 _ (Kd.C_below HR0_1.out HB.out) HC0_1.out A5.out).mono ?_); rintro e w11 ⟨v104, rfl, ho0, hb⟩; refine ⟨_, rfl, ?_⟩; have HO105 := Aside0.mk (Kd.R_lower ho0 (below_size HB.out)); replace BK101 := bB BK101 hb; replace HB := sB HB hb; (try clear hb); (try clear ho0); obtain ⟨Ao12, co12, eo12⟩ := Kd.R_slice HO105.out; subst eo12) | ((with_reducible refine gate_callee (f := 169) rfl ?_); refine gL 16 Tryz.func169 #[.slice Ao12 t103.length co12, .int .i64 a1] ?_; (with_reducible refine (spec_pwSwings.calls k _ _ t103 a1 t106 _ ?side1 ?side2 A6.out).mono ?_); (case side1 => have hx_ := (Kd.R_reads' HO105.out).2.2; exact cC); (case side2 => exact (Kd.R_reads' HO105.out).2.1); rintro e w13 ⟨v107, rfl, ho0, hb⟩; refine ⟨_, rfl, ?_⟩; have HO108 := Aside0.mk (Kd.R_lower ho0 (below_size HB.out)); replace HO105 := rB HO105 hb; replace BK101 := bB BK101 hb; replace HB := sB HB hb; (try clear hb); (try clear ho0); obtain ⟨Ao14, co14, eo14⟩ := Kd.R_slice HO108.out; subst eo14))
 go_loopg [6, 18] k (fun kq v6 v18 w' => ∃ (x6_1 : List (List Int)) (x18_1 : Int), v18 = .int .i64 x18_1 ∧ Aside0 (spec_SwingSets.l0 kq x6_1 t106 (t106.length : Int) x18_1 = some (r1, r2)) ∧ Aside0 (kq ≤ k) ∧ Aside0 (Kd.S (Kd.slice 3 (Kd.int .i64)) 24 w' w.heap.size (fun k_ => nb (.slice Ao14 t106.length co14) k_) v6 x6_1) ∧ Aside0 (Kd.R (Kd.int .i64) 3 w' w.heap.size (fun _ => True) (.slice Ao14 t106.length co14) t106) ∧ Aside0 (w'.heap[gb101]? = some (.cells #[.int .i64 a0_0, (.slice A0_1 l0_1.length c0_1)] 26 (0, 0))) ∧ Aside0 (Below w.heap.size w w'))
 case atStart => exact ⟨(([] : List (List Int))), (0), gR, H', ⟨Nat.le_refl _⟩, ⟨by first | exact Kd.S_nil _ _ _ _ _ | exact Kd.N_nil _ _ _ _ _ | exact Kd.V_nil _ _ _ _ _ | exact Kd.Q_nil _ _ _ _ _ | exact Kd.R_nil _ _ _ _ _⟩, ⟨by exact HO108.out⟩, ⟨by exact BK101.out⟩, ⟨wB⟩⟩
 case round =>
  clear H'
  (try clear c1); (try clear p2); (try clear c4); (try clear c7); (try clear c14); (try clear hcz10_0); (try clear hcz10_1); (try clear hfz10_0); (try clear hfz10_1)
  obtain ⟨x6_1, x18_1, rfl, HA, HK1, HO_6, HO_16, BK101, HB⟩ := hrel
  cases gk with
  | zero => exact absurd HA.out (by simp [spec_SwingSets.l0])
  | succ k1 =>
   have H := HA.out
   clear HA
   simp only [spec_SwingSets.l0] at H
   by_cases c15 : x18_1 < (t106.length : Int)
   rotate_left
   ·rw [if_neg c15] at H
    have c15b0 : decide (x18_1 < (t106.length : Int)) = false := decide_eq_false c15
    clear c15
    replace H := oA H
    obtain ⟨t116, A23, H⟩ := H
    (try dsimp only at H)
    simp only [Option.some.injEq, Prod.mk.injEq] at H
    obtain ⟨rfl, rfl⟩ := H
    obtain ⟨Ao24, co24, eo24⟩ := Kd.S_slice HO_6.out
    subst eo24
    go_wp2_with (first | ((with_reducible refine gate_callee (f := 147) rfl ?_); refine gL 29 Tryz.func147 #[.slice Ao24 x6_1.length co24] ?_; (with_reducible refine (spec_voSorted.calls k1 w.heap.size _ _ x6_1 t116 _ (by exact Kd.S_mono HO_6.out (fun _ _ => trivial)) (below_size HB.out) A23.out).mono ?_); rintro e w25 ⟨v117, rfl, ho0, hb⟩; refine ⟨_, rfl, ?_⟩; have n1_ := rB HO_16 hb; have n2_ := Aside0.mk ho0; have n3_ := bB BK101 hb; have n4_ := sB HB hb; clear HO_6; clear HO_16; clear BK101; clear HB; have HO_16 := n1_; have HO118 := n2_; have BK101 := n3_; have HB := n4_; clear n1_ n2_ n3_ n4_; (try clear hb); (try clear ho0)))
    go_ret2
    exact ⟨_, fR, by exact Kd.S_mono HO118.out (fun _ hk => trivial), wB⟩
   rw [if_pos c15] at H
   have c15b0 := decide_eq_true c15
   clear c15
   by_cases c16 : 0 ≤ x18_1
   rotate_left
   ·rw [if_neg c16] at H
    exact absurd H (by simp)
   rw [if_pos c16] at H
   have c16b0 := decide_eq_true c16
   clear c16
   by_cases c17 : x18_1 < (t106.length : Int)
   rotate_left
   ·rw [if_neg c17] at H
    exact absurd H (by simp)
   rw [if_pos c17] at H
   have c17b0 := decide_eq_true c17
   clear c17
   replace H := oA H
   obtain ⟨t110, A18, H⟩ := H
   (try dsimp only at H)
   by_cases c19 : x6_1.length < 5864062014805
   rotate_left
   ·rw [if_neg c19] at H
    exact absurd H (by simp)
   rw [if_pos c19] at H
   have LMc19 := Aside0.mk c19
   clear c19
   obtain ⟨y113, hy113⟩ : ∃ y_ : List (List Int), y_ = (x6_1 ++ [t110]) := ⟨_, rfl⟩
   replace H : (spec_SwingSets.l0 k1 y113 t106 (t106.length : Int) (wrap64 (x18_1 + 1))) = some (r1, r2) := by first | (rw [hy113]; with_reducible exact H) | (have H2_ := (Option.bind_some _ _).symm.trans H; rw [hy113]; with_reducible exact H2_) | (have H2_ := (Option.bind_some _ _).symm.trans H; with_reducible exact H2_) | with_reducible exact H | (rw [hy113]; exact H) | exact H
   have Ny113 := Aside0.mk hy113
   clear hy113
   have H' := Aside0.mk H
   clear H
   have p109 : 0 ≤ (x18_1 : Int) := oD
   have q109 : x18_1 < (t106.length : Int) := oD
   obtain ⟨ad109, e109, hx109_0⟩ := Kd.at_int (Kd.R_reads' HO_16.out).2.2 x18_1 p109 q109
   cases e109
   replace p109 := eq_true p109
   replace q109 := eq_true q109
   go_wp2_with (first | ((with_reducible refine gate_callee (f := 146) rfl ?_); refine gL 24 Tryz.func146 #[.int .i64 (rd t106 x18_1)] ?_; (with_reducible refine (spec_voList.calls k1 (rd t106 x18_1) t110 _ A18.out).mono ?_); rintro e w20 ⟨v111, rfl, ho0, hb⟩; refine ⟨_, rfl, ?_⟩; have HO112 := Aside0.mk (Kd.R_lower (Kd.R_new' ho0 (Kd.R_lt HO_16.out)) (below_size HB.out)); replace HO_6 := tE HO_6 (Kd.R_base ho0) hb; replace HO_16 := rE HO_16 (Kd.R_base ho0) hb; replace BK101 := bB BK101 hb; replace HB := sB HB hb; (try clear hb); (try clear ho0); obtain ⟨Ao22, co22, eo22⟩ := Kd.R_slice HO112.out; subst eo22) | ((with_reducible refine gate_builtin (b := .append) (xs := #[.tmp 22, .tmp 25]) rfl ?_); at_builtin; refine Kd.S_append (Kd.slice 3 (Kd.int .i64)) (w0 := w) w.heap.size rfl (.tmp 22) (.tmp 25) 45 24 (.slice none 0 0) 24 rfl Tryz.underlying45 info24 rfl (by decide) (by omega) u6 x6_1 t110 [.slice Ao22 t110.length co22] (fun k_ => nb (.slice (some ad109) t106.length co14) k_) (fun k_ => some k_ = (.slice Ao22 t110.length co22 : Value).ownBlock) rfl rfl ?aP (fun k_ hk_ => ((Kd.R_mono (ok' := fun k_ => ((fun k_ => nb (.slice (some ad109) t106.length co14) k_)) k_ ∧ nb u6 k_) (Kd.R_apart' (HO112.out) (Kd.S_typed HO_6.out) (by decide)) (fun k_ hk => ⟨hk.1.2, hk.2⟩))).1 k_ hk_.symm) ?aF ?aO ?aB ?aS ?aL ?_; (case aP => exact Kd.M_row (Kd.R_mono (Kd.R_tight rfl (Kd.R_mono (ok' := fun k_ => ((fun k_ => nb (.slice (some ad109) t106.length co14) k_)) k_ ∧ nb u6 k_) (Kd.R_apart' (HO112.out) (Kd.S_typed HO_6.out) (by decide)) (fun k_ hk => ⟨hk.1.2, hk.2⟩))) (fun _ h_ => h_))); (case aB => exact HB.out); (case aF => exact (fun k_ hk => Kd.fresh' (Kd.R_lt HO_16.out) k_ hk)); (case aO => exact (by exact Kd.S_mono HO_6.out (fun k_ hk => ⟨hk.1, fun e_ => hk.2 e_⟩))); (case aS => exact (below_size HB.out)); (case aL => have := LMc19.out; omega); intro v114 w21 ho hb hg hat; rw [← Ny113.out] at ho; have HO115 := Aside0.mk (ho); replace HO_16 := Aside0.mk (Kd.R_over' HO_16.out (Kd.S_typed HO_6.out) (by decide) hg); replace BK101 := Aside0.mk (blk_grown (g := gb101) (o := .cells #[.int .i64 a0_0, .slice A0_1 l0_1.length c0_1] 26 (0, 0)) BK101.out hg (Kd.S_ne HO_6.out BK101.out (by decide))); replace HB := Aside0.mk (hb); clear ho hb hg hat))
   go_roundg k1
   case measure => have := HK1.out; omega
   case rel => exact ⟨(y113), (wrap64 (x18_1 + 1)), gR, H', ⟨by have := HK1.out; omega⟩, ⟨by exact HO115.out⟩, ⟨by exact Kd.R_mono HO_16.out (fun _ hk => trivial)⟩, ⟨by exact BK101.out⟩, ⟨wB⟩⟩
def spec_SwingsBySize.l0 : Nat → List Int → List Int → Int → Int → Option (List Int × Bool)
 | 0, _, _, _, _ => none
 | k + 1, x6, x20, x21, x22 => if x22 < x21 then (if 0 ≤ x22 then (if x22 < (x20.length : Int) then ((spec_voList.f k (rd x20 x22)).bind fun t113 => (if 0 ≤ (t113.length : Int) then (if (t113.length : Int) < (x6.length : Int) then (spec_SwingsBySize.l0 k (x6.set ((t113.length : Int) : Int).toNat (wrap64 ((rd x6 (t113.length : Int)) + 1))) x20 x21 (wrap64 (x22 + 1))) else (none)) else (none))) else (none)) else (none)) else (some (x6, true))
def spec_SwingsBySize.f (k : Nat) (a0_0 : Int) (l0_1 : List Int) (a1 : Int) : Option (List Int × Bool) := (spec_pwMember.f k a0_0 l0_1 a1).bind fun t102 => (if t102 = true then (if 0 ≤ (l0_1.length : Int) then (if ((l0_1.length : Int) : Int).toNat ≤ 35184372088832 then ((spec_voWins.f k a0_0 l0_1).bind fun t106 => ((spec_pwSwings.f k t106 a1).bind fun t109 => (spec_SwingsBySize.l0 k (List.replicate ((l0_1.length : Int) : Int).toNat 0) t109 (t109.length : Int) 0))) else (none)) else (none)) else (some (([] : List Int), false)))
theorem spec_SwingsBySize.calls (k : Nat) (a0_0 : Int) (A0_1 : Option Addr) (c0_1 : Nat) (l0_1 : List Int) (a1 : Int) (r1 : List Int) (r2 : Bool) (w : World) (hr0_1 : Kd.C (Kd.int .i64) w A0_1 l0_1.length l0_1) (hc0_1 : l0_1.length ≤ c0_1) (h : spec_SwingsBySize.f k a0_0 l0_1 a1 = some (r1, r2)) :
  Calls Tryz.prog 79 #[.agg #[.int .i64 a0_0, .slice A0_1 l0_1.length c0_1], .int .i64 a1] w fun e w' => ∃ v0_ : Value, e = .returned (.tuple #[v0_, .bool r2]) ∧ Kd.R (Kd.int .i64) 3 w' w.heap.size (fun _ => True) v0_ r1 ∧ Below w.heap.size w w' := by
 have hu26 := Tryz.underlying26
 have HR0_1 := Aside0.mk hr0_1
 have HC0_1 := Aside0.mk hc0_1
 clear hr0_1 hc0_1
 have HB := Aside0.mk (Below.refl w.heap.size w)
 have H := h
 unfold spec_SwingsBySize.f at H
 clear h
 replace H := oA H
 obtain ⟨t102, A3, H⟩ := H
 (try dsimp only at H)
 by_cases c4 : t102 = true
 rotate_left
 ·replace c4 := Bool.eq_false_iff.mpr c4
  subst c4
  replace H := iF H
  simp only [Option.some.injEq, Prod.mk.injEq] at H
  obtain ⟨rfl, rfl⟩ := H
  go_enter Tryz.func79, Tryz.ntmps79
  go_wp2_with (first | ((with_reducible refine gate_dst (N := 2) rfl ?_); refine xE (N := 2) (cs := #[.int .i64 a0_0, .slice A0_1 l0_1.length c0_1]) (t := 26) ?_; intro gb101 hg w32 BK101 hb; have GW101 := gS hg HB; have GE101 := gS hg HB; replace HB := sB HB hb; clear hb hg; obtain ⟨hcz33_0, hcz33_1, hfz33_0, hfz33_1⟩ := zZ BK101) | ((with_reducible refine gate_callee (f := 168) rfl ?_); refine gL 11 Tryz.func168 #[.agg #[.int .i64 a0_0, .slice A0_1 l0_1.length c0_1], .int .i64 a1] ?_; (with_reducible refine (spec_pwMember.calls k a0_0 _ _ l0_1 a1 false _ (Kd.C_below HR0_1.out HB.out) HC0_1.out A3.out).mono ?_); rintro e w34 ⟨rfl, hb⟩; refine ⟨_, rfl, ?_⟩; replace BK101 := bB BK101 hb; replace HB := sB HB hb; (try clear hb)))
  go_ret2
  exact ⟨_, fR, by first | exact Kd.R_nil _ _ _ _ _ | exact Kd.N_nil _ _ _ _ _ | exact Kd.V_nil _ _ _ _ _ | exact Kd.Q_nil _ _ _ _ _ | exact Kd.S_nil _ _ _ _ _, wB⟩
 subst c4
 replace H := iT H
 by_cases c5 : 0 ≤ (l0_1.length : Int)
 rotate_left
 ·rw [if_neg c5] at H
  exact absurd H (by simp)
 rw [if_pos c5] at H
 have c5b0 := eq_true c5
 have c5b1 := decide_eq_true c5
 clear c5
 by_cases c6 : ((l0_1.length : Int) : Int).toNat ≤ 35184372088832
 rotate_left
 ·rw [if_neg c6] at H
  exact absurd H (by simp)
 rw [if_pos c6] at H
 have c6b0 := eq_true c6
 have c6b1 := decide_eq_true c6
 clear c6
 obtain ⟨y103, hy103⟩ : ∃ y_ : List Int, y_ = (List.replicate ((l0_1.length : Int) : Int).toNat 0) := ⟨_, rfl⟩
 replace H : ((spec_voWins.f k a0_0 l0_1).bind fun t106 => ((spec_pwSwings.f k t106 a1).bind fun t109 => (spec_SwingsBySize.l0 k y103 t109 (t109.length : Int) 0))) = some (r1, r2) := by first | (rw [hy103]; with_reducible exact H) | (have H2_ := (Option.bind_some _ _).symm.trans H; rw [hy103]; with_reducible exact H2_) | (have H2_ := (Option.bind_some _ _).symm.trans H; with_reducible exact H2_) | with_reducible exact H | (rw [hy103]; exact H) | exact H
 have Ny103 := Aside0.mk hy103
 clear hy103
 replace H := oA H
 obtain ⟨t106, A7, H⟩ := H
 (try dsimp only at H)
 replace H := oA H
 obtain ⟨t109, A8, H⟩ := H
 (try dsimp only at H)
 have H' := Aside0.mk H
 clear H
 go_enter Tryz.func79, Tryz.ntmps79
 go_wp2_with (first | ((with_reducible refine gate_dst (N := 2) rfl ?_); refine xE (N := 2) (cs := #[.int .i64 a0_0, .slice A0_1 l0_1.length c0_1]) (t := 26) ?_; intro gb101 hg w9 BK101 hb; have GW101 := gS hg HB; have GE101 := gS hg HB; replace HB := sB HB hb; clear hb hg; obtain ⟨hcz10_0, hcz10_1, hfz10_0, hfz10_1⟩ := zZ BK101) | ((with_reducible refine gate_callee (f := 168) rfl ?_); refine gL 11 Tryz.func168 #[.agg #[.int .i64 a0_0, .slice A0_1 l0_1.length c0_1], .int .i64 a1] ?_; (with_reducible refine (spec_pwMember.calls k a0_0 _ _ l0_1 a1 true _ (Kd.C_below HR0_1.out HB.out) HC0_1.out A3.out).mono ?_); rintro e w11 ⟨rfl, hb⟩; refine ⟨_, rfl, ?_⟩; replace BK101 := bB BK101 hb; replace HB := sB HB hb; (try clear hb); (try clear hcz10_0 hcz10_1 hfz10_0 hfz10_1); obtain ⟨hcz12_0, hcz12_1, hfz12_0, hfz12_1⟩ := zZ BK101) | ((with_reducible refine gate_dst (N := 16) rfl ?_); refine Kd.R_make (Kd.int .i64) _ 3 rfl (N := 16) rfl 24 _ _ rfl (l0_1.length : Int) rfl rfl Tryz.underlying24 (.int .i64 0) 8 info3 rfl (by decide) (by omega) 0 (ok := fun _ => True) (okp := fun _ => True) rfl (fun _ hk => hk) trivial (oD) (Nat.le_trans (Nat.mul_le_mul_right _ (oD : (l0_1.length : Int).toNat ≤ 35184372088832)) (by omega)) (Below.refl _ _) (Nat.le_refl _) ?_; intro v104 w13 ho14 hb hg_ hnew_; clear hg_ hnew_; (first | rw [← Ny103.out] at ho14 | (simp only [Int.reduceToNat] at ho14; rw [← Ny103.out] at ho14)); have HO105 := Aside0.mk (Kd.R_lower ho14 (below_size HB.out)); replace BK101 := bB BK101 hb; replace HB := sB HB hb; clear hb ho14; (try clear hcz12_0 hcz12_1 hfz12_0 hfz12_1); obtain ⟨hcz15_0, hcz15_1, hfz15_0, hfz15_1⟩ := zZ BK101) | ((with_reducible refine gate_callee (f := 141) rfl ?_); refine gL 18 Tryz.func141 #[.agg #[.int .i64 a0_0, .slice A0_1 l0_1.length c0_1]] ?_; (with_reducible refine (spec_voWins.calls k a0_0 _ _ l0_1 t106 _ (Kd.C_below HR0_1.out HB.out) HC0_1.out A7.out).mono ?_); rintro e w16 ⟨v107, rfl, ho0, hb⟩; refine ⟨_, rfl, ?_⟩; have HO108 := Aside0.mk (Kd.R_lower ho0 (below_size HB.out)); replace HO105 := rB HO105 hb; replace BK101 := bB BK101 hb; replace HB := sB HB hb; (try clear hb); (try clear ho0); obtain ⟨Ao17, co17, eo17⟩ := Kd.R_slice HO108.out; subst eo17) | ((with_reducible refine gate_callee (f := 169) rfl ?_); refine gL 20 Tryz.func169 #[.slice Ao17 t106.length co17, .int .i64 a1] ?_; (with_reducible refine (spec_pwSwings.calls k _ _ t106 a1 t109 _ ?side1 ?side2 A8.out).mono ?_); (case side1 => have hx_ := (Kd.R_reads' HO108.out).2.2; exact cC); (case side2 => exact (Kd.R_reads' HO108.out).2.1); rintro e w18 ⟨v110, rfl, ho0, hb⟩; refine ⟨_, rfl, ?_⟩; have HO111 := Aside0.mk (Kd.R_lower (Kd.R_new' ho0 (Kd.R_lt HO105.out)) (below_size HB.out)); replace HO105 := rE HO105 (Kd.R_base ho0) hb; replace HO108 := rB HO108 hb; replace BK101 := bB BK101 hb; replace HB := sB HB hb; (try clear hb); (try clear ho0); obtain ⟨Ao19, co19, eo19⟩ := Kd.R_slice HO111.out; subst eo19))
 go_loopg [22] k (fun kq v22 w' => ∃ (x6_1 : List Int) (x22_1 : Int), v22 = .int .i64 x22_1 ∧ Aside0 (spec_SwingsBySize.l0 kq x6_1 t109 (t109.length : Int) x22_1 = some (r1, r2)) ∧ Aside0 (kq ≤ k) ∧ Aside0 (Kd.R (Kd.int .i64) 3 w' w.heap.size (fun k_ => nb (.slice Ao19 t109.length co19) k_) v104 x6_1) ∧ Aside0 (Kd.R (Kd.int .i64) 3 w' w.heap.size (fun k_ => nb v104 k_) (.slice Ao19 t109.length co19) t109) ∧ Aside0 (w'.heap[gb101]? = some (.cells #[.int .i64 a0_0, (.slice A0_1 l0_1.length c0_1)] 26 (0, 0))) ∧ Aside0 (Below w.heap.size w w'))
 case atStart => exact ⟨(y103), (0), gR, H', ⟨Nat.le_refl _⟩, ⟨by exact Kd.R_mono HO105.out (fun _ hk => hk.2)⟩, ⟨by exact Kd.R_mono HO111.out (fun _ hk => hk.2)⟩, ⟨by exact BK101.out⟩, ⟨wB⟩⟩
 case round =>
  clear H'
  (try clear c1); (try clear p2); (try clear c4); (try clear c5); (try clear c5b0); (try clear c5b1); (try clear c6); (try clear c6b0); (try clear c6b1); (try clear c7); (try clear c14); (try clear c16); (try clear hcz15_0); (try clear hcz15_1); (try clear hfz15_0); (try clear hfz15_1)
  obtain ⟨x6_1, x22_1, rfl, HA, HK1, HO_6, HO_20, BK101, HB⟩ := hrel
  cases gk with
  | zero => exact absurd HA.out (by simp [spec_SwingsBySize.l0])
  | succ k1 =>
   have H := HA.out
   clear HA
   simp only [spec_SwingsBySize.l0] at H
   by_cases c20 : x22_1 < (t109.length : Int)
   rotate_left
   ·rw [if_neg c20] at H
    have c20b0 : decide (x22_1 < (t109.length : Int)) = false := decide_eq_false c20
    clear c20
    simp only [Option.some.injEq, Prod.mk.injEq] at H
    obtain ⟨rfl, rfl⟩ := H
    go_wp2
    go_ret2
    exact ⟨_, fR, by exact Kd.R_mono HO_6.out (fun _ hk => trivial), wB⟩
   rw [if_pos c20] at H
   have c20b0 := decide_eq_true c20
   clear c20
   by_cases c21 : 0 ≤ x22_1
   rotate_left
   ·rw [if_neg c21] at H
    exact absurd H (by simp)
   rw [if_pos c21] at H
   have c21b0 := decide_eq_true c21
   clear c21
   by_cases c22 : x22_1 < (t109.length : Int)
   rotate_left
   ·rw [if_neg c22] at H
    exact absurd H (by simp)
   rw [if_pos c22] at H
   have c22b0 := decide_eq_true c22
   clear c22
   replace H := oA H
   obtain ⟨t113, A23, H⟩ := H
   (try dsimp only at H)
   by_cases c24 : 0 ≤ (t113.length : Int)
   rotate_left
   ·rw [if_neg c24] at H
    exact absurd H (by simp)
   rw [if_pos c24] at H
   have c24b0 := decide_eq_true c24
   have c24b1 : decide (0 ≤ t113.length) = true := decide_eq_true (by omega)
   clear c24
   by_cases c25 : (t113.length : Int) < (x6_1.length : Int)
   rotate_left
   ·rw [if_neg c25] at H
    exact absurd H (by simp)
   rw [if_pos c25] at H
   have c25b0 := decide_eq_true c25
   have c25b1 : decide (t113.length < x6_1.length) = true := decide_eq_true (Int.ofNat_lt.mp c25)
   clear c25
   obtain ⟨y117, hy117⟩ : ∃ y_ : List Int, y_ = (x6_1.set ((t113.length : Int) : Int).toNat (wrap64 ((rd x6_1 (t113.length : Int)) + 1))) := ⟨_, rfl⟩
   replace H : (spec_SwingsBySize.l0 k1 y117 t109 (t109.length : Int) (wrap64 (x22_1 + 1))) = some (r1, r2) := by first | (rw [hy117]; with_reducible exact H) | (have H2_ := (Option.bind_some _ _).symm.trans H; rw [hy117]; with_reducible exact H2_) | (have H2_ := (Option.bind_some _ _).symm.trans H; with_reducible exact H2_) | with_reducible exact H | (rw [hy117]; exact H) | exact H
   have Ny117 := Aside0.mk hy117
   clear hy117
   have H' := Aside0.mk H
   clear H
   have p112 : 0 ≤ (x22_1 : Int) := oD
   have q112 : x22_1 < (t109.length : Int) := oD
   obtain ⟨ad112, e112, hx112_0⟩ := Kd.at_int (Kd.R_reads' HO_20.out).2.2 x22_1 p112 q112
   cases e112
   replace p112 := eq_true p112
   replace q112 := eq_true q112
   go_wp2_with (first | ((with_reducible refine gate_callee (f := 146) rfl ?_); refine gL 28 Tryz.func146 #[.int .i64 (rd t109 x22_1)] ?_; (with_reducible refine (spec_voList.calls k1 (rd t109 x22_1) t113 _ A23.out).mono ?_); rintro e w27 ⟨v114, rfl, ho0, hb⟩; refine ⟨_, rfl, ?_⟩; have HO115 := Aside0.mk (Kd.R_lower (Kd.R_new' (Kd.R_new' ho0 (Kd.R_lt HO_6.out)) (Kd.R_lt HO_20.out)) (below_size HB.out)); replace HO_6 := rE HO_6 (Kd.R_base ho0) hb; replace HO_20 := rE HO_20 (Kd.R_base ho0) hb; replace BK101 := bB BK101 hb; replace HB := sB HB hb; (try clear hb); (try clear ho0); obtain ⟨Ao28, co28, eo28⟩ := Kd.R_slice HO115.out; subst eo28; obtain ⟨Ao29, co29, eo29⟩ := Kd.R_slice HO_6.out; subst eo29; have p116 : 0 ≤ ((t113.length : Int) : Int) := oD; have q116 : (t113.length : Int) < (x6_1.length : Int) := oD; obtain ⟨ad116, e116, hx116_0⟩ := Kd.at_int (Kd.R_reads' HO_6.out).2.2 (t113.length : Int) p116 q116; cases e116; (try simp only [Go.IntWalk.toNatUp] at hx116_0); replace p116 := eq_true p116; replace q116 := eq_true q116; have p26 : 0 ≤ ((t113.length : Int) : Int) := oD; have q26 : ((t113.length : Int) : Int) < ((x6_1.length : Int) : Int) := oD; obtain ⟨go26, co26, eo26, gb26, gl26, cl26, HG26⟩ := Kd.R_form HO_6.out (by omega); (first | cases eo26 | (injection eo26 with ea_ en_ ec_; (first | subst ea_ | (injection ea_ with ea_; subst ea_)); subst ec_; clear en_)); have GB26 := Aside0.mk gb26; have GG26 := Aside0.mk HG26; clear gb26 gl26 HG26; (first | simp only [add_plain] at hx116_0 | skip); obtain ⟨hx26_0, hf26_0⟩ := Kd.R_celln 0 HO_6.out ((t113.length : Int) : Int) p26 q26; replace p26 := eq_true p26; replace q26 := eq_true q26; obtain ⟨hy30_, hz30_⟩ := Kd.R_celln 0 HO_6.out ((t113.length : Int) : Int) (oD) (oD); (try simp only [Go.IntWalk.toNatUp] at hy30_ hz30_); have HP30 := Kd.R_putg HO_6.out ((t113.length : Int) : Int) (wrap64 ((rd x6_1 (t113.length : Int)) + 1))) | ((with_reducible refine gate_store (t := 3) (p := 33) rfl ?_); refine sE (t := 3) (p := 33) (w1 := (w27.setCell ⟨go26, ((t113.length : Int) : Int).toNat, none⟩ (.int .i64 (wrap64 ((rd x6_1 (t113.length : Int)) + 1))))) ?_; intro w31 hw; have hg : w27.grownBy w31 (some go26) := (by rw [hw]; exact HP30.2); have hp_ : Kd.R (Kd.int .i64) 3 w31 w.heap.size (fun k_ => nb (.slice (some ad112) t109.length co19) k_ ∧ nb (.slice Ao28 t113.length co28) k_) (.slice (some ⟨go26, 0, none⟩) x6_1.length co29) y117 := (by rw [hw, Ny117.out]; exact HP30.1); clear HP30; replace HO_20 := Aside0.mk (Kd.R_after (v := (.slice (some ⟨go26, 0, none⟩) x6_1.length co29)) (v1 := (.slice (some ⟨go26, 0, none⟩) x6_1.length co29)) (ok := (fun k_ => nb (.slice Ao28 t113.length co28) k_)) (by exact Kd.R_mono HO_20.out (fun _ hk => ⟨hk.2, hk.1⟩)) hg (.inl rfl)); replace BK101 := Aside0.mk (blk_grown (g := gb101) (o := .cells #[.int .i64 a0_0, .slice A0_1 l0_1.length c0_1] 26 (0, 0)) BK101.out hg (Kd.R_ne HO_6.out BK101.out (by decide))); replace HO_6 := Aside0.mk (hp_); replace HO115 := Aside0.mk (Kd.R_after (v := (.slice (some ⟨go26, 0, none⟩) x6_1.length co29)) (v1 := (.slice (some ⟨go26, 0, none⟩) x6_1.length co29)) (ok := (fun k_ => nb (.slice (some ad112) t109.length co19) k_)) (by exact Kd.R_mono HO115.out (fun _ hk => ⟨hk.2, hk.1.2⟩)) hg (.inl rfl)); replace HB := Aside0.mk ((by rw [hw]; exact below_set (HB.out) GB26.out : Below w.heap.size w w31)); clear hg hw hp_))
   go_roundg k1
   case measure => have := HK1.out; omega
   case rel => exact ⟨(y117), (wrap64 (x22_1 + 1)), gR, H', ⟨by have := HK1.out; omega⟩, ⟨by exact Kd.R_mono HO_6.out (fun _ hk => hk.1)⟩, ⟨by exact Kd.R_mono HO_20.out (fun _ hk => hk.2)⟩, ⟨by exact BK101.out⟩, ⟨wB⟩⟩
def laws_zRows.l0 : Nat → List (List Int) → List (List Int) → Int → Int → Option (Bool)
 | 0, _, _, _, _ => none
 | k + 1, x0, x1, x12, x13 => if x13 < x12 then (if 0 ≤ x13 then (if x13 < (x0.length : Int) then (if x13 < (x1.length : Int) then ((laws_zSame.f k (rd_L2 x0 x13) (rd_L2 x1 x13)).bind fun t103 => (if t103 = true then (laws_zRows.l0 k x0 x1 x12 (wrap64 (x13 + 1))) else (some false))) else (none)) else (none)) else (none)) else (some true)
def laws_zRows.f (k : Nat) (l0 : List (List Int)) (l1 : List (List Int)) : Option (Bool) := if (l0.length : Int) = (l1.length : Int) then (laws_zRows.l0 k l0 l1 (l0.length : Int) 0) else (some false)
theorem laws_zRows.calls (k : Nat) (A0 : Option Addr) (c0 : Nat) (l0 : List (List Int)) (A1 : Option Addr) (c1 : Nat) (l1 : List (List Int)) (r : Bool) (w : World) (hr0 : Kd.C (Kd.slice 3 (Kd.int .i64)) w A0 l0.length l0) (hc0 : l0.length ≤ c0) (hr1 : Kd.C (Kd.slice 3 (Kd.int .i64)) w A1 l1.length l1) (hc1 : l1.length ≤ c1) (h : laws_zRows.f k l0 l1 = some r) :
  Calls Tryz.prog 80 #[.slice A0 l0.length c0, .slice A1 l1.length c1] w fun e w' => e = .returned (.bool r) ∧ Drawn0 w w' := by
 have HR0 := Aside0.mk hr0
 have HC0 := Aside0.mk hc0
 clear hr0 hc0
 have HR1 := Aside0.mk hr1
 have HC1 := Aside0.mk hc1
 clear hr1 hc1
 have H := h
 unfold laws_zRows.f at H
 clear h
 by_cases c3 : (l0.length : Int) = (l1.length : Int)
 rotate_left
 ·rw [if_neg c3] at H
  have c3b0 : ((l0.length : Int) == (l1.length : Int)) = false := beq_eq_false_iff_ne.mpr c3
  have c3b1 : ((l0.length : Int) != (l1.length : Int)) = true := bne_iff_ne.mpr c3
  have c3b2 : (l0.length == l1.length) = false := by first | simpa using c3 | (simp at c3 ⊢; omega)
  obtain rfl := Option.some.inj H
  go_enter Tryz.func80, Tryz.ntmps80
  go_wp2
  repeat (go_quiet (fail); try go_wp2)
  go_ret
  exact ⟨by first | rfl | (simp; done) | (simp [*]; done), dS⟩
 rw [if_pos c3] at H
 have c3b0 : ((l0.length : Int) == (l1.length : Int)) = true := beq_iff_eq.mpr c3
 have c3b1 : ((l0.length : Int) != (l1.length : Int)) = false := bne_eq_false_iff_eq.mpr c3
 have c3b2 : (l0.length == l1.length) = true := by first | simpa using c3 | (simp at c3 ⊢; omega)
 clear c3
 have H' := Aside0.mk H
 clear H
 go_enter Tryz.func80, Tryz.ntmps80
 go_wp2
 repeat (go_quiet (fail); try go_wp2)
 go_loopg [13] k (fun kq v13 w' => ∃ (x13_1 : Int), v13 = .int .i64 x13_1 ∧ Aside0 (laws_zRows.l0 kq l0 l1 (l0.length : Int) x13_1 = some r) ∧ Aside0 (kq ≤ k) ∧ Drawn0 w w')
 case atStart => exact ⟨(0), gR, H', ⟨Nat.le_refl _⟩, dS⟩
 case round =>
  clear H'
  (try clear c1); (try clear p2); (try clear c3); (try clear c3b0); (try clear c3b1); (try clear c3b2)
  obtain ⟨x13_1, rfl, HA, HK1, ⟨m1, rfl⟩⟩ := hrel
  cases gk with
  | zero => exact absurd HA.out (by simp [laws_zRows.l0])
  | succ k1 =>
   have H := HA.out
   clear HA
   simp only [laws_zRows.l0] at H
   by_cases c4 : x13_1 < (l0.length : Int)
   rotate_left
   ·rw [if_neg c4] at H
    have c4b0 : decide (x13_1 < (l0.length : Int)) = false := decide_eq_false c4
    clear c4
    obtain rfl := Option.some.inj H
    go_wp2
    repeat (go_quiet (fail); try go_wp2)
    go_ret
    exact ⟨by first | rfl | (simp; done) | (simp [*]; done), dS⟩
   rw [if_pos c4] at H
   have c4b0 := decide_eq_true c4
   clear c4
   by_cases c5 : 0 ≤ x13_1
   rotate_left
   ·rw [if_neg c5] at H
    exact absurd H (by simp)
   rw [if_pos c5] at H
   have c5b0 := decide_eq_true c5
   clear c5
   by_cases c6 : x13_1 < (l0.length : Int)
   rotate_left
   ·rw [if_neg c6] at H
    exact absurd H (by simp)
   rw [if_pos c6] at H
   have c6b0 := decide_eq_true c6
   clear c6
   by_cases c7 : x13_1 < (l1.length : Int)
   rotate_left
   ·rw [if_neg c7] at H
    exact absurd H (by simp)
   rw [if_pos c7] at H
   have c7b0 := decide_eq_true c7
   clear c7
   replace H := oA H
   obtain ⟨t103, A8, H⟩ := H
   (try dsimp only at H)
   by_cases c9 : t103 = true
   ·subst c9
    replace H := iT H
    have H' := Aside0.mk H
    clear H
    have p101 : 0 ≤ (x13_1 : Int) := oD
    have q101 : x13_1 < (l0.length : Int) := oD
    obtain ⟨ad101, A101_0, c101_0, e101, hx101_0, hl101_0, hi101_0⟩ := at_L2 HR0.out x13_1 p101 q101
    cases e101
    have HR101_0 := Aside0.mk hi101_0
    have HC101_0 := Aside0.mk hl101_0
    clear hi101_0 hl101_0
    replace p101 := eq_true p101
    replace q101 := eq_true q101
    have p102 : 0 ≤ (x13_1 : Int) := oD
    have q102 : x13_1 < (l1.length : Int) := oD
    obtain ⟨ad102, A102_0, c102_0, e102, hx102_0, hl102_0, hi102_0⟩ := at_L2 HR1.out x13_1 p102 q102
    cases e102
    have HR102_0 := Aside0.mk hi102_0
    have HC102_0 := Aside0.mk hl102_0
    clear hi102_0 hl102_0
    replace p102 := eq_true p102
    replace q102 := eq_true q102
    go_wp2_with (first | (go_at_call 70; (with_reducible refine (laws_zSame.calls k1 _ _ (rd_L2 l0 x13_1) _ _ (rd_L2 l1 x13_1) true _ HR101_0.out HC101_0.out HR102_0.out HC102_0.out A8.out).mono ?_); rintro e w' ⟨rfl, ⟨nd, rfl⟩⟩; (try exact dR)))
    repeat (go_quiet (first | (go_at_call 70; (with_reducible refine (laws_zSame.calls k1 _ _ (rd_L2 l0 x13_1) _ _ (rd_L2 l1 x13_1) true _ ?side1 ?side2 ?side3 ?side4 A8.out).mono ?_); (case side1 => have hx_ := HR101_0.out; exact cC); (case side2 => exact HC101_0.out); (case side3 => have hx_ := HR102_0.out; exact cC); (case side4 => exact HC102_0.out); rintro e w' ⟨rfl, ⟨nd, rfl⟩⟩; (try exact dR))); try go_wp2_with (first | (go_at_call 70; (with_reducible refine (laws_zSame.calls k1 _ _ (rd_L2 l0 x13_1) _ _ (rd_L2 l1 x13_1) true _ ?side1 ?side2 ?side3 ?side4 A8.out).mono ?_); (case side1 => have hx_ := HR101_0.out; exact cC); (case side2 => exact HC101_0.out); (case side3 => have hx_ := HR102_0.out; exact cC); (case side4 => exact HC102_0.out); rintro e w' ⟨rfl, ⟨nd, rfl⟩⟩; (try exact dR))))
    go_roundg k1
    case measure => have := HK1.out; omega
    case rel => exact ⟨(wrap64 (x13_1 + 1)), gR, H', ⟨by have := HK1.out; omega⟩, dS⟩
   replace c9 := Bool.eq_false_iff.mpr c9
   subst c9
   replace H := iF H
   obtain rfl := Option.some.inj H
   have p101 : 0 ≤ (x13_1 : Int) := oD
   have q101 : x13_1 < (l0.length : Int) := oD
   obtain ⟨ad101, A101_0, c101_0, e101, hx101_0, hl101_0, hi101_0⟩ := at_L2 HR0.out x13_1 p101 q101
   cases e101
   have HR101_0 := Aside0.mk hi101_0
   have HC101_0 := Aside0.mk hl101_0
   clear hi101_0 hl101_0
   replace p101 := eq_true p101
   replace q101 := eq_true q101
   have p102 : 0 ≤ (x13_1 : Int) := oD
   have q102 : x13_1 < (l1.length : Int) := oD
   obtain ⟨ad102, A102_0, c102_0, e102, hx102_0, hl102_0, hi102_0⟩ := at_L2 HR1.out x13_1 p102 q102
   cases e102
   have HR102_0 := Aside0.mk hi102_0
   have HC102_0 := Aside0.mk hl102_0
   clear hi102_0 hl102_0
   replace p102 := eq_true p102
   replace q102 := eq_true q102
   go_wp2_with (first | (go_at_call 70; (with_reducible refine (laws_zSame.calls k1 _ _ (rd_L2 l0 x13_1) _ _ (rd_L2 l1 x13_1) false _ ?side1 ?side2 ?side3 ?side4 A8.out).mono ?_); (case side1 => have hx_ := HR101_0.out; exact cC); (case side2 => exact HC101_0.out); (case side3 => have hx_ := HR102_0.out; exact cC); (case side4 => exact HC102_0.out); rintro e w' ⟨rfl, ⟨nd, rfl⟩⟩; (try exact dR)))
   repeat (go_quiet (first | (go_at_call 70; (with_reducible refine (laws_zSame.calls k1 _ _ (rd_L2 l0 x13_1) _ _ (rd_L2 l1 x13_1) false _ ?side1 ?side2 ?side3 ?side4 A8.out).mono ?_); (case side1 => have hx_ := HR101_0.out; exact cC); (case side2 => exact HC101_0.out); (case side3 => have hx_ := HR102_0.out; exact cC); (case side4 => exact HC102_0.out); rintro e w' ⟨rfl, ⟨nd, rfl⟩⟩; (try exact dR))); try go_wp2_with (first | (go_at_call 70; (with_reducible refine (laws_zSame.calls k1 _ _ (rd_L2 l0 x13_1) _ _ (rd_L2 l1 x13_1) false _ ?side1 ?side2 ?side3 ?side4 A8.out).mono ?_); (case side1 => have hx_ := HR101_0.out; exact cC); (case side2 => exact HC101_0.out); (case side3 => have hx_ := HR102_0.out; exact cC); (case side4 => exact HC102_0.out); rintro e w' ⟨rfl, ⟨nd, rfl⟩⟩; (try exact dR))))
   go_ret
   exact ⟨by first | rfl | (simp; done) | (simp [*]; done), dS⟩
def IsS82 (w0 W : World) (g : Nat) (f0 : List Int) (f1 : Int) (f2 : Int) : Prop := ∃ A0 c0, W.heap[g]? = some (.cells #[.slice A0 f0.length c0, .int .i64 f1, .int .u64 f2] 82 (0, 0)) ∧ w0.heap.size ≤ g ∧ Kd.C (Kd.int .u8) w0 A0 f0.length f0
theorem IsS82.grown {w0 W : World} {g : Nat} {f0 : List Int} {f1 : Int} {f2 : Int} {W1 : World} {row : Option Nat} (h : IsS82 w0 W g f0 f1 f2) (hw : W.grownBy W1 row) (hne : some g ≠ row) : IsS82 w0 W1 g f0 f1 f2 := by
 obtain ⟨A0, c0, hb, hg, hr0⟩ := h
 exact ⟨A0, c0, blk_grown hb hw hne, hg, hr0⟩
theorem IsS82.kept {w0 W : World} {g : Nat} {f0 : List Int} {f1 : Int} {f2 : Int} {W1 : World} {S : Nat → Prop} (h : IsS82 w0 W g f0 f1 f2) (hk : Kept W W1 S) (hne : ¬ S g) : IsS82 w0 W1 g f0 f1 f2 := by
 obtain ⟨A0, c0, hb, hg, hr0⟩ := h
 exact ⟨A0, c0, blk_kept hb hk hne, hg, hr0⟩
theorem IsS82.below {w0 W : World} {g : Nat} {f0 : List Int} {f1 : Int} {f2 : Int} {W1 : World} (h : IsS82 w0 W g f0 f1 f2) (hw : Below W.heap.size W W1) : IsS82 w0 W1 g f0 f1 f2 := h.grown (grown_of_below hw none) (by simp)
theorem IsS82.alloc {w0 W : World} {g : Nat} {f0 : List Int} {f1 : Int} {f2 : Int} (h : IsS82 w0 W g f0 f1 f2) (o : Obj) : IsS82 w0 (W.alloc o) g f0 f1 f2 := h.below (below_alloc (Below.refl _ _) o)
theorem IsS82.drewN {w0 W : World} {g : Nat} {f0 : List Int} {f1 : Int} {f2 : Int} (h : IsS82 w0 W g f0 f1 f2) (m : Nat) : IsS82 w0 (W.drewN m) g f0 f1 f2 := h
theorem IsS82.drew {w0 W : World} {g : Nat} {f0 : List Int} {f1 : Int} {f2 : Int} (h : IsS82 w0 W g f0 f1 f2) : IsS82 w0 W.drew g f0 f1 f2 := h
theorem IsS82.at_ {w0 W : World} {g : Nat} {f0 : List Int} {f1 : Int} {f2 : Int} {w' : World} {m : Nat} (hq : W.drewN m = w') (h : IsS82 w0 W g f0 f1 f2) : IsS82 w0 w' g f0 f1 f2 := by subst hq; exact IsS82.drewN h m
theorem IsS82.apart {w0 W : World} {g : Nat} {f0 : List Int} {f1 : Int} {f2 : Int} {α : Type} {d : Kd α} {e : Nat} {base : Nat} {ok : Nat → Prop} {v : Value} {xs : List α} (h : IsS82 w0 W g f0 f1 f2) (ho : d.R e W base ok v xs) (ht : ∀ q, q ∈ e :: d.E → q ≠ 82) : d.R e W base (fun k => ok k ∧ k ≠ g) v xs := by
 obtain ⟨A0, c0, hb, hg, hr0⟩ := h
 exact Kd.R_types ho hb ht
theorem IsS82.own_ne {w0 W : World} {g : Nat} {f0 : List Int} {f1 : Int} {f2 : Int} {α : Type} {d : Kd α} {e : Nat} {base : Nat} {ok : Nat → Prop} {v : Value} {xs : List α} (h : IsS82 w0 W g f0 f1 f2) (ho : d.R e W base ok v xs) (ht : e ≠ 82) : some g ≠ v.ownBlock := by
 obtain ⟨A0, c0, hb, hg, hr0⟩ := h
 exact Kd.R_ne ho hb ht
theorem IsS82.lt {w0 W : World} {g : Nat} {f0 : List Int} {f1 : Int} {f2 : Int} (h : IsS82 w0 W g f0 f1 f2) : g < W.heap.size := by
 obtain ⟨A0, c0, hb, hg, hr0⟩ := h
 exact blk_lt hb
theorem IsS82.ge {w0 W : World} {g : Nat} {f0 : List Int} {f1 : Int} {f2 : Int} (h : IsS82 w0 W g f0 f1 f2) : w0.heap.size ≤ g := by
 obtain ⟨A0, c0, hb, hg, hr0⟩ := h
 exact hg
theorem IsS82.far {w0 W : World} {g : Nat} {f0 : List Int} {f1 : Int} {f2 : Int} {p : Addr} (h : IsS82 w0 W g f0 f1 f2) (hne : g ≠ p.block) (u : Value) : IsS82 w0 (W.setCell p u) g f0 f1 f2 := by
 obtain ⟨A0, c0, hb, hg, hr0⟩ := h
 exact ⟨A0, c0, blk_far hb hne u, hg, hr0⟩
theorem cellS82_0 {W : World} {g : Nat} {A0 : Option Addr} {c0 : Nat} {f0 : List Int} {f1 : Int} {f2 : Int} (h : W.heap[g]? = some (.cells #[.slice A0 f0.length c0, .int .i64 f1, .int .u64 f2] 82 (0, 0))) : W.cell? ⟨g, 0, none⟩ = some (.slice A0 f0.length c0) := (blk_cell h 0).trans rfl
theorem cellS82_1 {W : World} {g : Nat} {A0 : Option Addr} {c0 : Nat} {f0 : List Int} {f1 : Int} {f2 : Int} (h : W.heap[g]? = some (.cells #[.slice A0 f0.length c0, .int .i64 f1, .int .u64 f2] 82 (0, 0))) : W.cell? ⟨g, 1, none⟩ = some (.int .i64 f1) := (blk_cell h 1).trans rfl
theorem IsS82.set_1 {w0 W : World} {g : Nat} {f0 : List Int} {f1 : Int} {f2 : Int} (h : IsS82 w0 W g f0 f1 f2) (x : Int) : IsS82 w0 (W.setCell ⟨g, 1, none⟩ (.int .i64 x)) g f0 x f2 := by
 obtain ⟨A0, c0, hb, hg, hr0⟩ := h
 exact ⟨A0, c0, by simpa using blk_set hb 1 (.int .i64 x), hg, hr0⟩
theorem cellS82_2 {W : World} {g : Nat} {A0 : Option Addr} {c0 : Nat} {f0 : List Int} {f1 : Int} {f2 : Int} (h : W.heap[g]? = some (.cells #[.slice A0 f0.length c0, .int .i64 f1, .int .u64 f2] 82 (0, 0))) : W.cell? ⟨g, 2, none⟩ = some (.int .u64 f2) := (blk_cell h 2).trans rfl
theorem IsS82.set_2 {w0 W : World} {g : Nat} {f0 : List Int} {f1 : Int} {f2 : Int} (h : IsS82 w0 W g f0 f1 f2) (x : Int) : IsS82 w0 (W.setCell ⟨g, 2, none⟩ (.int .u64 x)) g f0 f1 x := by
 obtain ⟨A0, c0, hb, hg, hr0⟩ := h
 exact ⟨A0, c0, by simpa using blk_set hb 2 (.int .u64 x), hg, hr0⟩
def spec_l1Cur_next.f (s0_0 : List Int) (s0_1 : Int) (s0_2 : Int) : Option (Int × Int × Int) := if s0_1 < (s0_0.length : Int) then (if 0 ≤ s0_1 then (if (wrap64 (s0_1 + 1)) ≤ (s0_0.length : Int) then (some (wrap64 (rd s0_0 s0_1), wrap64 (s0_1 + 1), IntKind.u64.wrap ((IntKind.u64.wrap ((IntKind.u64.wrap (s0_2 * 6364136223846793005)) + (IntKind.u64.wrap (wrap64 (rd s0_0 s0_1))))) + 1442695040888963407))) else (some (wrap64 (Go.bits .and .u64 ((IntKind.u64.wrap ((IntKind.u64.wrap ((IntKind.u64.wrap (s0_2 * 6364136223846793005)) + (IntKind.u64.wrap (wrap64 (rd s0_0 s0_1))))) + 1442695040888963407)) / 1099511627776) 255), wrap64 (s0_1 + 1), IntKind.u64.wrap ((IntKind.u64.wrap ((IntKind.u64.wrap (s0_2 * 6364136223846793005)) + (IntKind.u64.wrap (wrap64 (rd s0_0 s0_1))))) + 1442695040888963407)))) else (none)) else (if (wrap64 (s0_1 + 1)) ≤ (s0_0.length : Int) then (some (0, wrap64 (s0_1 + 1), IntKind.u64.wrap ((IntKind.u64.wrap (IntKind.u64.wrap (s0_2 * 6364136223846793005))) + 1442695040888963407))) else (some (wrap64 (Go.bits .and .u64 ((IntKind.u64.wrap ((IntKind.u64.wrap (IntKind.u64.wrap (s0_2 * 6364136223846793005))) + 1442695040888963407)) / 1099511627776) 255), wrap64 (s0_1 + 1), IntKind.u64.wrap ((IntKind.u64.wrap (IntKind.u64.wrap (s0_2 * 6364136223846793005))) + 1442695040888963407))))
theorem wHI0_spec_l1Cur_next {p : Prop} (h : p := by repeat (first | (with_reducible first | exact HI0.out | apply IsS82.alloc | apply IsS82.drewN | apply IsS82.drew | apply IsS82.set_1 | apply IsS82.set_2) | exact HI0.out)) : p := h
theorem wHB_spec_l1Cur_next {p : Prop} (h : p := by repeat (first | (with_reducible first | exact HB.out | apply ba | apply bd | apply be | refine bs ?_ (IsS82.ge HI0.out)) | exact HB.out)) : p := h
theorem spec_l1Cur_next.calls (g : Nat) (s0_0 : List Int) (s0_1 : Int) (s0_2 : Int) (r1 : Int) (r2 : Int) (r3 : Int) (w0 w : World) (hI : IsS82 w0 w g s0_0 s0_1 s0_2) (hB : Below w0.heap.size w0 w) (h : spec_l1Cur_next.f s0_0 s0_1 s0_2 = some (r1, r2, r3)) :
  Calls Tryz.prog 216 #[.pointer (some ⟨g, 0, none⟩)] w fun e w' => e = .returned (.int .i64 r1) ∧ IsS82 w0 w' g s0_0 r2 r3 ∧ Below w0.heap.size w0 w' ∧ KeepBut w w' g none := by
 have HI0 := Aside0.mk hI
 have HK := Aside0.mk (KeepBut.refl w g none)
 have HL := Aside0.mk hB.size
 clear hI
 have HW0 := Aside0.mk hB.size
 have HB := Aside0.mk hB
 clear hB
 have H := h
 unfold spec_l1Cur_next.f at H
 clear h
 by_cases c2 : s0_1 < (s0_0.length : Int)
 rotate_left
 ·rw [if_neg c2] at H
  have c2b0 : decide (s0_1 < (s0_0.length : Int)) = false := decide_eq_false c2
  clear c2
  by_cases c7 : (wrap64 (s0_1 + 1)) ≤ (s0_0.length : Int)
  ·rw [if_pos c7] at H
   have c7b0 := decide_eq_true c7
   clear c7
   simp only [Option.some.injEq, Prod.mk.injEq] at H
   obtain ⟨rfl, rfl, rfl⟩ := H
   obtain ⟨ASz8_0, cSz8_0, HGz8, hgz8, HSz8_0⟩ := HI0.out
   (try clear hcz6_0 hcz6_1 hcz6_2 hfz6_1 hfz6_2)
   have hcz8_0 := cellS82_0 HGz8
   have hcz8_1 := cellS82_1 HGz8
   have hcz8_2 := cellS82_2 HGz8
   have hfz8_1 := blk_frozen HGz8 1
   have hfz8_2 := blk_frozen HGz8 2
   clear HGz8 hgz8
   go_enter Tryz.func216, Tryz.ntmps216
   go_wp2
   repeat (go_quiet (fail); try go_wp2)
   go_ret
   exact ⟨fR, wHI0_spec_l1Cur_next, wHB_spec_l1Cur_next, by repeat (first | (with_reducible first | exact HK.out | apply KeepBut.set_ | apply keep_drewN | apply keep_drew | apply keep_alloc) | exact HK.out)⟩
  rw [if_neg c7] at H
  have c7b0 : decide ((wrap64 (s0_1 + 1)) ≤ (s0_0.length : Int)) = false := decide_eq_false c7
  clear c7
  simp only [Option.some.injEq, Prod.mk.injEq] at H
  obtain ⟨rfl, rfl, rfl⟩ := H
  obtain ⟨ASz9_0, cSz9_0, HGz9, hgz9, HSz9_0⟩ := HI0.out
  (try clear hcz8_0 hcz8_1 hcz8_2 hfz8_1 hfz8_2)
  have hcz9_0 := cellS82_0 HGz9
  have hcz9_1 := cellS82_1 HGz9
  have hcz9_2 := cellS82_2 HGz9
  have hfz9_1 := blk_frozen HGz9 1
  have hfz9_2 := blk_frozen HGz9 2
  clear HGz9 hgz9
  go_enter Tryz.func216, Tryz.ntmps216
  go_wp2
  repeat (go_quiet (fail); try go_wp2)
  go_ret
  exact ⟨fR, wHI0_spec_l1Cur_next, wHB_spec_l1Cur_next, by repeat (first | (with_reducible first | exact HK.out | apply KeepBut.set_ | apply keep_drewN | apply keep_drew | apply keep_alloc) | exact HK.out)⟩
 rw [if_pos c2] at H
 have c2b0 := decide_eq_true c2
 clear c2
 by_cases c3 : 0 ≤ s0_1
 rotate_left
 ·rw [if_neg c3] at H
  exact absurd H (by simp)
 rw [if_pos c3] at H
 have c3b0 := decide_eq_true c3
 clear c3
 by_cases c4 : (wrap64 (s0_1 + 1)) ≤ (s0_0.length : Int)
 ·rw [if_pos c4] at H
  have c4b0 := decide_eq_true c4
  clear c4
  simp only [Option.some.injEq, Prod.mk.injEq] at H
  obtain ⟨rfl, rfl, rfl⟩ := H
  obtain ⟨ASz5_0, cSz5_0, HGz5, hgz5, HSz5_0⟩ := HI0.out
  have hcz5_0 := cellS82_0 HGz5
  have hcz5_1 := cellS82_1 HGz5
  have hcz5_2 := cellS82_2 HGz5
  have hfz5_1 := blk_frozen HGz5 1
  have hfz5_2 := blk_frozen HGz5 2
  clear HGz5 hgz5
  have p101 : 0 ≤ (s0_1 : Int) := oD
  have q101 : s0_1 < (s0_0.length : Int) := oD
  obtain ⟨ad101, e101, hx101_0⟩ := Kd.at_int HSz5_0 s0_1 p101 q101
  cases e101
  replace hx101_0 := pw_cell_below HB.out hx101_0
  replace p101 := eq_true p101
  replace q101 := eq_true q101
  go_enter Tryz.func216, Tryz.ntmps216
  go_wp2
  repeat (go_quiet (fail); try go_wp2)
  go_ret
  exact ⟨fR, wHI0_spec_l1Cur_next, wHB_spec_l1Cur_next, by repeat (first | (with_reducible first | exact HK.out | apply KeepBut.set_ | apply keep_drewN | apply keep_drew | apply keep_alloc) | exact HK.out)⟩
 rw [if_neg c4] at H
 have c4b0 : decide ((wrap64 (s0_1 + 1)) ≤ (s0_0.length : Int)) = false := decide_eq_false c4
 clear c4
 simp only [Option.some.injEq, Prod.mk.injEq] at H
 obtain ⟨rfl, rfl, rfl⟩ := H
 obtain ⟨ASz6_0, cSz6_0, HGz6, hgz6, HSz6_0⟩ := HI0.out
 (try clear hcz5_0 hcz5_1 hcz5_2 hfz5_1 hfz5_2)
 have hcz6_0 := cellS82_0 HGz6
 have hcz6_1 := cellS82_1 HGz6
 have hcz6_2 := cellS82_2 HGz6
 have hfz6_1 := blk_frozen HGz6 1
 have hfz6_2 := blk_frozen HGz6 2
 clear HGz6 hgz6
 have p101 : 0 ≤ (s0_1 : Int) := oD
 have q101 : s0_1 < (s0_0.length : Int) := oD
 obtain ⟨ad101, e101, hx101_0⟩ := Kd.at_int HSz6_0 s0_1 p101 q101
 cases e101
 replace hx101_0 := pw_cell_below HB.out hx101_0
 replace p101 := eq_true p101
 replace q101 := eq_true q101
 go_enter Tryz.func216, Tryz.ntmps216
 go_wp2
 repeat (go_quiet (fail); try go_wp2)
 go_ret
 exact ⟨fR, wHI0_spec_l1Cur_next, wHB_spec_l1Cur_next, by repeat (first | (with_reducible first | exact HK.out | apply KeepBut.set_ | apply keep_drewN | apply keep_drew | apply keep_alloc) | exact HK.out)⟩
def spec_l1Cur_pick.f (s0_0 : List Int) (s0_1 : Int) (s0_2 : Int) (a1 : Int) : Option (Int × Int × Int) := if a1 ≤ 1 then (some (0, s0_1, s0_2)) else ((spec_l1Cur_next.f s0_0 s0_1 s0_2).bind fun bt101 => (if a1 > 200 then ((spec_l1Cur_next.f s0_0 bt101.2.1 bt101.2.2).bind fun bt104 => (if a1 = 0 then (none) else (some (Int.tmod (wrap64 ((wrap64 (bt101.1 * 256)) + bt104.1)) a1, bt104.2.1, bt104.2.2)))) else (if a1 = 0 then (none) else (some (Int.tmod bt101.1 a1, bt101.2.1, bt101.2.2)))))
theorem wHI0_spec_l1Cur_pick {p : Prop} (h : p := by repeat (first | (with_reducible first | exact HI0.out | apply IsS82.alloc | apply IsS82.drewN | apply IsS82.drew | apply IsS82.set_1 | apply IsS82.set_2) | exact HI0.out)) : p := h
theorem wHB_spec_l1Cur_pick {p : Prop} (h : p := by repeat (first | (with_reducible first | exact HB.out | apply ba | apply bd | apply be | refine bs ?_ (IsS82.ge HI0.out)) | exact HB.out)) : p := h
theorem wHK_spec_l1Cur_pick {p : Prop} (h : p := by repeat (first | (with_reducible first | exact HK.out | apply KeepBut.set_ | apply keep_drewN | apply keep_drew | apply keep_alloc) | exact HK.out)) : p := h
theorem spec_l1Cur_pick.calls (g : Nat) (s0_0 : List Int) (s0_1 : Int) (s0_2 : Int) (a1 : Int) (r1 : Int) (r2 : Int) (r3 : Int) (w0 w : World) (hI : IsS82 w0 w g s0_0 s0_1 s0_2) (hB : Below w0.heap.size w0 w) (h : spec_l1Cur_pick.f s0_0 s0_1 s0_2 a1 = some (r1, r2, r3)) :
  Calls Tryz.prog 155 #[.pointer (some ⟨g, 0, none⟩), .int .i64 a1] w fun e w' => e = .returned (.int .i64 r1) ∧ IsS82 w0 w' g s0_0 r2 r3 ∧ Below w0.heap.size w0 w' ∧ KeepBut w w' g none := by
 have HI0 := Aside0.mk hI
 have HK := Aside0.mk (KeepBut.refl w g none)
 have HL := Aside0.mk hB.size
 clear hI
 have HW0 := Aside0.mk hB.size
 have HB := Aside0.mk hB
 clear hB
 have H := h
 unfold spec_l1Cur_pick.f at H
 clear h
 by_cases c3 : a1 ≤ 1
 ·rw [if_pos c3] at H
  have c3b0 := decide_eq_true c3
  clear c3
  simp only [Option.some.injEq, Prod.mk.injEq] at H
  obtain ⟨rfl, rfl, rfl⟩ := H
  go_enter Tryz.func155, Tryz.ntmps155
  go_wp2
  go_ret
  exact ⟨fR, wHI0_spec_l1Cur_pick, wHB_spec_l1Cur_pick, wHK_spec_l1Cur_pick⟩
 rw [if_neg c3] at H
 have c3b0 : decide (a1 ≤ 1) = false := decide_eq_false c3
 clear c3
 replace H := oB H
 obtain ⟨⟨t101, t102, t103⟩, A40, H⟩ := H
 (try dsimp only at H)
 have A4 := Aside0.mk A40
 clear A40
 by_cases c5 : a1 > 200
 rotate_left
 ·rw [if_neg c5] at H
  have c5b0 : decide (200 < a1) = false := decide_eq_false c5
  clear c5
  by_cases c10 : a1 = 0
  ·rw [if_pos c10] at H
   exact absurd H (by simp)
  rw [if_neg c10] at H
  have c10b0 : (a1 == 0) = false := beq_eq_false_iff_ne.mpr c10
  have c10b1 : (a1 != 0) = true := bne_iff_ne.mpr c10
  simp only [Option.some.injEq, Prod.mk.injEq] at H
  obtain ⟨rfl, rfl, rfl⟩ := H
  go_enter Tryz.func155, Tryz.ntmps155
  go_wp2_with (first | ((with_reducible refine gate_callee (f := 216) rfl ?_); refine gL 9 Tryz.func216 #[.pointer (some ⟨g, 0, none⟩)] ?_; (with_reducible refine (spec_l1Cur_next.calls g s0_0 s0_1 s0_2 t101 t102 t103 w0 _ ?side1 ?side2 A4.out).mono ?_); (case side1 => exact wHI0_spec_l1Cur_pick); (case side2 => exact wHB_spec_l1Cur_pick); rintro e w11 ⟨rfl, hi, hb, hk⟩; refine ⟨_, rfl, ?_⟩; replace HK := Aside0.mk (KeepBut.trans (wHK_spec_l1Cur_pick) hk (.inl rfl)); replace HB := Aside0.mk (hb); replace HI0 := Aside0.mk (hi); (try clear hb)))
  go_ret
  exact ⟨fR, wHI0_spec_l1Cur_pick, wHB_spec_l1Cur_pick, wHK_spec_l1Cur_pick⟩
 rw [if_pos c5] at H
 have c5b0 : decide (200 < a1) = true := decide_eq_true c5
 clear c5
 replace H := oB H
 obtain ⟨⟨t104, t105, t106⟩, A60, H⟩ := H
 (try dsimp only at H)
 have A6 := Aside0.mk A60
 clear A60
 by_cases c7 : a1 = 0
 ·rw [if_pos c7] at H
  exact absurd H (by simp)
 rw [if_neg c7] at H
 have c7b0 : (a1 == 0) = false := beq_eq_false_iff_ne.mpr c7
 have c7b1 : (a1 != 0) = true := bne_iff_ne.mpr c7
 simp only [Option.some.injEq, Prod.mk.injEq] at H
 obtain ⟨rfl, rfl, rfl⟩ := H
 go_enter Tryz.func155, Tryz.ntmps155
 go_wp2_with (first | ((with_reducible refine gate_callee (f := 216) rfl ?_); refine gL 9 Tryz.func216 #[.pointer (some ⟨g, 0, none⟩)] ?_; (with_reducible refine (spec_l1Cur_next.calls g s0_0 s0_1 s0_2 t101 t102 t103 w0 _ ?side1 ?side2 A4.out).mono ?_); (case side1 => exact wHI0_spec_l1Cur_pick); (case side2 => exact wHB_spec_l1Cur_pick); rintro e w8 ⟨rfl, hi, hb, hk⟩; refine ⟨_, rfl, ?_⟩; replace HK := Aside0.mk (KeepBut.trans (wHK_spec_l1Cur_pick) hk (.inl rfl)); replace HB := Aside0.mk (hb); replace HI0 := Aside0.mk (hi); (try clear hb)) | ((with_reducible refine gate_callee (f := 216) rfl ?_); refine gL 15 Tryz.func216 #[.pointer (some ⟨g, 0, none⟩)] ?_; (with_reducible refine (spec_l1Cur_next.calls g s0_0 t102 t103 t104 t105 t106 w0 _ ?side1 ?side2 A6.out).mono ?_); (case side1 => exact wHI0_spec_l1Cur_pick); (case side2 => exact wHB_spec_l1Cur_pick); rintro e w9 ⟨rfl, hi, hb, hk⟩; refine ⟨_, rfl, ?_⟩; replace HK := Aside0.mk (KeepBut.trans (wHK_spec_l1Cur_pick) hk (.inl rfl)); replace HB := Aside0.mk (hb); replace HI0 := Aside0.mk (hi); (try clear hb)))
 go_ret
 exact ⟨fR, wHI0_spec_l1Cur_pick, wHB_spec_l1Cur_pick, wHK_spec_l1Cur_pick⟩
def spec_l1Cur_one.f (s0_0 : List Int) (s0_1 : Int) (s0_2 : Int) (a1 : Int) : Option (Bool × Int × Int) := (spec_l1Cur_pick.f s0_0 s0_1 s0_2 a1).bind fun bt101 => (some ((bt101.1 == 0), bt101.2.1, bt101.2.2))
theorem spec_l1Cur_one.calls (g : Nat) (s0_0 : List Int) (s0_1 : Int) (s0_2 : Int) (a1 : Int) (r1 : Bool) (r2 : Int) (r3 : Int) (w0 w : World) (hI : IsS82 w0 w g s0_0 s0_1 s0_2) (hB : Below w0.heap.size w0 w) (h : spec_l1Cur_one.f s0_0 s0_1 s0_2 a1 = some (r1, r2, r3)) :
  Calls Tryz.prog 134 #[.pointer (some ⟨g, 0, none⟩), .int .i64 a1] w fun e w' => e = .returned (.bool r1) ∧ IsS82 w0 w' g s0_0 r2 r3 ∧ Below w0.heap.size w0 w' ∧ KeepBut w w' g none := by
 have HI0 := Aside0.mk hI
 have HK := Aside0.mk (KeepBut.refl w g none)
 have HL := Aside0.mk hB.size
 clear hI
 have HW0 := Aside0.mk hB.size
 have HB := Aside0.mk hB
 clear hB
 have H := h
 unfold spec_l1Cur_one.f at H
 clear h
 replace H := oB H
 obtain ⟨⟨t101, t102, t103⟩, A30, H⟩ := H
 (try dsimp only at H)
 have A3 := Aside0.mk A30
 clear A30
 simp only [Option.some.injEq, Prod.mk.injEq] at H
 obtain ⟨rfl, rfl, rfl⟩ := H
 go_enter Tryz.func134, Tryz.ntmps134
 go_wp2_with (first | ((with_reducible refine gate_callee (f := 155) rfl ?_); refine gL 7 Tryz.func155 #[.pointer (some ⟨g, 0, none⟩), .int .i64 a1] ?_; (with_reducible refine (spec_l1Cur_pick.calls g s0_0 s0_1 s0_2 a1 t101 t102 t103 w0 _ ?side1 ?side2 A3.out).mono ?_); (case side1 => repeat (first | (with_reducible first | exact HI0.out | apply IsS82.alloc | apply IsS82.drewN | apply IsS82.drew | apply IsS82.set_1 | apply IsS82.set_2) | exact HI0.out)); (case side2 => repeat (first | (with_reducible first | exact HB.out | apply ba | apply bd | apply be | refine bs ?_ (IsS82.ge HI0.out)) | exact HB.out)); rintro e w4 ⟨rfl, hi, hb, hk⟩; refine ⟨_, rfl, ?_⟩; replace HK := Aside0.mk (KeepBut.trans (by repeat (first | (with_reducible first | exact HK.out | apply KeepBut.set_ | apply keep_drewN | apply keep_drew | apply keep_alloc) | exact HK.out)) hk (.inl rfl)); replace HB := Aside0.mk (hb); replace HI0 := Aside0.mk (hi); (try clear hb)))
 go_ret
 exact ⟨fR, by repeat (first | (with_reducible first | exact HI0.out | apply IsS82.alloc | apply IsS82.drewN | apply IsS82.drew | apply IsS82.set_1 | apply IsS82.set_2) | exact HI0.out), by repeat (first | (with_reducible first | exact HB.out | apply ba | apply bd | apply be | refine bs ?_ (IsS82.ge HI0.out)) | exact HB.out), by repeat (first | (with_reducible first | exact HK.out | apply KeepBut.set_ | apply keep_drewN | apply keep_drew | apply keep_alloc) | exact HK.out)⟩
mutual
def spec_l1Cur_sureCommittee.l0 : Nat → Int → List Int → Int → Int → Int → List Int → Option (Int × List Int × Int × Int)
 | 0, _, _, _, _, _, _ => none
 | k + 1, x6, x1000, x1001, x1002, x103000, x103001 => if x6 > 0 then ((spec_l1Cur_pick.f x1000 x1001 x1002 7).bind fun bt106 => (if x103001.length < 17592186044416 then (spec_l1Cur_sureCommittee.l0 k (wrap64 (x6 - 1)) x1000 bt106.2.1 bt106.2.2 x103000 (x103001 ++ [bt106.1])) else (none))) else ((spec_voSum.f k x103001).bind fun t112 => (if t112 = 0 then (if 0 < (x103001.length : Int) then (spec_l1Cur_sureCommittee.j1 k x1000 x1001 x1002 x103000 (x103001.set (0 : Int).toNat 1)) else (none)) else (spec_l1Cur_sureCommittee.j1 k x1000 x1001 x1002 x103000 x103001)))
def spec_l1Cur_sureCommittee.j1 : Nat → List Int → Int → Int → Int → List Int → Option (Int × List Int × Int × Int)
 | 0, _, _, _, _, _ => none
 | k + 1, x1000, x1001, x1002, x103000, x103001 => (spec_voSum.f k x103001).bind fun t114 => ((spec_l1Cur_one.f x1000 x1001 x1002 2).bind fun bt115 => (if bt115.1 = true then ((spec_l1Cur_pick.f x1000 bt115.2.1 bt115.2.2 t114).bind fun bt118 => (some (wrap64 (1 + bt118.1), x103001, bt118.2.1, bt118.2.2))) else (some (wrap64 ((wrap64 (Int.tdiv t114 2)) + 1), x103001, bt115.2.1, bt115.2.2))))
end
def spec_l1Cur_sureCommittee.f (k : Nat) (s0_0 : List Int) (s0_1 : Int) (s0_2 : Int) (a1 : Int) : Option (Int × List Int × Int × Int) := (spec_l1Cur_pick.f s0_0 s0_1 s0_2 a1).bind fun bt103 => (spec_l1Cur_sureCommittee.l0 k (wrap64 (1 + bt103.1)) s0_0 bt103.2.1 bt103.2.2 0 ([] : List Int))
def spec_l1Cur_sureCommittee.T5 : Bool × List (List Nat × List Nat) := (true, [([], []), ([0], [0]), ([], []), ([2], [2]), ([3], [3]), ([1, 4, 3], [1, 4]), ([0, 1, 2, 3, 4, 5], []), ([6, 5, 5, 0, 1, 2, 3, 4, 5], [5, 6])])
def spec_l1Cur_sureCommittee.B5 : List Nat := [0, 1, 0, 4, 12, 31, 63, 127]
theorem spec_l1Cur_sureCommittee.tab5 : rtab .any (opsOf Tryz.f201 5) = spec_l1Cur_sureCommittee.T5 := by kernel_rfl
theorem spec_l1Cur_sureCommittee.bits5 : waitsOk spec_l1Cur_sureCommittee.T5.2 spec_l1Cur_sureCommittee.B5 = true := by kernel_rfl
theorem wHK_spec_l1Cur_sureCommittee {p : Prop} (h : p := by repeat (first | (with_reducible first | exact HK.out | apply KeepBut.set_ | apply keep_drewN | apply keep_drew | apply keep_alloc | refine keep_far ?_ GW101.out _ | refine keep_far ?_ GW102.out _) | exact HK.out)) : p := h
theorem wHI0_spec_l1Cur_sureCommittee {p : Prop} (h : p := by repeat (first | (with_reducible first | exact HI0.out | apply IsS82.alloc | apply IsS82.drewN | apply IsS82.drew | apply IsS82.set_1 | apply IsS82.set_2 | refine IsS82.far ?_ NB0_101.out _ | refine IsS82.far ?_ NB0_102.out _) | exact HI0.out)) : p := h
theorem wHB_spec_l1Cur_sureCommittee {p : Prop} (h : p := by repeat (first | (with_reducible first | exact HB.out | apply ba | apply bd | apply be | refine bs ?_ (IsS82.ge HI0.out) | refine bs ?_ GE101.out | refine bs ?_ GE102.out) | exact HB.out)) : p := h
theorem spec_l1Cur_sureCommittee.calls (k : Nat) (g : Nat) (s0_0 : List Int) (s0_1 : Int) (s0_2 : Int) (a1 : Int) (r1 : Int) (r2 : List Int) (r3 : Int) (r4 : Int) (w0 w : World) (hI : IsS82 w0 w g s0_0 s0_1 s0_2) (hB : Below w0.heap.size w0 w) (h : spec_l1Cur_sureCommittee.f k s0_0 s0_1 s0_2 a1 = some (r1, r2, r3, r4)) :
  Calls Tryz.prog 201 #[.pointer (some ⟨g, 0, none⟩), .int .i64 a1] w fun e w' => ∃ v1_ : Value, e = .returned (.agg #[.int .i64 r1, v1_]) ∧ Kd.R (Kd.int .i64) 3 w' w.heap.size (fun _ => True) v1_ r2 ∧ IsS82 w0 w' g s0_0 r3 r4 ∧ Below w0.heap.size w0 w' ∧ KeepBut w w' g none := by
 have hu26 := Tryz.underlying26
 have HI0 := Aside0.mk hI
 have HK := Aside0.mk (KeepBut.refl w g none)
 have HL := Aside0.mk hB.size
 clear hI
 have HW0 := Aside0.mk hB.size
 have HB := Aside0.mk hB
 clear hB
 have H := h
 unfold spec_l1Cur_sureCommittee.f at H
 clear h
 replace H := oB H
 obtain ⟨⟨t103, t104, t105⟩, A30, H⟩ := H
 (try dsimp only at H)
 have A3 := Aside0.mk A30
 clear A30
 have H' := Aside0.mk H
 clear H
 go_enter Tryz.func201, Tryz.ntmps201
 go_wp2_with (first | ((with_reducible refine gate_dst (N := 4) rfl ?_); refine xE (N := 4) (cs := #[.int .i64 0, .slice none 0 0]) (t := 26) ?_; intro gb101 hg w4 BK101 hb; have GW101 := Aside0.mk ((by rw [hg]; exact (keep_size (w := w) (g := g) (row := none) (wHK_spec_l1Cur_sureCommittee)) : w.heap.size ≤ gb101)); have GE101 := Aside0.mk ((Nat.le_trans HW0.out (by rw [hg]; exact (keep_size (w := w) (g := g) (row := none) (wHK_spec_l1Cur_sureCommittee)) : w.heap.size ≤ gb101) : w0.heap.size ≤ gb101)); have NB0_101 := Aside0.mk ((by rw [hg]; exact Nat.ne_of_lt (IsS82.lt (show IsS82 w0 _ g s0_0 s0_1 s0_2 from wHI0_spec_l1Cur_sureCommittee)) : g ≠ gb101)); have NB101_0 := Aside0.mk ((by rw [hg]; exact Nat.ne_of_gt (IsS82.lt (show IsS82 w0 _ g s0_0 s0_1 s0_2 from wHI0_spec_l1Cur_sureCommittee)) : gb101 ≠ g)); replace HK := Aside0.mk (KeepBut.trans (wHK_spec_l1Cur_sureCommittee) (KeepBut.of_below hb g none) (.inl rfl)); replace HB := Aside0.mk (below_step (wHB_spec_l1Cur_sureCommittee) hb); replace HI0 := Aside0.mk (IsS82.below (wHI0_spec_l1Cur_sureCommittee) hb); clear hb hg) | ((with_reducible refine gate_dst (N := 5) rfl ?_); refine xE (N := 5) (cs := #[.int .i64 0, .slice none 0 0]) (t := 26) ?_; intro gb102 hg w5 BK102 hb; have GW102 := Aside0.mk ((by rw [hg]; exact (keep_size (w := w) (g := g) (row := none) (wHK_spec_l1Cur_sureCommittee)) : w.heap.size ≤ gb102)); have GE102 := Aside0.mk ((Nat.le_trans HW0.out (by rw [hg]; exact (keep_size (w := w) (g := g) (row := none) (wHK_spec_l1Cur_sureCommittee)) : w.heap.size ≤ gb102) : w0.heap.size ≤ gb102)); have NB101_102 := nL hg (blk_lt BK101.out); have NB102_101 := nG hg (blk_lt BK101.out); have NB0_102 := Aside0.mk ((by rw [hg]; exact Nat.ne_of_lt (IsS82.lt (show IsS82 w0 _ g s0_0 s0_1 s0_2 from wHI0_spec_l1Cur_sureCommittee)) : g ≠ gb102)); have NB102_0 := Aside0.mk ((by rw [hg]; exact Nat.ne_of_gt (IsS82.lt (show IsS82 w0 _ g s0_0 s0_1 s0_2 from wHI0_spec_l1Cur_sureCommittee)) : gb102 ≠ g)); replace BK101 := bB BK101 hb; replace HK := Aside0.mk (KeepBut.trans (wHK_spec_l1Cur_sureCommittee) (KeepBut.of_below hb g none) (.inl rfl)); replace HB := Aside0.mk (below_step (wHB_spec_l1Cur_sureCommittee) hb); replace HI0 := Aside0.mk (IsS82.below (wHI0_spec_l1Cur_sureCommittee) hb); clear hb hg; have hnb6 := NB102_101.out; have hnc6 := NB101_102.out; have hnb7 := NB102_0.out; have hnc7 := NB0_102.out; obtain ⟨hcz8_0, hcz8_1, hfz8_0, hfz8_1⟩ := zZ BK102) | ((with_reducible refine gate_callee (f := 155) rfl ?_); refine gL 11 Tryz.func155 #[.pointer (some ⟨g, 0, none⟩), .int .i64 a1] ?_; (with_reducible refine (spec_l1Cur_pick.calls g s0_0 s0_1 s0_2 a1 t103 t104 t105 w0 _ ?side1 ?side2 A3.out).mono ?_); (case side1 => exact wHI0_spec_l1Cur_sureCommittee); (case side2 => exact wHB_spec_l1Cur_sureCommittee); rintro e w9 ⟨rfl, hi, hb, hk⟩; refine ⟨_, rfl, ?_⟩; replace BK101 := Aside0.mk (KeepBut.blk hk (g' := gb101) (o := .cells #[.int .i64 0, .slice none 0 0] 26 (0, 0)) (by refine blk_far ?_ NB101_102.out _; refine blk_far ?_ NB101_102.out _; exact BK101.out) NB101_0.out (by simp)); replace BK102 := Aside0.mk (KeepBut.blk hk (g' := gb102) (o := .cells #[.int .i64 0, .slice none 0 0] 26 (0, 0)) (by refine blk_put (cs := #[.int .i64 0, .slice none 0 0]) ?_ 1 _ rfl; refine blk_put (cs := #[.int .i64 0, .slice none 0 0]) ?_ 0 _ rfl; exact BK102.out) NB102_0.out (by simp)); replace HK := Aside0.mk (KeepBut.trans (wHK_spec_l1Cur_sureCommittee) hk (.inl rfl)); replace HB := Aside0.mk (hb); replace HI0 := Aside0.mk (hi); (try clear hb)))
 go_loopg [6] k (fun kq v6 w' => ∃ (x6_1 : Int) (x1001_1 : Int) (x1002_1 : Int) (x103001_1 : List Int) (u103001 : Value), v6 = .int .i64 x6_1 ∧ Aside0 (spec_l1Cur_sureCommittee.l0 kq x6_1 s0_0 x1001_1 x1002_1 0 x103001_1 = some (r1, r2, r3, r4)) ∧ Aside0 (kq ≤ k) ∧ Aside0 (Kd.R (Kd.int .i64) 3 w' w.heap.size (fun _ => True) u103001 x103001_1) ∧ Aside0 (w'.heap[gb101]? = some (.cells #[.int .i64 0, (.slice none 0 0)] 26 (0, 0))) ∧ Aside0 (w'.heap[gb102]? = some (.cells #[.int .i64 0, u103001] 26 (0, 0))) ∧ Aside0 (IsS82 w0 w' g s0_0 x1001_1 x1002_1) ∧ Aside0 (KeepBut w w' g none) ∧ Aside0 (Below w0.heap.size w0 w'))
 case atStart => exact ⟨(wrap64 (1 + t103)), (t104), (t105), (([] : List Int)), (.slice none 0 0), gR, H', ⟨Nat.le_refl _⟩, ⟨by first | exact Kd.R_nil _ _ _ _ _ | exact Kd.N_nil _ _ _ _ _ | exact Kd.V_nil _ _ _ _ _ | exact Kd.Q_nil _ _ _ _ _ | exact Kd.S_nil _ _ _ _ _⟩, ⟨by exact BK101.out⟩, ⟨by exact BK102.out⟩, ⟨wHI0_spec_l1Cur_sureCommittee⟩, ⟨wHK_spec_l1Cur_sureCommittee⟩, ⟨wHB_spec_l1Cur_sureCommittee⟩⟩
 case round =>
  clear H'
  (try clear c1); (try clear c2); (try clear p2); (try clear c6); (try clear p6); (try clear c7); (try clear hcz8_0); (try clear hcz8_1); (try clear hfz8_0); (try clear hfz8_1)
  obtain ⟨x6_1, x1001_1, x1002_1, x103001_1, u103001, rfl, HA, HK1, HO_103001, BK101, BK102, HI0, HK, HB⟩ := hrel
  cases gk with
  | zero => exact absurd HA.out (by simp [spec_l1Cur_sureCommittee.l0])
  | succ k1 =>
   have H := HA.out
   clear HA
   simp only [spec_l1Cur_sureCommittee.l0] at H
   by_cases c10 : x6_1 > 0
   ·rw [if_pos c10] at H
    have c10b0 : decide (0 < x6_1) = true := decide_eq_true c10
    clear c10
    replace H := oB H
    obtain ⟨⟨t106, t107, t108⟩, A110, H⟩ := H
    (try dsimp only at H)
    have A11 := Aside0.mk A110
    clear A110
    by_cases c12 : x103001_1.length < 17592186044416
    rotate_left
    ·rw [if_neg c12] at H
     exact absurd H (by simp)
    rw [if_pos c12] at H
    have LMc12 := Aside0.mk c12
    clear c12
    obtain ⟨y109, hy109⟩ : ∃ y_ : List Int, y_ = (x103001_1 ++ [t106]) := ⟨_, rfl⟩
    replace H : (spec_l1Cur_sureCommittee.l0 k1 (wrap64 (x6_1 - 1)) s0_0 t107 t108 0 y109) = some (r1, r2, r3, r4) := by first | (rw [hy109]; with_reducible exact H) | (have H2_ := (Option.bind_some _ _).symm.trans H; rw [hy109]; with_reducible exact H2_) | (have H2_ := (Option.bind_some _ _).symm.trans H; with_reducible exact H2_) | with_reducible exact H | (rw [hy109]; exact H) | exact H
    have Ny109 := Aside0.mk hy109
    clear hy109
    have H' := Aside0.mk H
    clear H
    try go_wp2
    replace HO_103001 := rD HO_103001
    replace BK101 := bD BK101
    replace BK102 := bD BK102
    replace HI0 := Aside0.mk (IsS82.drew HI0.out)
    replace HK := Aside0.mk (keep_drew HK.out)
    replace HB := Aside0.mk (below_drew1 HB.out)
    refine start_ (n := 8) (S := fun w' => w'.cell? ⟨gb102, 0, none⟩ = some (.int .i64 0) ∧ w'.cell? ⟨gb102, 1, none⟩ = some (u103001)) (ds := [7]) #[F,F,F,F,F,F,F,F] (by kernel_rfl) rfl rfl ⟨(blk_cell BK102.out 0).trans rfl, (blk_cell BK102.out 1).trans rfl⟩ (fun hHeld => ?_); refine with_tabW spec_l1Cur_sureCommittee.tab5 spec_l1Cur_sureCommittee.bits5 (fun HT_ HW_ => ?_)
    generalize wr.drew = w13 at HO_103001 BK101 BK102 HI0 HK HB hHeld ⊢
    refine pU 0 HT_ ?_
    refine pU 2 HT_ ?_
    refine tK 1 HT_ HW_ hHeld (hy := by rintro w' ⟨s0, s1⟩; go_simp; with_reducible rfl) ?_
    refine oN 3 HT_ (fun K hK => ?_)
    refine gE Tryz.func155 #[.pointer (some ⟨g, 0, none⟩), .int .i64 7] ?_
    with_reducible refine (spec_l1Cur_pick.calls g s0_0 x1001_1 x1002_1 7 t106 t107 t108 w0 _ ?side1 ?side2 A11.out).mono ?_
    (case side1 => exact wHI0_spec_l1Cur_sureCommittee)
    (case side2 => exact wHB_spec_l1Cur_sureCommittee)
    rintro e w14 ⟨rfl, hi, hb, hk⟩
    refine ⟨_, rfl, ?_⟩
    replace HO_103001 := Aside0.mk (Kd.R_mono (Kd.R_keep (IsS82.apart (show IsS82 w0 _ g s0_0 x1001_1 x1002_1 from wHI0_spec_l1Cur_sureCommittee) HO_103001.out (by decide)) hk (fun _ h => h.2)) (fun _ h => h.1))
    replace BK101 := Aside0.mk (KeepBut.blk hk (g' := gb101) (o := .cells #[.int .i64 0, .slice none 0 0] 26 (0, 0)) BK101.out NB101_0.out (by simp))
    replace BK102 := Aside0.mk (KeepBut.blk hk (g' := gb102) (o := .cells #[.int .i64 0, u103001] 26 (0, 0)) BK102.out NB102_0.out (by simp))
    replace HK := Aside0.mk (KeepBut.trans (wHK_spec_l1Cur_sureCommittee) hk (.inl rfl))
    replace HB := Aside0.mk (hb)
    replace HI0 := Aside0.mk (hi)
    (try clear hb)
    (try clear hb2)
    (try clear hk)
    (try clear hi)
    refine hK.out _ _ ⟨(blk_cell BK102.out 0).trans rfl, (blk_cell BK102.out 1).trans rfl⟩ (fun hHeld => ?_)
    clear hK K
    refine nM ?_
    refine oN 4 HT_ (fun K hK => ?_)
    refine value_ (w1 := ?_) (v := ?_) (by rfl) rfl ?_ ?_
    rotate_left 2
    ·go_simp
     constructor
     ·rfl
     rfl
    refine hK.out _ _ ⟨(blk_cell (blk_alloc BK102.out _) 0).trans rfl, (blk_cell (blk_alloc BK102.out _) 1).trans rfl⟩ (fun hHeld => ?_)
    clear hK K
    refine nM ?_
    refine oN 5 HT_ (fun K hK => ?_)
    refine Kd.R_append_step (Kd.int .i64) w.heap.size (by rfl) (.tmp 18) (.tmp 21) 24 3 (.int .i64 0) 8 rfl Tryz.underlying24 info3 rfl (by decide) (by omega) u103001 x103001_1 t106 [.int .i64 t106] (fun _ => True) (fun _ => False) rfl rfl ?aP (fun _ hk => hk.elim) ?aF ?aO (Below.refl _ _) ?aS ?aL ?_
    (case aP => exact rfl)
    (case aF => exact (fun _ _ => trivial))
    (case aO => exact HO_103001.out)
    (case aS => exact (keep_size (w := w) (g := g) (row := none) (wHK_spec_l1Cur_sureCommittee)))
    (case aL => have := LMc12.out; omega)
    intro v110 w15 ho hb hg hat
    rw [← Ny109.out] at ho
    have HO111 := Aside0.mk (ho)
    replace BK101 := Aside0.mk (blk_grown (g := gb101) (o := .cells #[.int .i64 0, .slice none 0 0] 26 (0, 0)) BK101.out hg (Kd.R_ne HO_103001.out BK101.out (by decide)))
    replace BK102 := Aside0.mk (blk_grown (g := gb102) (o := .cells #[.int .i64 0, u103001] 26 (0, 0)) BK102.out hg (Kd.R_ne HO_103001.out BK102.out (by decide)))
    replace HB := Aside0.mk (below_weaken (wHB_spec_l1Cur_sureCommittee) HL.out hb)
    replace HI0 := Aside0.mk (IsS82.grown (wHI0_spec_l1Cur_sureCommittee) hg (IsS82.own_ne HI0.out HO_103001.out (by decide)))
    replace HK := Aside0.mk (KeepBut.trans (wHK_spec_l1Cur_sureCommittee) (KeepBut.of_grown hg g) (Kd.R_base2 HO_103001.out))
    clear ho hb hg hat
    obtain ⟨Ao16, co16, eo16⟩ := Kd.R_slice HO111.out
    (first | subst eo16 | (injection eo16 with f1_ f2_ f3_; have f4_ := f1_.symm; have f5_ := f3_.symm; clear f1_ f2_ f3_; subst f4_; subst f5_))
    refine hK.out _ _ ⟨(blk_cell BK102.out 0).trans rfl, (blk_cell BK102.out 1).trans rfl⟩ (fun hHeld => ?_)
    clear hK K
    refine nM ?_
    refine pU 6 HT_ ?_
    refine last_ (i := 7) (N := none) #[T,T,T,T,T,T,T,T] rfl rfl (one_of HT_.out (by kernel_rfl)) (by decide) (fun K hK => ?_)
    have hs17 : w15.cell? ⟨gb102, 1, none⟩ = some (u103001) := (blk_cell BK102.out 1).trans rfl
    have hfs17 := blk_frozen BK102.out 1
    have hns17_0 := NB101_102.out
    have hms17_0 := NB102_101.out
    refine skip_ (w1 := ?_) (by rfl) rfl ?_ ?_
    rotate_left
    ·go_simp
     rfl
    refine hK.out _ _ ?_
    clear hK K
    refine done_ (done_of HT_.out (by kernel_rfl)) ?_
    try go_wp2
    go_roundg k1
    case measure => have := HK1.out; omega
    case rel => exact ⟨(wrap64 (x6_1 - 1)), (t107), (t108), (y109), (.slice Ao16 y109.length co16), gR, H', ⟨by have := HK1.out; omega⟩, ⟨by exact Kd.R_mono (Kd.R_far (p := ⟨gb102, 1, none⟩) (Kd.R_types HO111.out BK102.out (by decide)) (fun _ hk => hk.2) (.slice Ao16 y109.length co16)) (fun _ hk => trivial)⟩, ⟨by refine blk_far ?_ NB101_102.out _; exact BK101.out⟩, ⟨by refine blk_put (cs := #[.int .i64 0, u103001]) ?_ 1 _ rfl; exact BK102.out⟩, ⟨wHI0_spec_l1Cur_sureCommittee⟩, ⟨wHK_spec_l1Cur_sureCommittee⟩, ⟨wHB_spec_l1Cur_sureCommittee⟩⟩
   rw [if_neg c10] at H
   have c10b0 : decide (0 < x6_1) = false := decide_eq_false c10
   clear c10
   replace H := oA H
   obtain ⟨t112, A18, H⟩ := H
   (try dsimp only at H)
   have HC19 := Aside0.mk H
   clear H
   have hnb20 := NB102_101.out
   have hnc20 := NB101_102.out
   have hnb21 := NB102_0.out
   have hnc21 := NB0_102.out
   obtain ⟨hcz22_0, hcz22_1, hfz22_0, hfz22_1⟩ := zZ BK102
   obtain ⟨Ao23, co23, eo23⟩ := Kd.R_slice HO_103001.out
   subst eo23
   go_upto_if 27 with (first | ((with_reducible refine gate_callee (f := 128) rfl ?_); refine gL 26 Tryz.func128 #[.slice Ao23 x103001_1.length co23] ?_; (with_reducible refine (spec_voSum.calls k1 _ _ x103001_1 t112 _ ?side1 ?side2 A18.out).mono ?_); (case side1 => have hx_ := (Kd.R_reads' HO_103001.out).2.2; exact cC); (case side2 => exact (Kd.R_reads' HO_103001.out).2.1); rintro e w' ⟨rfl, ⟨nd, rfl⟩⟩; refine ⟨_, rfl, ?_⟩; (try (rw [drewN_self wr]; generalize hq_ : World.drewN wr _ = wr; have n0_ : Aside0 (Kd.R (Kd.int .i64) 3 wr w.heap.size (fun _ => True) (.slice Ao23 x103001_1.length co23) x103001_1) := ⟨by rw [← hq_]; exact HO_103001.out⟩; have n1_ : Aside0 (wr.heap[gb101]? = some (.cells #[.int .i64 0, .slice none 0 0] 26 (0, 0))) := ⟨by rw [← hq_]; exact BK101.out⟩; have n2_ : Aside0 (wr.heap[gb102]? = some (.cells #[.int .i64 0, .slice Ao23 x103001_1.length co23] 26 (0, 0))) := ⟨by rw [← hq_]; exact BK102.out⟩; have n3_ : Aside0 (IsS82 w0 wr g s0_0 x1001_1 x1002_1) := ⟨by rw [← hq_]; exact (wHI0_spec_l1Cur_sureCommittee)⟩; have n4_ : Aside0 (KeepBut w wr g none) := ⟨by rw [← hq_]; exact (wHK_spec_l1Cur_sureCommittee)⟩; have n5_ : Aside0 (Below w0.heap.size w0 wr) := ⟨by rw [← hq_]; exact (wHB_spec_l1Cur_sureCommittee)⟩; clear HO_103001 BK101 BK102 HI0 HK HB hq_; have HO_103001 := n0_; have BK101 := n1_; have BK102 := n2_; have HI0 := n3_; have HK := n4_; have HB := n5_; clear n0_ n1_ n2_ n3_ n4_ n5_))))
   (try simp only [Act.put, sA, sZ, sS])
   go_cut [] (fun wc => ∃ (kq : Nat) (x103001_18 : List Int) (u103001 : Value), Aside0 (spec_l1Cur_sureCommittee.j1 kq s0_0 x1001_1 x1002_1 0 x103001_18 = some (r1, r2, r3, r4)) ∧ Aside0 (kq ≤ k1) ∧ Aside0 (Kd.R (Kd.int .i64) 3 wc w.heap.size (fun _ => True) u103001 x103001_18) ∧ Aside0 (wc.heap[gb101]? = some (.cells #[.int .i64 0, (.slice none 0 0)] 26 (0, 0))) ∧ Aside0 (wc.heap[gb102]? = some (.cells #[.int .i64 0, u103001] 26 (0, 0))) ∧ Aside0 (IsS82 w0 wc g s0_0 x1001_1 x1002_1) ∧ Aside0 (KeepBut w wc g none) ∧ Aside0 (Below w0.heap.size w0 wc))
   case first =>
    have H := HC19.out
    clear HC19
    by_cases c24 : t112 = 0
    rotate_left
    ·rw [if_neg c24] at H
     have c24b0 : (t112 == 0) = false := beq_eq_false_iff_ne.mpr c24
     have c24b1 : (t112 != 0) = true := bne_iff_ne.mpr c24
     (first | rw [c24b0] | (simp only [i64_w, i32_w]; rw [c24b0]) | skip)
     have H' := Aside0.mk H
     clear H
     go_wp2
     go_meet
     case rel => exact ⟨_, (x103001_1), (.slice Ao23 x103001_1.length co23), H', ⟨oN'⟩, ⟨by exact HO_103001.out⟩, ⟨by exact BK101.out⟩, ⟨by exact BK102.out⟩, ⟨wHI0_spec_l1Cur_sureCommittee⟩, ⟨wHK_spec_l1Cur_sureCommittee⟩, ⟨wHB_spec_l1Cur_sureCommittee⟩⟩
    rw [if_pos c24] at H
    have c24b0 : (t112 == 0) = true := beq_iff_eq.mpr c24
    have c24b1 : (t112 != 0) = false := bne_eq_false_iff_eq.mpr c24
    clear c24
    (first | rw [c24b0] | (simp only [i64_w, i32_w]; rw [c24b0]) | skip)
    by_cases c25 : 0 < (x103001_1.length : Int)
    rotate_left
    ·rw [if_neg c25] at H
     exact absurd H (by simp)
    rw [if_pos c25] at H
    have c25b0 := decide_eq_true c25
    have c25b1 : decide (0 < x103001_1.length) = true := decide_eq_true (by omega)
    clear c25
    obtain ⟨y113, hy113⟩ : ∃ y_ : List Int, y_ = (x103001_1.set (0 : Int).toNat 1) := ⟨_, rfl⟩
    replace H : (spec_l1Cur_sureCommittee.j1 k1 s0_0 x1001_1 x1002_1 0 y113) = some (r1, r2, r3, r4) := by first | (rw [hy113]; with_reducible exact H) | (have H2_ := (Option.bind_some _ _).symm.trans H; rw [hy113]; with_reducible exact H2_) | (have H2_ := (Option.bind_some _ _).symm.trans H; with_reducible exact H2_) | with_reducible exact H | (rw [hy113]; exact H) | exact H
    have Ny113 := Aside0.mk hy113
    clear hy113
    have H' := Aside0.mk H
    clear H
    have hnb27 := NB102_101.out
    have hnc27 := NB101_102.out
    have hnb28 := NB102_0.out
    have hnc28 := NB0_102.out
    obtain ⟨hcz29_0, hcz29_1, hfz29_0, hfz29_1⟩ := zZ BK102
    have p26 : 0 ≤ (0 : Int) := (by omega)
    have q26 : (0 : Int) < ((x103001_1.length : Int) : Int) := oD
    have qi26 : (0 < x103001_1.length) = True := eq_true (by omega)
    obtain ⟨go26, co26, eo26, gb26, gl26, cl26, HG26⟩ := Kd.R_form HO_103001.out (by omega)
    (first | cases eo26 | (injection eo26 with ea_ en_ ec_; (first | subst ea_ | (injection ea_ with ea_; subst ea_)); subst ec_; clear en_))
    have GB26 := Aside0.mk gb26
    have GG26 := Aside0.mk HG26
    clear gb26 gl26 HG26
    obtain ⟨hx26_0, hf26_0⟩ := Kd.R_celln 0 HO_103001.out (0 : Int) p26 q26
    (try rw [show ((0 : Int)).toNat = 0 from rfl] at hx26_0)
    (try simp only [Nat.reduceMul, Nat.zero_mul, Nat.zero_add, Nat.reduceAdd] at hx26_0)
    (try rw [show ((0 : Int)).toNat = 0 from rfl] at hf26_0)
    (try simp only [Nat.reduceMul, Nat.zero_mul, Nat.zero_add, Nat.reduceAdd] at hf26_0)
    replace p26 := eq_true p26
    replace q26 := eq_true q26
    have HP30 := Kd.R_putg HO_103001.out (0 : Int) 1
    go_wp2_with (first | ((with_reducible refine gate_store (t := 3) (p := 30) rfl ?_); refine sE (t := 3) (p := 30) (w1 := (wr.setCell ⟨go26, (0 : Int).toNat, none⟩ (.int .i64 1))) ?_; intro w31 hw; have hg : wr.grownBy w31 (some go26) := (by rw [hw]; exact HP30.2); have hp_ : Kd.R (Kd.int .i64) 3 w31 w.heap.size (fun _ => True) (.slice (some ⟨go26, 0, none⟩) x103001_1.length co23) y113 := (by rw [hw, Ny113.out]; exact HP30.1); clear HP30; replace BK101 := Aside0.mk (blk_grown (g := gb101) (o := .cells #[.int .i64 0, .slice none 0 0] 26 (0, 0)) BK101.out hg (Kd.R_ne HO_103001.out BK101.out (by decide))); replace BK102 := Aside0.mk (blk_grown (g := gb102) (o := .cells #[.int .i64 0, .slice (some ⟨go26, 0, none⟩) x103001_1.length co23] 26 (0, 0)) BK102.out hg (Kd.R_ne HO_103001.out BK102.out (by decide))); replace HI0 := Aside0.mk (IsS82.grown (wHI0_spec_l1Cur_sureCommittee) hg (IsS82.own_ne HI0.out HO_103001.out (by decide))); replace HB := Aside0.mk ((by rw [hw]; exact below_set (HB.out) (Nat.le_trans HL.out GB26.out) : Below w0.heap.size w0 w31)); replace HK := Aside0.mk (KeepBut.trans (wHK_spec_l1Cur_sureCommittee) (KeepBut.of_grown hg g) (Kd.R_base2 HO_103001.out)); replace HO_103001 := Aside0.mk (hp_); clear hg hw hp_))
    go_meet
    case rel => exact ⟨_, (y113), (.slice (some ⟨go26, 0, none⟩) x103001_1.length co23), H', ⟨oN'⟩, ⟨by exact HO_103001.out⟩, ⟨by exact BK101.out⟩, ⟨by exact BK102.out⟩, ⟨wHI0_spec_l1Cur_sureCommittee⟩, ⟨wHK_spec_l1Cur_sureCommittee⟩, ⟨wHB_spec_l1Cur_sureCommittee⟩⟩
   case rest =>
    clear HC19
    (try clear c1); (try clear c2); (try clear p2); (try clear q2); (try clear hx2); (try clear qi2); (try clear hf2); (try clear c6); (try clear p6); (try clear c7); (try clear c10); (try clear c10b0); (try clear c12); (try clear c15); (try clear c20); (try clear c21); (try clear c24); (try clear c24b0); (try clear c24b1); (try clear c25); (try clear c25b0); (try clear c25b1); (try clear p26); (try clear q26); (try clear hx26); (try clear qi26); (try clear hf26); (try clear c27); (try clear c28); (try clear hcz22_0); (try clear hcz22_1); (try clear hcz29_0); (try clear hcz29_1); (try clear hcz8_0); (try clear hcz8_1); (try clear hfz22_0); (try clear hfz22_1); (try clear hfz29_0); (try clear hfz29_1); (try clear hfz8_0); (try clear hfz8_1); (try clear hx26_0); (try clear p2); (try clear p26); (try clear p6); (try clear q26)
    obtain ⟨kq, x103001_18, u103001, HA, HJ18, HO_103001, BK101, BK102, HI0, HK, HB⟩ := hcut
    cases kq with
    | zero => exact absurd HA.out (by simp [spec_l1Cur_sureCommittee.j1])
    | succ kj18 =>
     have H := HA.out
     clear HA
     simp only [spec_l1Cur_sureCommittee.j1] at H
     replace H := oA H
     obtain ⟨t114, A32, H⟩ := H
     (try dsimp only at H)
     replace H := oB H
     obtain ⟨⟨t115, t116, t117⟩, A330, H⟩ := H
     (try dsimp only at H)
     have A33 := Aside0.mk A330
     clear A330
     by_cases c34 : t115 = true
     rotate_left
     ·replace c34 := Bool.eq_false_iff.mpr c34
      subst c34
      replace H := iF H
      simp only [Option.some.injEq, Prod.mk.injEq] at H
      obtain ⟨rfl, rfl, rfl, rfl⟩ := H
      have hnb45 := NB102_101.out
      have hnc45 := NB101_102.out
      have hnb46 := NB102_0.out
      have hnc46 := NB0_102.out
      (try clear hcz42_0 hcz42_1 hfz42_0 hfz42_1 hcz44_0 hcz44_1 hfz44_0 hfz44_1)
      obtain ⟨hcz47_0, hcz47_1, hfz47_0, hfz47_1⟩ := zZ BK102
      obtain ⟨Ao48, co48, eo48⟩ := Kd.R_slice HO_103001.out
      subst eo48
      go_wp2_with (first | ((with_reducible refine gate_callee (f := 128) rfl ?_); refine gL 33 Tryz.func128 #[.slice Ao48 x103001_18.length co48] ?_; (with_reducible refine (spec_voSum.calls kj18 _ _ x103001_18 t114 _ ?side1 ?side2 A32.out).mono ?_); (case side1 => have hx_ := (Kd.R_reads' HO_103001.out).2.2; exact cC); (case side2 => exact (Kd.R_reads' HO_103001.out).2.1); rintro e w' ⟨rfl, ⟨nd, rfl⟩⟩; refine ⟨_, rfl, ?_⟩) | ((with_reducible refine gate_callee (f := 134) rfl ?_); refine gL 39 Tryz.func134 #[.pointer (some ⟨g, 0, none⟩), .int .i64 2] ?_; (with_reducible refine (spec_l1Cur_one.calls g s0_0 x1001_1 x1002_1 2 false t116 t117 w0 _ ?side1 ?side2 A33.out).mono ?_); (case side1 => exact wHI0_spec_l1Cur_sureCommittee); (case side2 => exact wHB_spec_l1Cur_sureCommittee); rintro e w49 ⟨rfl, hi, hb, hk⟩; refine ⟨_, rfl, ?_⟩; replace HO_103001 := Aside0.mk (Kd.R_mono (Kd.R_keep (IsS82.apart (show IsS82 w0 _ g s0_0 x1001_1 x1002_1 from wHI0_spec_l1Cur_sureCommittee) (by (with_reducible repeat (first | apply qA | apply qN | apply qD)); exact (Kd.R_mono (Kd.R_far (p := ⟨gb102, 0, none⟩) (Kd.R_types HO_103001.out BK102.out (by decide)) (fun _ hk => hk.2) (.int .i64 (wrap64 ((wrap64 (Int.tdiv t114 2)) + 1)))) (fun _ h_ => h_.1))) (by decide)) hk (fun _ h => h.2)) (fun _ h => h.1)); replace BK101 := Aside0.mk (KeepBut.blk hk (g' := gb101) (o := .cells #[.int .i64 0, .slice none 0 0] 26 (0, 0)) (by (with_reducible repeat (first | refine kN ?_ _ | refine kD ?_ | refine kA ?_ _)); refine blk_far ?_ NB101_102.out _; (with_reducible repeat (first | refine kN ?_ _ | refine kD ?_ | refine kA ?_ _)); exact BK101.out) NB101_0.out (by simp)); replace BK102 := Aside0.mk (KeepBut.blk hk (g' := gb102) (o := .cells #[.int .i64 (wrap64 ((wrap64 (Int.tdiv t114 2)) + 1)), .slice Ao48 x103001_18.length co48] 26 (0, 0)) (by (with_reducible repeat (first | refine kN ?_ _ | refine kD ?_ | refine kA ?_ _)); refine blk_put (cs := #[.int .i64 0, .slice Ao48 x103001_18.length co48]) ?_ 0 _ rfl; (with_reducible repeat (first | refine kN ?_ _ | refine kD ?_ | refine kA ?_ _)); exact BK102.out) NB102_0.out (by simp)); replace HK := Aside0.mk (KeepBut.trans (wHK_spec_l1Cur_sureCommittee) hk (.inl rfl)); replace HB := Aside0.mk (hb); replace HI0 := Aside0.mk (hi); (try clear hb); (try clear hcz47_0 hcz47_1 hfz47_0 hfz47_1); obtain ⟨hcz50_0, hcz50_1, hfz50_0, hfz50_1⟩ := zZ BK102; have hnb51 := NB101_0.out; have hnc51 := NB0_101.out; obtain ⟨hcz52_0, hcz52_1, hfz52_0, hfz52_1⟩ := zZ BK101))
      refine bodyPost_ret (results_cell_row rfl _ _ gb101 26 #[.int .i64 (wrap64 ((wrap64 (Int.tdiv t114 2)) + 1)), .slice Ao48 x103001_18.length co48] (0, 0) _ rfl (by (with_reducible repeat (first | refine kN ?_ _ | refine kD ?_ | refine kA ?_ _)); refine blk_put (cs := #[.int .i64 (wrap64 ((wrap64 (Int.tdiv t114 2)) + 1)), .slice none 0 0]) ?_ 1 _ rfl; (with_reducible repeat (first | refine kN ?_ _ | refine kD ?_ | refine kA ?_ _)); refine blk_put (cs := #[.int .i64 0, .slice none 0 0]) ?_ 0 _ rfl; (with_reducible repeat (first | refine kN ?_ _ | refine kD ?_ | refine kA ?_ _)); exact BK101.out) Tryz.underlying26 rfl (by kernel_rfl)) rfl ?_
      exact ⟨_, fR, by (with_reducible repeat (first | apply qA | apply qN | apply qD)); exact Kd.R_mono (Kd.R_far (p := ⟨gb101, 1, none⟩) (Kd.R_far (p := ⟨gb101, 0, none⟩) (Kd.R_types HO_103001.out BK101.out (by decide)) (fun _ hk => hk.2) (.int .i64 (wrap64 ((wrap64 (Int.tdiv t114 2)) + 1)))) (fun _ hk => hk.2) (.slice Ao48 x103001_18.length co48)) (fun _ hk => trivial), wHI0_spec_l1Cur_sureCommittee, wHB_spec_l1Cur_sureCommittee, wHK_spec_l1Cur_sureCommittee⟩
     subst c34
     replace H := iT H
     replace H := oB H
     obtain ⟨⟨t118, t119, t120⟩, A350, H⟩ := H
     (try dsimp only at H)
     have A35 := Aside0.mk A350
     clear A350
     simp only [Option.some.injEq, Prod.mk.injEq] at H
     obtain ⟨rfl, rfl, rfl, rfl⟩ := H
     have hnb36 := NB102_101.out
     have hnc36 := NB101_102.out
     have hnb37 := NB102_0.out
     have hnc37 := NB0_102.out
     obtain ⟨hcz38_0, hcz38_1, hfz38_0, hfz38_1⟩ := zZ BK102
     obtain ⟨Ao39, co39, eo39⟩ := Kd.R_slice HO_103001.out
     subst eo39
     go_wp2_with (first | ((with_reducible refine gate_callee (f := 128) rfl ?_); refine gL 33 Tryz.func128 #[.slice Ao39 x103001_18.length co39] ?_; (with_reducible refine (spec_voSum.calls kj18 _ _ x103001_18 t114 _ ?side1 ?side2 A32.out).mono ?_); (case side1 => have hx_ := (Kd.R_reads' HO_103001.out).2.2; exact cC); (case side2 => exact (Kd.R_reads' HO_103001.out).2.1); rintro e w' ⟨rfl, ⟨nd, rfl⟩⟩; refine ⟨_, rfl, ?_⟩) | ((with_reducible refine gate_callee (f := 134) rfl ?_); refine gL 39 Tryz.func134 #[.pointer (some ⟨g, 0, none⟩), .int .i64 2] ?_; (with_reducible refine (spec_l1Cur_one.calls g s0_0 x1001_1 x1002_1 2 true t116 t117 w0 _ ?side1 ?side2 A33.out).mono ?_); (case side1 => exact wHI0_spec_l1Cur_sureCommittee); (case side2 => exact wHB_spec_l1Cur_sureCommittee); rintro e w40 ⟨rfl, hi, hb, hk⟩; refine ⟨_, rfl, ?_⟩; replace HO_103001 := Aside0.mk (Kd.R_mono (Kd.R_keep (IsS82.apart (show IsS82 w0 _ g s0_0 x1001_1 x1002_1 from wHI0_spec_l1Cur_sureCommittee) (by (with_reducible repeat (first | apply qA | apply qN | apply qD)); exact (Kd.R_mono (Kd.R_far (p := ⟨gb102, 0, none⟩) (Kd.R_types HO_103001.out BK102.out (by decide)) (fun _ hk => hk.2) (.int .i64 (wrap64 ((wrap64 (Int.tdiv t114 2)) + 1)))) (fun _ h_ => h_.1))) (by decide)) hk (fun _ h => h.2)) (fun _ h => h.1)); replace BK101 := Aside0.mk (KeepBut.blk hk (g' := gb101) (o := .cells #[.int .i64 0, .slice none 0 0] 26 (0, 0)) (by (with_reducible repeat (first | refine kN ?_ _ | refine kD ?_ | refine kA ?_ _)); refine blk_far ?_ NB101_102.out _; (with_reducible repeat (first | refine kN ?_ _ | refine kD ?_ | refine kA ?_ _)); exact BK101.out) NB101_0.out (by simp)); replace BK102 := Aside0.mk (KeepBut.blk hk (g' := gb102) (o := .cells #[.int .i64 (wrap64 ((wrap64 (Int.tdiv t114 2)) + 1)), .slice Ao39 x103001_18.length co39] 26 (0, 0)) (by (with_reducible repeat (first | refine kN ?_ _ | refine kD ?_ | refine kA ?_ _)); refine blk_put (cs := #[.int .i64 0, .slice Ao39 x103001_18.length co39]) ?_ 0 _ rfl; (with_reducible repeat (first | refine kN ?_ _ | refine kD ?_ | refine kA ?_ _)); exact BK102.out) NB102_0.out (by simp)); replace HK := Aside0.mk (KeepBut.trans (wHK_spec_l1Cur_sureCommittee) hk (.inl rfl)); replace HB := Aside0.mk (hb); replace HI0 := Aside0.mk (hi); (try clear hb)) | ((with_reducible refine gate_callee (f := 155) rfl ?_); refine gL 42 Tryz.func155 #[.pointer (some ⟨g, 0, none⟩), .int .i64 t114] ?_; (with_reducible refine (spec_l1Cur_pick.calls g s0_0 t116 t117 t114 t118 t119 t120 w0 _ ?side1 ?side2 A35.out).mono ?_); (case side1 => exact wHI0_spec_l1Cur_sureCommittee); (case side2 => exact wHB_spec_l1Cur_sureCommittee); rintro e w41 ⟨rfl, hi, hb, hk⟩; refine ⟨_, rfl, ?_⟩; replace HO_103001 := Aside0.mk (Kd.R_mono (Kd.R_keep (IsS82.apart (show IsS82 w0 _ g s0_0 t116 t117 from wHI0_spec_l1Cur_sureCommittee) (rQ HO_103001) (by decide)) hk (fun _ h => h.2)) (fun _ h => h.1)); replace BK101 := Aside0.mk (KeepBut.blk hk (g' := gb101) (o := .cells #[.int .i64 0, .slice none 0 0] 26 (0, 0)) (bQ BK101) NB101_0.out (by simp)); replace BK102 := Aside0.mk (KeepBut.blk hk (g' := gb102) (o := .cells #[.int .i64 (wrap64 ((wrap64 (Int.tdiv t114 2)) + 1)), .slice Ao39 x103001_18.length co39] 26 (0, 0)) (bQ BK102) NB102_0.out (by simp)); replace HK := Aside0.mk (KeepBut.trans (wHK_spec_l1Cur_sureCommittee) hk (.inl rfl)); replace HB := Aside0.mk (hb); replace HI0 := Aside0.mk (hi); (try clear hb); (try clear hcz38_0 hcz38_1 hfz38_0 hfz38_1); obtain ⟨hcz42_0, hcz42_1, hfz42_0, hfz42_1⟩ := zZ BK102; have hnb43 := NB101_0.out; have hnc43 := NB0_101.out; obtain ⟨hcz44_0, hcz44_1, hfz44_0, hfz44_1⟩ := zZ BK101))
     refine bodyPost_ret (results_cell_row rfl _ _ gb101 26 #[.int .i64 (wrap64 (1 + t118)), .slice Ao39 x103001_18.length co39] (0, 0) _ rfl (by (with_reducible repeat (first | refine kN ?_ _ | refine kD ?_ | refine kA ?_ _)); refine blk_put (cs := #[.int .i64 (wrap64 (1 + t118)), .slice none 0 0]) ?_ 1 _ rfl; (with_reducible repeat (first | refine kN ?_ _ | refine kD ?_ | refine kA ?_ _)); refine blk_put (cs := #[.int .i64 0, .slice none 0 0]) ?_ 0 _ rfl; (with_reducible repeat (first | refine kN ?_ _ | refine kD ?_ | refine kA ?_ _)); refine blk_far ?_ NB101_102.out _; (with_reducible repeat (first | refine kN ?_ _ | refine kD ?_ | refine kA ?_ _)); exact BK101.out) Tryz.underlying26 rfl (by kernel_rfl)) rfl ?_
     exact ⟨_, fR, by (with_reducible repeat (first | apply qA | apply qN | apply qD)); exact Kd.R_mono (Kd.R_far (p := ⟨gb101, 1, none⟩) (Kd.R_far (p := ⟨gb101, 0, none⟩) (Kd.R_far (p := ⟨gb102, 0, none⟩) (Kd.R_types (Kd.R_types HO_103001.out BK102.out (by decide)) BK101.out (by decide)) (fun _ hk => hk.1.2) (.int .i64 (wrap64 (1 + t118)))) (fun _ hk => hk.2) (.int .i64 (wrap64 (1 + t118)))) (fun _ hk => hk.2) (.slice Ao39 x103001_18.length co39)) (fun _ hk => trivial), wHI0_spec_l1Cur_sureCommittee, wHB_spec_l1Cur_sureCommittee, wHK_spec_l1Cur_sureCommittee⟩
def spec_l1Cur_among.f (s0_0 : List Int) (s0_1 : Int) (s0_2 : Int) (l1 : List Int) : Option (Int × Int × Int) := (spec_l1Cur_pick.f s0_0 s0_1 s0_2 (l1.length : Int)).bind fun bt101 => (if 0 ≤ bt101.1 then (if bt101.1 < (l1.length : Int) then (some (rd l1 bt101.1, bt101.2.1, bt101.2.2)) else (none)) else (none))
theorem spec_l1Cur_among.calls (g : Nat) (s0_0 : List Int) (s0_1 : Int) (s0_2 : Int) (A1 : Option Addr) (c1 : Nat) (l1 : List Int) (r1 : Int) (r2 : Int) (r3 : Int) (w0 w : World) (hI : IsS82 w0 w g s0_0 s0_1 s0_2) (hB : Below w0.heap.size w0 w) (hr1 : Kd.C (Kd.int .i64) w A1 l1.length l1) (hc1 : l1.length ≤ c1) (hf1 : ∀ ad, A1 = some ad → 0 < l1.length → ad.block ≠ g) (h : spec_l1Cur_among.f s0_0 s0_1 s0_2 l1 = some (r1, r2, r3)) :
  Calls Tryz.prog 202 #[.pointer (some ⟨g, 0, none⟩), .slice A1 l1.length c1] w fun e w' => e = .returned (.int .i64 r1) ∧ IsS82 w0 w' g s0_0 r2 r3 ∧ Below w0.heap.size w0 w' ∧ KeepBut w w' g none := by
 have HR1 := Aside0.mk hr1
 have HC1 := Aside0.mk hc1
 clear hr1 hc1
 have HI0 := Aside0.mk hI
 have HK := Aside0.mk (KeepBut.refl w g none)
 have HL := Aside0.mk hB.size
 clear hI
 have HW0 := Aside0.mk hB.size
 have HB := Aside0.mk hB
 clear hB
 have H := h
 unfold spec_l1Cur_among.f at H
 clear h
 replace H := oB H
 obtain ⟨⟨t101, t102, t103⟩, A30, H⟩ := H
 (try dsimp only at H)
 have A3 := Aside0.mk A30
 clear A30
 by_cases c4 : 0 ≤ t101
 rotate_left
 ·rw [if_neg c4] at H
  exact absurd H (by simp)
 rw [if_pos c4] at H
 have c4b0 := decide_eq_true c4
 clear c4
 by_cases c5 : t101 < (l1.length : Int)
 rotate_left
 ·rw [if_neg c5] at H
  exact absurd H (by simp)
 rw [if_pos c5] at H
 have c5b0 := decide_eq_true c5
 clear c5
 simp only [Option.some.injEq, Prod.mk.injEq] at H
 obtain ⟨rfl, rfl, rfl⟩ := H
 go_enter Tryz.func202, Tryz.ntmps202
 go_wp2_with (first | ((with_reducible refine gate_callee (f := 155) rfl ?_); refine gL 9 Tryz.func155 #[.pointer (some ⟨g, 0, none⟩), .int .i64 (l1.length : Int)] ?_; (with_reducible refine (spec_l1Cur_pick.calls g s0_0 s0_1 s0_2 (l1.length : Int) t101 t102 t103 w0 _ ?side1 ?side2 A3.out).mono ?_); (case side1 => repeat (first | (with_reducible first | exact HI0.out | apply IsS82.alloc | apply IsS82.drewN | apply IsS82.drew | apply IsS82.set_1 | apply IsS82.set_2) | exact HI0.out)); (case side2 => repeat (first | (with_reducible first | exact HB.out | apply ba | apply bd | apply be | refine bs ?_ (IsS82.ge HI0.out)) | exact HB.out)); rintro e w6 ⟨rfl, hi, hb, hk⟩; refine ⟨_, rfl, ?_⟩; replace HK := Aside0.mk (KeepBut.trans (by repeat (first | (with_reducible first | exact HK.out | apply KeepBut.set_ | apply keep_drewN | apply keep_drew | apply keep_alloc) | exact HK.out)) hk (.inl rfl)); replace HB := Aside0.mk (hb); replace HI0 := Aside0.mk (hi); (try clear hb); have p104 : 0 ≤ (t101 : Int) := oD; have q104 : t101 < (l1.length : Int) := oD; obtain ⟨ad104, e104, hx104_0⟩ := Kd.at_int HR1.out t101 p104 q104; cases e104; replace hx104_0 := keep_cell HK.out hx104_0 (by first | (rw [add_block]; exact hf1 _ rfl (by omega)) | exact hf1 _ rfl (by omega) | exact hf1 ad104 rfl (by omega)); replace p104 := eq_true p104; replace q104 := eq_true q104))
 go_ret
 exact ⟨fR, by repeat (first | (with_reducible first | exact HI0.out | apply IsS82.alloc | apply IsS82.drewN | apply IsS82.drew | apply IsS82.set_1 | apply IsS82.set_2) | exact HI0.out), by repeat (first | (with_reducible first | exact HB.out | apply ba | apply bd | apply be | refine bs ?_ (IsS82.ge HI0.out)) | exact HB.out), by repeat (first | (with_reducible first | exact HK.out | apply KeepBut.set_ | apply keep_drewN | apply keep_drew | apply keep_alloc) | exact HK.out)⟩
def spec_l1Cur_committee.l0 : Nat → List Int → Int → Int → Int → List Int → Option (Int × List Int × Int × Int)
 | 0, _, _, _, _, _ => none
 | k + 1, x1000, x1001, x1002, x109000, x109001 => (spec_l1Cur_pick.f x1000 x1001 x1002 2).bind fun bt127 => (if (x109001.length : Int) < (wrap64 (9 + bt127.1)) then (if x109001.length < 17592186044416 then (spec_l1Cur_committee.l0 k x1000 bt127.2.1 bt127.2.2 x109000 (x109001 ++ [1])) else (none)) else (some (x109000, x109001, bt127.2.1, bt127.2.2)))
def spec_l1Cur_committee.f (k : Nat) (s0_0 : List Int) (s0_1 : Int) (s0_2 : Int) (a1 : Int) : Option (Int × List Int × Int × Int) := (spec_l1Cur_sureCommittee.f k s0_0 s0_1 s0_2 a1).bind fun bt102 => ((spec_l1Cur_pick.f s0_0 bt102.2.2.1 bt102.2.2.2 16).bind fun bt109 => (if bt109.1 = 0 then ((spec_voSum.f k bt102.2.1).bind fun t112 => ((spec_voSum.f k bt102.2.1).bind fun t113 => ((spec_l1Cur_among.f s0_0 bt109.2.1 bt109.2.2 (([(-1), 0, 1, t112, wrap64 (t113 + 1), 4611686018427387904] : List Int))).bind fun bt117 => (some (bt117.1, bt102.2.1, bt117.2.1, bt117.2.2))))) else (if bt109.1 = 1 then ((spec_l1Cur_among.f s0_0 bt109.2.1 bt109.2.2 (([(-1), 0, 1000, 1001, 4611686018427387904] : List Int))).bind fun bt123 => (if 0 < (bt102.2.1.length : Int) then (some (bt102.1, (bt102.2.1.set (0 : Int).toNat bt123.1), bt123.2.1, bt123.2.2)) else (none))) else (if bt109.1 = 2 then (spec_l1Cur_committee.l0 k s0_0 bt109.2.1 bt109.2.2 bt102.1 bt102.2.1) else (if bt109.1 = 3 then (some (1, ([] : List Int), bt109.2.1, bt109.2.2)) else (some (bt102.1, bt102.2.1, bt109.2.1, bt109.2.2)))))))
def spec_l1Cur_committee.T4 : Bool × List (List Nat × List Nat) := (true, [([], []), ([], []), ([1], [1]), ([2], [2]), ([], []), ([4], [4]), ([5, 3], [5]), ([6], [6]), ([3, 7], [3, 7]), ([0, 8, 6], [0, 8]), ([0, 1, 2, 3, 4, 5, 6, 7, 8, 9], []), ([10, 9, 9, 0, 1, 2, 3, 4, 5, 6, 7, 8, 9], [9, 10])])
def spec_l1Cur_committee.B4 : List Nat := [0, 0, 2, 6, 0, 16, 62, 126, 254, 511, 1023, 2047]
theorem spec_l1Cur_committee.tab4 : rtab .any (opsOf Tryz.f133 4) = spec_l1Cur_committee.T4 := by kernel_rfl
theorem spec_l1Cur_committee.bits4 : waitsOk spec_l1Cur_committee.T4.2 spec_l1Cur_committee.B4 = true := by kernel_rfl
theorem wHK_spec_l1Cur_committee {p : Prop} (h : p := by repeat (first | (with_reducible first | exact HK.out | apply KeepBut.set_ | apply keep_drewN | apply keep_drew | apply keep_alloc | refine keep_far ?_ GW101.out _ | refine keep_far ?_ GW108.out _ | refine keep_far ?_ GB29.out _) | exact HK.out)) : p := h
theorem wHI0_spec_l1Cur_committee {p : Prop} (h : p := by repeat (first | (with_reducible first | exact HI0.out | apply IsS82.alloc | apply IsS82.drewN | apply IsS82.drew | apply IsS82.set_1 | apply IsS82.set_2 | refine IsS82.far ?_ NB0_101.out _ | refine IsS82.far ?_ NB0_108.out _ | refine IsS82.far ?_ HN0_go29.out _) | exact HI0.out)) : p := h
theorem wHB_spec_l1Cur_committee {p : Prop} (h : p := by repeat (first | (with_reducible first | exact HB.out | apply ba | apply bd | apply be | refine bs ?_ (IsS82.ge HI0.out) | refine bs ?_ GE101.out | refine bs ?_ GE108.out | refine bs ?_ (Nat.le_trans HL.out GB29.out)) | exact HB.out)) : p := h
theorem spec_l1Cur_committee.calls (k : Nat) (g : Nat) (s0_0 : List Int) (s0_1 : Int) (s0_2 : Int) (a1 : Int) (r1 : Int) (r2 : List Int) (r3 : Int) (r4 : Int) (w0 w : World) (hI : IsS82 w0 w g s0_0 s0_1 s0_2) (hB : Below w0.heap.size w0 w) (h : spec_l1Cur_committee.f k s0_0 s0_1 s0_2 a1 = some (r1, r2, r3, r4)) :
  Calls Tryz.prog 133 #[.pointer (some ⟨g, 0, none⟩), .int .i64 a1] w fun e w' => ∃ v1_ : Value, e = .returned (.agg #[.int .i64 r1, v1_]) ∧ Kd.R (Kd.int .i64) 3 w' w.heap.size (fun _ => True) v1_ r2 ∧ IsS82 w0 w' g s0_0 r3 r4 ∧ Below w0.heap.size w0 w' ∧ KeepBut w w' g none := by
 have hu26 := Tryz.underlying26
 have HI0 := Aside0.mk hI
 have HK := Aside0.mk (KeepBut.refl w g none)
 have HL := Aside0.mk hB.size
 clear hI
 have HW0 := Aside0.mk hB.size
 have HB := Aside0.mk hB
 clear hB
 have H := h
 unfold spec_l1Cur_committee.f at H
 clear h
 replace H := oB H
 obtain ⟨⟨t102, t103, t106, t107⟩, A30, H⟩ := H
 (try dsimp only at H)
 have A3 := Aside0.mk A30
 clear A30
 replace H := oB H
 obtain ⟨⟨t109, t110, t111⟩, A40, H⟩ := H
 (try dsimp only at H)
 have A4 := Aside0.mk A40
 clear A40
 by_cases c5 : t109 = 0
 ·rw [if_pos c5] at H
  have c5b0 : (t109 == 0) = true := beq_iff_eq.mpr c5
  have c5b1 : (t109 != 0) = false := bne_eq_false_iff_eq.mpr c5
  clear c5
  replace H := oA H
  obtain ⟨t112, A6, H⟩ := H
  (try dsimp only at H)
  replace H := oA H
  obtain ⟨t113, A7, H⟩ := H
  (try dsimp only at H)
  obtain ⟨y114, hy114⟩ : ∃ y_ : List Int, y_ = (([(-1), 0, 1, t112, wrap64 (t113 + 1), 4611686018427387904] : List Int)) := ⟨_, rfl⟩
  replace H : ((spec_l1Cur_among.f s0_0 t110 t111 y114).bind fun bt117 => (some (bt117.1, t103, bt117.2.1, bt117.2.2))) = some (r1, r2, r3, r4) := by first | (rw [hy114]; with_reducible exact H) | (have H2_ := (Option.bind_some _ _).symm.trans H; rw [hy114]; with_reducible exact H2_) | (have H2_ := (Option.bind_some _ _).symm.trans H; with_reducible exact H2_) | with_reducible exact H | (rw [hy114]; exact H) | exact H
  have Ny114 := Aside0.mk hy114
  clear hy114
  replace H := oB H
  obtain ⟨⟨t117, t118, t119⟩, A80, H⟩ := H
  (try dsimp only at H)
  have A8 := Aside0.mk A80
  clear A80
  simp only [Option.some.injEq, Prod.mk.injEq] at H
  obtain ⟨rfl, rfl, rfl, rfl⟩ := H
  go_enter Tryz.func133, Tryz.ntmps133
  try go_wp2_with (first | ((with_reducible refine gate_dst (N := 4) rfl ?_); refine xE (N := 4) (cs := #[.int .i64 0, .slice none 0 0]) (t := 26) ?_; intro gb101 hg w9 BK101 hb; have GW101 := Aside0.mk ((by rw [hg]; exact (keep_size (w := w) (g := g) (row := none) (wHK_spec_l1Cur_committee)) : w.heap.size ≤ gb101)); have GE101 := Aside0.mk ((Nat.le_trans HW0.out (by rw [hg]; exact (keep_size (w := w) (g := g) (row := none) (wHK_spec_l1Cur_committee)) : w.heap.size ≤ gb101) : w0.heap.size ≤ gb101)); have NB0_101 := Aside0.mk ((by rw [hg]; exact Nat.ne_of_lt (IsS82.lt (show IsS82 w0 _ g s0_0 s0_1 s0_2 from wHI0_spec_l1Cur_committee)) : g ≠ gb101)); have NB101_0 := Aside0.mk ((by rw [hg]; exact Nat.ne_of_gt (IsS82.lt (show IsS82 w0 _ g s0_0 s0_1 s0_2 from wHI0_spec_l1Cur_committee)) : gb101 ≠ g)); replace HK := Aside0.mk (KeepBut.trans (wHK_spec_l1Cur_committee) (KeepBut.of_below hb g none) (.inl rfl)); replace HB := Aside0.mk (below_step (wHB_spec_l1Cur_committee) hb); replace HI0 := Aside0.mk (IsS82.below (wHI0_spec_l1Cur_committee) hb); clear hb hg) | ((with_reducible refine gate_callee (f := 201) rfl ?_); refine gL 8 Tryz.func201 #[.pointer (some ⟨g, 0, none⟩), .int .i64 a1] ?_; (with_reducible refine (spec_l1Cur_sureCommittee.calls k g s0_0 s0_1 s0_2 a1 t102 t103 t106 t107 w0 _ ?side1 ?side2 A3.out).mono ?_); (case side1 => exact wHI0_spec_l1Cur_committee); (case side2 => exact wHB_spec_l1Cur_committee); rintro e w10 ⟨v104, rfl, ho0, hi, hb, hk⟩; refine ⟨_, rfl, ?_⟩; have HO105 := Aside0.mk (Kd.R_lower ho0 (keep_size (w := w) (g := g) (row := none) (wHK_spec_l1Cur_committee))); replace BK101 := Aside0.mk (KeepBut.blk hk (g' := gb101) (o := .cells #[.int .i64 0, .slice none 0 0] 26 (0, 0)) BK101.out NB101_0.out (by simp)); replace HK := Aside0.mk (KeepBut.trans (wHK_spec_l1Cur_committee) hk (.inl rfl)); replace HB := Aside0.mk (hb); replace HI0 := Aside0.mk (hi); (try clear hb); (try clear ho0)) | ((with_reducible refine gate_dst (N := 5) rfl ?_); refine xE (N := 5) (cs := #[.int .i64 0, .slice none 0 0]) (t := 26) ?_; intro gb108 hg w11 BK108 hb; have GW108 := Aside0.mk ((by rw [hg]; exact (keep_size (w := w) (g := g) (row := none) (wHK_spec_l1Cur_committee)) : w.heap.size ≤ gb108)); have GE108 := Aside0.mk ((Nat.le_trans HW0.out (by rw [hg]; exact (keep_size (w := w) (g := g) (row := none) (wHK_spec_l1Cur_committee)) : w.heap.size ≤ gb108) : w0.heap.size ≤ gb108)); have NB101_108 := nL hg (blk_lt BK101.out); have NB108_101 := nG hg (blk_lt BK101.out); have NB0_108 := Aside0.mk ((by rw [hg]; exact Nat.ne_of_lt (IsS82.lt (show IsS82 w0 _ g s0_0 t106 t107 from wHI0_spec_l1Cur_committee)) : g ≠ gb108)); have NB108_0 := Aside0.mk ((by rw [hg]; exact Nat.ne_of_gt (IsS82.lt (show IsS82 w0 _ g s0_0 t106 t107 from wHI0_spec_l1Cur_committee)) : gb108 ≠ g)); replace HO105 := rB HO105 hb; replace BK101 := bB BK101 hb; replace HK := Aside0.mk (KeepBut.trans (wHK_spec_l1Cur_committee) (KeepBut.of_below hb g none) (.inl rfl)); replace HB := Aside0.mk (below_step (wHB_spec_l1Cur_committee) hb); replace HI0 := Aside0.mk (IsS82.below (wHI0_spec_l1Cur_committee) hb); clear hb hg; have hnb12 := NB108_101.out; have hnc12 := NB101_108.out; have hnb13 := NB108_0.out; have hnc13 := NB0_108.out; obtain ⟨hcz14_0, hcz14_1, hfz14_0, hfz14_1⟩ := zZ BK108; obtain ⟨Ao15, co15, eo15⟩ := Kd.R_slice HO105.out; subst eo15) | ((with_reducible refine gate_callee (f := 155) rfl ?_); refine gL 10 Tryz.func155 #[.pointer (some ⟨g, 0, none⟩), .int .i64 16] ?_; (with_reducible refine (spec_l1Cur_pick.calls g s0_0 t106 t107 16 t109 t110 t111 w0 _ ?side1 ?side2 A4.out).mono ?_); (case side1 => exact wHI0_spec_l1Cur_committee); (case side2 => exact wHB_spec_l1Cur_committee); rintro e w16 ⟨rfl, hi, hb, hk⟩; refine ⟨_, rfl, ?_⟩; replace BK101 := Aside0.mk (KeepBut.blk hk (g' := gb101) (o := .cells #[.int .i64 0, .slice none 0 0] 26 (0, 0)) (by refine blk_far ?_ NB101_108.out _; refine blk_far ?_ NB101_108.out _; exact BK101.out) NB101_0.out (by simp)); replace HO105 := Aside0.mk (Kd.R_mono (Kd.R_keep (IsS82.apart (show IsS82 w0 _ g s0_0 t106 t107 from wHI0_spec_l1Cur_committee) (by exact (Kd.R_mono (Kd.R_far (p := ⟨gb108, 1, none⟩) (Kd.R_far (p := ⟨gb108, 0, none⟩) (Kd.R_types HO105.out BK108.out (by decide)) (fun _ hk => hk.2) (.int .i64 t102)) (fun _ hk => hk.2) (.slice Ao15 t103.length co15)) (fun _ h_ => h_.1))) (by decide)) hk (fun _ h => h.2)) (fun _ h => h.1)); replace BK108 := Aside0.mk (KeepBut.blk hk (g' := gb108) (o := .cells #[.int .i64 t102, .slice Ao15 t103.length co15] 26 (0, 0)) (by refine blk_put (cs := #[.int .i64 t102, .slice none 0 0]) ?_ 1 _ rfl; refine blk_put (cs := #[.int .i64 0, .slice none 0 0]) ?_ 0 _ rfl; exact BK108.out) NB108_0.out (by simp)); replace HK := Aside0.mk (KeepBut.trans (wHK_spec_l1Cur_committee) hk (.inl rfl)); replace HB := Aside0.mk (hb); replace HI0 := Aside0.mk (hi); (try clear hb)))
  replace HO105 := rD HO105
  replace BK101 := bD BK101
  replace BK108 := bD BK108
  replace HI0 := Aside0.mk (IsS82.drew HI0.out)
  replace HK := Aside0.mk (keep_drew HK.out)
  replace HB := Aside0.mk (below_drew1 HB.out)
  refine start_ (n := 12) (S := fun w' => w'.cell? ⟨gb108, 0, none⟩ = some (.int .i64 t102) ∧ w'.cell? ⟨gb108, 1, none⟩ = some (.slice Ao15 t103.length co15)) (ds := [11]) #[F,F,F,F,F,F,F,F,F,F,F,F] (by kernel_rfl) rfl rfl ⟨(blk_cell BK108.out 0).trans rfl, (blk_cell BK108.out 1).trans rfl⟩ (fun hHeld => ?_); refine with_tabW spec_l1Cur_committee.tab4 spec_l1Cur_committee.bits4 (fun HT_ HW_ => ?_)
  (try clear hcz14_0 hcz14_1 hfz14_0 hfz14_1)
  generalize w16.drew = w17 at HO105 BK101 BK108 HI0 HK HB hHeld ⊢
  refine pU 0 HT_ ?_
  refine pU 1 HT_ ?_
  refine pU 4 HT_ ?_
  refine tK 2 HT_ HW_ hHeld (hy := by rintro w' ⟨s0, s1⟩; go_simp; with_reducible rfl) ?_
  refine tK 5 HT_ HW_ hHeld (hy := by rintro w' ⟨s0, s1⟩; go_simp; with_reducible rfl) ?_
  refine oN 3 HT_ (fun K hK => ?_)
  refine gE Tryz.func128 #[.slice Ao15 t103.length co15] ?_
  with_reducible refine (spec_voSum.calls k _ _ t103 t112 _ ?side1 ?side2 A6.out).mono ?_
  (case side1 => have hx_ := (Kd.R_reads' HO105.out).2.2; exact cC)
  (case side2 => exact (Kd.R_reads' HO105.out).2.1)
  rintro e w' ⟨rfl, ⟨nd, rfl⟩⟩
  refine ⟨_, rfl, ?_⟩
  refine hK.out _ _ ⟨(blk_cell BK108.out 0).trans rfl, (blk_cell BK108.out 1).trans rfl⟩ (fun hHeld => ?_)
  clear hK K
  refine nM ?_
  refine oN 6 HT_ (fun K hK => ?_)
  refine gE Tryz.func128 #[.slice Ao15 t103.length co15] ?_
  with_reducible refine (spec_voSum.calls k _ _ t103 t113 _ ?side1 ?side2 A7.out).mono ?_
  (case side1 => have hx_ := (Kd.R_reads' HO105.out).2.2; exact cC)
  (case side2 => exact (Kd.R_reads' HO105.out).2.1)
  rintro e w' ⟨rfl, ⟨nd, rfl⟩⟩
  refine ⟨_, rfl, ?_⟩
  refine hK.out _ _ ⟨(blk_cell BK108.out 0).trans rfl, (blk_cell BK108.out 1).trans rfl⟩ (fun hHeld => ?_)
  clear hK K
  refine nM ?_
  refine pU 7 HT_ ?_
  refine oN 8 HT_ (fun K hK => ?_)
  refine Kd.R_lit_step (Kd.int .i64) _ 3 ?hg (N := 21) ?hd (xs := ([(-1), 0, 1, t112, wrap64 (t113 + 1), 4611686018427387904] : List Int)) (inner := [.int .i64 (-1), .int .i64 0, .int .i64 1, .int .i64 t112, .int .i64 (wrap64 (t113 + 1)), .int .i64 4611686018427387904]) (ok := fun _ => True) (okp := fun _ => True) ?hr ?hp (fun _ hk => hk) trivial (Below.refl _ _) (Nat.le_refl _) (by simp) ?_; (case hd => rfl); (case hg => rfl); (case hr => first | (go_simp; done) | (go_simp; rfl)); (case hp => exact (Reps.one (show Kd.M (Kd.int .i64) _ _ _ (-1) [.int .i64 (-1)] from rfl) (Reps.one (show Kd.M (Kd.int .i64) _ _ _ 0 [.int .i64 0] from rfl) (Reps.one (show Kd.M (Kd.int .i64) _ _ _ 1 [.int .i64 1] from rfl) (Reps.one (show Kd.M (Kd.int .i64) _ _ _ t112 [.int .i64 t112] from rfl) (Reps.one (show Kd.M (Kd.int .i64) _ _ _ (wrap64 (t113 + 1)) [.int .i64 (wrap64 (t113 + 1))] from rfl) (Reps.one (show Kd.M (Kd.int .i64) _ _ _ 4611686018427387904 [.int .i64 4611686018427387904] from rfl) (Reps.none _ _))))))))
  intro v115 w18 ho19 hb hg_ hnew_
  clear hg_ hnew_
  (first | rw [← Ny114.out] at ho19 | (simp only [Int.reduceToNat] at ho19; rw [← Ny114.out] at ho19))
  have HO116 := Aside0.mk (Kd.R_lower (Kd.R_new' ho19 (Kd.R_lt (rQ HO105))) (keep_size (w := w) (g := g) (row := none) (wHK_spec_l1Cur_committee)))
  replace HO105 := rE HO105 (Kd.R_base ho19) hb
  replace BK101 := bP BK101 hb
  replace BK108 := bP BK108 hb
  replace HK := Aside0.mk (KeepBut.trans (wHK_spec_l1Cur_committee) (KeepBut.of_below hb g none) (.inl rfl))
  replace HB := Aside0.mk (below_step (wHB_spec_l1Cur_committee) hb)
  replace HI0 := Aside0.mk (IsS82.below (wHI0_spec_l1Cur_committee) hb)
  clear hb ho19
  obtain ⟨Ao20, co20, eo20⟩ := Kd.R_slice HO116.out
  (first | subst eo20 | (injection eo20 with f1_ f2_ f3_; have f4_ := f1_.symm; have f5_ := f3_.symm; clear f1_ f2_ f3_; subst f4_; subst f5_))
  refine hK.out _ _ ⟨(blk_cell BK108.out 0).trans rfl, (blk_cell BK108.out 1).trans rfl⟩ (fun hHeld => ?_)
  clear hK K
  refine nM ?_
  refine oN 9 HT_ (fun K hK => ?_)
  refine gE Tryz.func202 #[.pointer (some ⟨g, 0, none⟩), .slice Ao20 y114.length co20] ?_
  with_reducible refine (spec_l1Cur_among.calls g s0_0 t110 t111 _ _ y114 t117 t118 t119 w0 _ ?side1 ?side2 ?side3 ?side4 ?side5 A8.out).mono ?_
  (case side1 => exact wHI0_spec_l1Cur_committee)
  (case side2 => exact wHB_spec_l1Cur_committee)
  (case side3 => have hx_ := (Kd.R_reads' HO116.out).2.2; exact cC)
  (case side4 => exact (Kd.R_reads' HO116.out).2.1)
  (case side5 => exact far_slice (IsS82.own_ne HI0.out HO116.out (by decide)))
  rintro e w21 ⟨rfl, hi, hb, hk⟩
  refine ⟨_, rfl, ?_⟩
  replace BK101 := Aside0.mk (KeepBut.blk hk (g' := gb101) (o := .cells #[.int .i64 0, .slice none 0 0] 26 (0, 0)) (bQ BK101) NB101_0.out (by simp))
  replace HO105 := Aside0.mk (Kd.R_mono (Kd.R_keep (IsS82.apart (show IsS82 w0 _ g s0_0 t110 t111 from wHI0_spec_l1Cur_committee) (rQ HO105) (by decide)) hk (fun _ h => h.2)) (fun _ h => h.1))
  replace BK108 := Aside0.mk (KeepBut.blk hk (g' := gb108) (o := .cells #[.int .i64 t102, .slice Ao15 t103.length co15] 26 (0, 0)) (bQ BK108) NB108_0.out (by simp))
  replace HO116 := Aside0.mk (Kd.R_mono (Kd.R_keep (IsS82.apart (show IsS82 w0 _ g s0_0 t110 t111 from wHI0_spec_l1Cur_committee) (rQ HO116) (by decide)) hk (fun _ h => h.2)) (fun _ h => h.1))
  replace HK := Aside0.mk (KeepBut.trans (wHK_spec_l1Cur_committee) hk (.inl rfl))
  replace HB := Aside0.mk (hb)
  replace HI0 := Aside0.mk (hi)
  (try clear hb)
  (try clear hb2)
  (try clear hk)
  (try clear hi)
  refine hK.out _ _ ⟨(blk_cell BK108.out 0).trans rfl, (blk_cell BK108.out 1).trans rfl⟩ (fun hHeld => ?_)
  clear hK K
  refine nM ?_
  refine pU 10 HT_ ?_
  refine last_ (i := 11) (N := none) #[T,T,T,T,T,T,T,T,T,T,T,T] rfl rfl (one_of HT_.out (by kernel_rfl)) (by decide) (fun K hK => ?_)
  have hs22 : w21.cell? ⟨gb108, 0, none⟩ = some (.int .i64 t102) := (blk_cell BK108.out 0).trans rfl
  have hfs22 := blk_frozen BK108.out 0
  have hns22_0 := NB101_108.out
  have hms22_0 := NB108_101.out
  refine skip_ (w1 := ?_) (by rfl) rfl ?_ ?_
  rotate_left
  ·go_simp
   rfl
  refine hK.out _ _ ?_
  clear hK K
  refine done_ (done_of HT_.out (by kernel_rfl)) ?_
  obtain ⟨hcz23_0, hcz23_1, hfz23_0, hfz23_1⟩ := zZ BK108
  have hnb24 := NB101_0.out
  have hnc24 := NB0_101.out
  obtain ⟨hcz25_0, hcz25_1, hfz25_0, hfz25_1⟩ := zZ BK101
  try go_wp2
  refine bodyPost_ret (results_cell_row rfl _ _ gb101 26 #[.int .i64 t117, .slice Ao15 t103.length co15] (0, 0) _ rfl (by (with_reducible repeat (first | refine kN ?_ _ | refine kD ?_ | refine kA ?_ _)); refine blk_put (cs := #[.int .i64 t117, .slice none 0 0]) ?_ 1 _ rfl; (with_reducible repeat (first | refine kN ?_ _ | refine kD ?_ | refine kA ?_ _)); refine blk_put (cs := #[.int .i64 0, .slice none 0 0]) ?_ 0 _ rfl; (with_reducible repeat (first | refine kN ?_ _ | refine kD ?_ | refine kA ?_ _)); refine blk_far ?_ NB101_108.out _; (with_reducible repeat (first | refine kN ?_ _ | refine kD ?_ | refine kA ?_ _)); exact BK101.out) Tryz.underlying26 rfl (by kernel_rfl)) rfl ?_
  exact ⟨_, fR, by (with_reducible repeat (first | apply qA | apply qN | apply qD)); exact Kd.R_mono (Kd.R_far (p := ⟨gb101, 1, none⟩) (Kd.R_far (p := ⟨gb101, 0, none⟩) (Kd.R_far (p := ⟨gb108, 0, none⟩) (Kd.R_types (Kd.R_types HO105.out BK108.out (by decide)) BK101.out (by decide)) (fun _ hk => hk.1.2) (.int .i64 t117)) (fun _ hk => hk.2) (.int .i64 t117)) (fun _ hk => hk.2) (.slice Ao15 t103.length co15)) (fun _ hk => trivial), wHI0_spec_l1Cur_committee, wHB_spec_l1Cur_committee, wHK_spec_l1Cur_committee⟩
 rw [if_neg c5] at H
 have c5b0 : (t109 == 0) = false := beq_eq_false_iff_ne.mpr c5
 have c5b1 : (t109 != 0) = true := bne_iff_ne.mpr c5
 by_cases c26 : t109 = 1
 ·rw [if_pos c26] at H
  have c26b0 : (t109 == 1) = true := beq_iff_eq.mpr c26
  have c26b1 : (t109 != 1) = false := bne_eq_false_iff_eq.mpr c26
  clear c26
  obtain ⟨y120, hy120⟩ : ∃ y_ : List Int, y_ = (([(-1), 0, 1000, 1001, 4611686018427387904] : List Int)) := ⟨_, rfl⟩
  replace H : ((spec_l1Cur_among.f s0_0 t110 t111 y120).bind fun bt123 => (if 0 < (t103.length : Int) then (some (t102, (t103.set (0 : Int).toNat bt123.1), bt123.2.1, bt123.2.2)) else (none))) = some (r1, r2, r3, r4) := by first | (rw [hy120]; with_reducible exact H) | (have H2_ := (Option.bind_some _ _).symm.trans H; rw [hy120]; with_reducible exact H2_) | (have H2_ := (Option.bind_some _ _).symm.trans H; with_reducible exact H2_) | with_reducible exact H | (rw [hy120]; exact H) | exact H
  have Ny120 := Aside0.mk hy120
  clear hy120
  replace H := oB H
  obtain ⟨⟨t123, t124, t125⟩, A270, H⟩ := H
  (try dsimp only at H)
  have A27 := Aside0.mk A270
  clear A270
  by_cases c28 : 0 < (t103.length : Int)
  rotate_left
  ·rw [if_neg c28] at H
   exact absurd H (by simp)
  rw [if_pos c28] at H
  have c28b0 := decide_eq_true c28
  have c28b1 : decide (0 < t103.length) = true := decide_eq_true (by omega)
  clear c28
  obtain ⟨y126, hy126⟩ : ∃ y_ : List Int, y_ = (t103.set (0 : Int).toNat t123) := ⟨_, rfl⟩
  replace H : (some (t102, y126, t124, t125)) = some (r1, r2, r3, r4) := by first | (rw [hy126]; with_reducible exact H) | (have H2_ := (Option.bind_some _ _).symm.trans H; rw [hy126]; with_reducible exact H2_) | (have H2_ := (Option.bind_some _ _).symm.trans H; with_reducible exact H2_) | with_reducible exact H | (rw [hy126]; exact H) | exact H
  have Ny126 := Aside0.mk hy126
  clear hy126
  simp only [Option.some.injEq, Prod.mk.injEq] at H
  obtain ⟨rfl, rfl, rfl, rfl⟩ := H
  go_enter Tryz.func133, Tryz.ntmps133
  try go_wp2_with (first | ((with_reducible refine gate_dst (N := 4) rfl ?_); refine xE (N := 4) (cs := #[.int .i64 0, .slice none 0 0]) (t := 26) ?_; intro gb101 hg w30 BK101 hb; have GW101 := Aside0.mk ((by rw [hg]; exact (keep_size (w := w) (g := g) (row := none) (wHK_spec_l1Cur_committee)) : w.heap.size ≤ gb101)); have GE101 := Aside0.mk ((Nat.le_trans HW0.out (by rw [hg]; exact (keep_size (w := w) (g := g) (row := none) (wHK_spec_l1Cur_committee)) : w.heap.size ≤ gb101) : w0.heap.size ≤ gb101)); have NB0_101 := Aside0.mk ((by rw [hg]; exact Nat.ne_of_lt (IsS82.lt (show IsS82 w0 _ g s0_0 s0_1 s0_2 from wHI0_spec_l1Cur_committee)) : g ≠ gb101)); have NB101_0 := Aside0.mk ((by rw [hg]; exact Nat.ne_of_gt (IsS82.lt (show IsS82 w0 _ g s0_0 s0_1 s0_2 from wHI0_spec_l1Cur_committee)) : gb101 ≠ g)); replace HK := Aside0.mk (KeepBut.trans (wHK_spec_l1Cur_committee) (KeepBut.of_below hb g none) (.inl rfl)); replace HB := Aside0.mk (below_step (wHB_spec_l1Cur_committee) hb); replace HI0 := Aside0.mk (IsS82.below (wHI0_spec_l1Cur_committee) hb); clear hb hg) | ((with_reducible refine gate_callee (f := 201) rfl ?_); refine gL 8 Tryz.func201 #[.pointer (some ⟨g, 0, none⟩), .int .i64 a1] ?_; (with_reducible refine (spec_l1Cur_sureCommittee.calls k g s0_0 s0_1 s0_2 a1 t102 t103 t106 t107 w0 _ ?side1 ?side2 A3.out).mono ?_); (case side1 => exact wHI0_spec_l1Cur_committee); (case side2 => exact wHB_spec_l1Cur_committee); rintro e w31 ⟨v104, rfl, ho0, hi, hb, hk⟩; refine ⟨_, rfl, ?_⟩; have HO105 := Aside0.mk (Kd.R_lower ho0 (keep_size (w := w) (g := g) (row := none) (wHK_spec_l1Cur_committee))); replace BK101 := Aside0.mk (KeepBut.blk hk (g' := gb101) (o := .cells #[.int .i64 0, .slice none 0 0] 26 (0, 0)) (bQ BK101) NB101_0.out (by simp)); replace HK := Aside0.mk (KeepBut.trans (wHK_spec_l1Cur_committee) hk (.inl rfl)); replace HB := Aside0.mk (hb); replace HI0 := Aside0.mk (hi); (try clear hb); (try clear ho0)) | ((with_reducible refine gate_dst (N := 5) rfl ?_); refine xE (N := 5) (cs := #[.int .i64 0, .slice none 0 0]) (t := 26) ?_; intro gb108 hg w32 BK108 hb; have GW108 := Aside0.mk ((by rw [hg]; exact (keep_size (w := w) (g := g) (row := none) (wHK_spec_l1Cur_committee)) : w.heap.size ≤ gb108)); have GE108 := Aside0.mk ((Nat.le_trans HW0.out (by rw [hg]; exact (keep_size (w := w) (g := g) (row := none) (wHK_spec_l1Cur_committee)) : w.heap.size ≤ gb108) : w0.heap.size ≤ gb108)); have NB101_108 := Aside0.mk ((by rw [hg]; exact Nat.ne_of_lt (blk_lt (g := gb101) (o := .cells #[.int .i64 0, .slice none 0 0] 26 (0, 0)) (bQ BK101)) : gb101 ≠ gb108)); have NB108_101 := Aside0.mk ((by rw [hg]; exact Nat.ne_of_gt (blk_lt (g := gb101) (o := .cells #[.int .i64 0, .slice none 0 0] 26 (0, 0)) (bQ BK101)) : gb108 ≠ gb101)); have NB0_108 := Aside0.mk ((by rw [hg]; exact Nat.ne_of_lt (IsS82.lt (show IsS82 w0 _ g s0_0 t106 t107 from wHI0_spec_l1Cur_committee)) : g ≠ gb108)); have NB108_0 := Aside0.mk ((by rw [hg]; exact Nat.ne_of_gt (IsS82.lt (show IsS82 w0 _ g s0_0 t106 t107 from wHI0_spec_l1Cur_committee)) : gb108 ≠ g)); replace HO105 := rP HO105 hb; replace BK101 := bP BK101 hb; replace HK := Aside0.mk (KeepBut.trans (wHK_spec_l1Cur_committee) (KeepBut.of_below hb g none) (.inl rfl)); replace HB := Aside0.mk (below_step (wHB_spec_l1Cur_committee) hb); replace HI0 := Aside0.mk (IsS82.below (wHI0_spec_l1Cur_committee) hb); clear hb hg; have hnb33 := NB108_101.out; have hnc33 := NB101_108.out; have hnb34 := NB108_0.out; have hnc34 := NB0_108.out; (try clear hcz23_0 hcz23_1 hfz23_0 hfz23_1 hcz25_0 hcz25_1 hfz25_0 hfz25_1); obtain ⟨hcz35_0, hcz35_1, hfz35_0, hfz35_1⟩ := zZ BK108; obtain ⟨Ao36, co36, eo36⟩ := Kd.R_slice HO105.out; subst eo36) | ((with_reducible refine gate_callee (f := 155) rfl ?_); refine gL 10 Tryz.func155 #[.pointer (some ⟨g, 0, none⟩), .int .i64 16] ?_; (with_reducible refine (spec_l1Cur_pick.calls g s0_0 t106 t107 16 t109 t110 t111 w0 _ ?side1 ?side2 A4.out).mono ?_); (case side1 => exact wHI0_spec_l1Cur_committee); (case side2 => exact wHB_spec_l1Cur_committee); rintro e w37 ⟨rfl, hi, hb, hk⟩; refine ⟨_, rfl, ?_⟩; replace BK101 := Aside0.mk (KeepBut.blk hk (g' := gb101) (o := .cells #[.int .i64 0, .slice none 0 0] 26 (0, 0)) (by (with_reducible repeat (first | refine kN ?_ _ | refine kD ?_ | refine kA ?_ _)); refine blk_far ?_ NB101_108.out _; (with_reducible repeat (first | refine kN ?_ _ | refine kD ?_ | refine kA ?_ _)); refine blk_far ?_ NB101_108.out _; (with_reducible repeat (first | refine kN ?_ _ | refine kD ?_ | refine kA ?_ _)); exact BK101.out) NB101_0.out (by simp)); replace HO105 := Aside0.mk (Kd.R_mono (Kd.R_keep (IsS82.apart (show IsS82 w0 _ g s0_0 t106 t107 from wHI0_spec_l1Cur_committee) (by (with_reducible repeat (first | apply qA | apply qN | apply qD)); exact (Kd.R_mono (Kd.R_far (p := ⟨gb108, 1, none⟩) (Kd.R_far (p := ⟨gb108, 0, none⟩) (Kd.R_types HO105.out BK108.out (by decide)) (fun _ hk => hk.2) (.int .i64 t102)) (fun _ hk => hk.2) (.slice Ao36 t103.length co36)) (fun _ h_ => h_.1))) (by decide)) hk (fun _ h => h.2)) (fun _ h => h.1)); replace BK108 := Aside0.mk (KeepBut.blk hk (g' := gb108) (o := .cells #[.int .i64 t102, .slice Ao36 t103.length co36] 26 (0, 0)) (by (with_reducible repeat (first | refine kN ?_ _ | refine kD ?_ | refine kA ?_ _)); refine blk_put (cs := #[.int .i64 t102, .slice none 0 0]) ?_ 1 _ rfl; (with_reducible repeat (first | refine kN ?_ _ | refine kD ?_ | refine kA ?_ _)); refine blk_put (cs := #[.int .i64 0, .slice none 0 0]) ?_ 0 _ rfl; (with_reducible repeat (first | refine kN ?_ _ | refine kD ?_ | refine kA ?_ _)); exact BK108.out) NB108_0.out (by simp)); replace HK := Aside0.mk (KeepBut.trans (wHK_spec_l1Cur_committee) hk (.inl rfl)); replace HB := Aside0.mk (hb); replace HI0 := Aside0.mk (hi); (try clear hb)))
  replace HO105 := rD HO105
  replace BK101 := bD BK101
  replace BK108 := bD BK108
  replace HI0 := Aside0.mk (IsS82.drew HI0.out)
  replace HK := Aside0.mk (keep_drew HK.out)
  replace HB := Aside0.mk (below_drew1 HB.out)
  refine start_ (n := 7) (S := fun w' => w'.cell? ⟨gb108, 0, none⟩ = some (.int .i64 t102) ∧ w'.cell? ⟨gb108, 1, none⟩ = some (.slice Ao36 t103.length co36)) (ds := [6]) #[F,F,F,F,F,F,F] (by kernel_rfl) rfl rfl ⟨(blk_cell BK108.out 0).trans rfl, (blk_cell BK108.out 1).trans rfl⟩ (fun hHeld => ?_)
  (try clear hcz35_0 hcz35_1 hfz35_0 hfz35_1)
  generalize w37.drew = w38 at HO105 BK101 BK108 HI0 HK HB hHeld ⊢
  refine pure_ (i := 0) (N := some 26) (v := ?_) (a' := ?_) #[T,F,F,F,F,F,F] rfl rfl (by kernel_rfl) (fun _ _ _ h => h) (Or.inl ⟨by rfl, ?_⟩) ?_ ?_
  rotate_left
  ·intro w'
   go_simp
   with_reducible rfl
  rotate_left
  ·simp only [Act.put, sA, sZ, sS, i64_w, i32_w]
   rfl
  refine pure_ (i := 2) (N := some 28) (v := ?_) (a' := ?_) #[T,F,T,F,F,F,F] rfl rfl (by kernel_rfl) (fun _ _ _ h => h) (Or.inl ⟨by rfl, ?_⟩) ?_ ?_
  rotate_left
  ·intro w'
   go_simp
   with_reducible rfl
  rotate_left
  ·simp only [Act.put, sA, sZ, sS, i64_w, i32_w]
   rfl
  refine take_ (i := 1) (N := some 27) (v := ?_) (a' := ?_) #[T,T,T,F,F,F,F] rfl rfl (by kernel_rfl) (fun _ _ _ h => h) (Or.inl ⟨by rfl, ?_⟩) hHeld ?_ ?_
  rotate_left
  ·rintro w' ⟨s0, s1⟩
   go_simp
   with_reducible rfl
  rotate_left
  ·simp only [Act.put, sA, sZ, sS, i64_w, i32_w]
   rfl
  refine one_ (i := 3) (N := some 29) #[T,T,T,T,F,F,F] rfl rfl (by kernel_rfl) (by decide) (fun K hK => ?_)
  refine Kd.R_lit_step (Kd.int .i64) _ 3 ?hg (N := 29) ?hd (xs := ([(-1), 0, 1000, 1001, 4611686018427387904] : List Int)) (inner := [.int .i64 (-1), .int .i64 0, .int .i64 1000, .int .i64 1001, .int .i64 4611686018427387904]) (ok := fun _ => True) (okp := fun _ => True) ?hr ?hp (fun _ hk => hk) trivial (Below.refl _ _) (Nat.le_refl _) (by simp) ?_; (case hd => rfl); (case hg => rfl); (case hr => first | (go_simp; done) | (go_simp; rfl)); (case hp => exact (Reps.one (show Kd.M (Kd.int .i64) _ _ _ (-1) [.int .i64 (-1)] from rfl) (Reps.one (show Kd.M (Kd.int .i64) _ _ _ 0 [.int .i64 0] from rfl) (Reps.one (show Kd.M (Kd.int .i64) _ _ _ 1000 [.int .i64 1000] from rfl) (Reps.one (show Kd.M (Kd.int .i64) _ _ _ 1001 [.int .i64 1001] from rfl) (Reps.one (show Kd.M (Kd.int .i64) _ _ _ 4611686018427387904 [.int .i64 4611686018427387904] from rfl) (Reps.none _ _)))))))
  intro v121 w39 ho40 hb hg_ hnew_
  clear hg_ hnew_
  (first | rw [← Ny120.out] at ho40 | (simp only [Int.reduceToNat] at ho40; rw [← Ny120.out] at ho40))
  have HO122 := Aside0.mk (Kd.R_lower (Kd.R_new' ho40 (Kd.R_lt (rQ HO105))) (keep_size (w := w) (g := g) (row := none) (wHK_spec_l1Cur_committee)))
  replace HO105 := rE HO105 (Kd.R_base ho40) hb
  replace BK101 := bP BK101 hb
  replace BK108 := bP BK108 hb
  replace HK := Aside0.mk (KeepBut.trans (wHK_spec_l1Cur_committee) (KeepBut.of_below hb g none) (.inl rfl))
  replace HB := Aside0.mk (below_step (wHB_spec_l1Cur_committee) hb)
  replace HI0 := Aside0.mk (IsS82.below (wHI0_spec_l1Cur_committee) hb)
  clear hb ho40
  obtain ⟨Ao41, co41, eo41⟩ := Kd.R_slice HO122.out
  (first | subst eo41 | (injection eo41 with f1_ f2_ f3_; have f4_ := f1_.symm; have f5_ := f3_.symm; clear f1_ f2_ f3_; subst f4_; subst f5_))
  refine hK.out _ _ ⟨(blk_cell BK108.out 0).trans rfl, (blk_cell BK108.out 1).trans rfl⟩ (fun hHeld => ?_)
  clear hK K
  refine nM ?_
  refine one_ (i := 4) (N := some 30) #[T,T,T,T,T,F,F] rfl rfl (by kernel_rfl) (by decide) (fun K hK => ?_)
  refine gE Tryz.func202 #[.pointer (some ⟨g, 0, none⟩), .slice Ao41 y120.length co41] ?_
  with_reducible refine (spec_l1Cur_among.calls g s0_0 t110 t111 _ _ y120 t123 t124 t125 w0 _ ?side1 ?side2 ?side3 ?side4 ?side5 A27.out).mono ?_
  (case side1 => exact wHI0_spec_l1Cur_committee)
  (case side2 => exact wHB_spec_l1Cur_committee)
  (case side3 => have hx_ := (Kd.R_reads' HO122.out).2.2; exact cC)
  (case side4 => exact (Kd.R_reads' HO122.out).2.1)
  (case side5 => exact far_slice (IsS82.own_ne HI0.out HO122.out (by decide)))
  rintro e w42 ⟨rfl, hi, hb, hk⟩
  refine ⟨_, rfl, ?_⟩
  replace BK101 := Aside0.mk (KeepBut.blk hk (g' := gb101) (o := .cells #[.int .i64 0, .slice none 0 0] 26 (0, 0)) (bQ BK101) NB101_0.out (by simp))
  replace HO105 := Aside0.mk (Kd.R_mono (Kd.R_keep (IsS82.apart (show IsS82 w0 _ g s0_0 t110 t111 from wHI0_spec_l1Cur_committee) (rQ HO105) (by decide)) hk (fun _ h => h.2)) (fun _ h => h.1))
  replace BK108 := Aside0.mk (KeepBut.blk hk (g' := gb108) (o := .cells #[.int .i64 t102, .slice Ao36 t103.length co36] 26 (0, 0)) (bQ BK108) NB108_0.out (by simp))
  replace HO122 := Aside0.mk (Kd.R_mono (Kd.R_keep (IsS82.apart (show IsS82 w0 _ g s0_0 t110 t111 from wHI0_spec_l1Cur_committee) (rQ HO122) (by decide)) hk (fun _ h => h.2)) (fun _ h => h.1))
  replace HK := Aside0.mk (KeepBut.trans (wHK_spec_l1Cur_committee) hk (.inl rfl))
  replace HB := Aside0.mk (hb)
  replace HI0 := Aside0.mk (hi)
  (try clear hb)
  (try clear hb2)
  (try clear hk)
  (try clear hi)
  have p29 : 0 ≤ (0 : Int) := (by omega)
  have q29 : (0 : Int) < ((t103.length : Int) : Int) := oD
  have qi29 : (0 < t103.length) = True := eq_true (by omega)
  obtain ⟨go29, co29, eo29, gb29, gl29, cl29, HG29⟩ := Kd.R_form HO105.out (by omega)
  (first | cases eo29 | (injection eo29 with ea_ en_ ec_; (first | subst ea_ | (injection ea_ with ea_; subst ea_)); subst ec_; clear en_))
  have GB29 := Aside0.mk gb29
  have GG29 := Aside0.mk HG29
  clear gb29 gl29 HG29
  obtain ⟨hx29_0, hf29_0⟩ := Kd.R_celln 0 HO105.out (0 : Int) p29 q29
  (try rw [show ((0 : Int)).toNat = 0 from rfl] at hx29_0)
  (try simp only [Nat.reduceMul, Nat.zero_mul, Nat.zero_add, Nat.reduceAdd] at hx29_0)
  (try rw [show ((0 : Int)).toNat = 0 from rfl] at hf29_0)
  (try simp only [Nat.reduceMul, Nat.zero_mul, Nat.zero_add, Nat.reduceAdd] at hf29_0)
  replace p29 := eq_true p29
  replace q29 := eq_true q29
  have HN0_go29 := Aside0.mk (show g ≠ go29 from by have h_ := IsS82.own_ne HI0.out HO105.out (by decide); intro e_; exact h_ (by rw [e_]; rfl))
  have HP43 := Kd.R_putn HO105.out (0 : Int) t123
  rw [← Ny126.out] at HP43
  have HQ43 := Aside0.mk HP43
  clear HP43
  refine hK.out _ _ ⟨(blk_cell BK108.out 0).trans rfl, (blk_cell BK108.out 1).trans rfl⟩ (fun hHeld => ?_)
  clear hK K
  refine nM ?_
  refine pure_ (i := 5) (N := some 31) (v := ?_) (a' := ?_) #[T,T,T,T,T,T,F] rfl rfl (by kernel_rfl) (fun _ _ _ h => h) (Or.inl ⟨by rfl, ?_⟩) ?_ ?_
  rotate_left
  ·intro w'
   go_simp
   with_reducible rfl
  rotate_left
  ·simp only [Act.put, sA, sZ, sS, i64_w, i32_w]
   rfl
  refine last_ (i := 6) (N := none) #[T,T,T,T,T,T,T] rfl rfl (by kernel_rfl) (by decide) (fun K hK => ?_)
  refine skip_ (w1 := ?_) (by rfl) rfl ?_ ?_
  rotate_left
  ·go_simp
   rfl
  refine hK.out _ _ ?_
  clear hK K
  refine done_ (by kernel_rfl) ?_
  have n0_ : Aside0 (Kd.R (Kd.int .i64) 3 (w42.setCell ⟨go29, 0, none⟩ (.int .i64 t123)) w.heap.size (fun k_ => nb (.slice Ao41 y120.length co41) k_) (.slice (some ⟨go29, 0, none⟩) t103.length co36) y126) := ⟨by (with_reducible repeat (first | apply qA | apply qN | apply qD)); exact Kd.R_mono HQ43.out (fun _ hk => hk.2)⟩
  have n1_ : Aside0 (Kd.R (Kd.int .i64) 3 (w42.setCell ⟨go29, 0, none⟩ (.int .i64 t123)) w.heap.size (fun k_ => nb (.slice (some ⟨go29, 0, none⟩) t103.length co36) k_) (.slice Ao41 y120.length co41) y120) := ⟨by (with_reducible repeat (first | apply qA | apply qN | apply qD)); exact Kd.R_mono (Kd.R_far (p := ⟨go29, 0, none⟩) (Kd.R_mono HO122.out (fun k_ hk => (⟨hk, fun e_ => hk.2 (by rw [e_]; rfl)⟩ : _ ∧ k_ ≠ go29))) (fun _ hk => hk.2) (.int .i64 t123)) (fun _ hk => hk.1.2)⟩
  have n2_ : Aside0 ((w42.setCell ⟨go29, 0, none⟩ (.int .i64 t123)).heap[gb101]? = some (.cells #[.int .i64 0, .slice none 0 0] 26 (0, 0))) := ⟨by (with_reducible repeat (first | refine kN ?_ _ | refine kD ?_ | refine kA ?_ _)); refine blk_far ?_ (by have h_ := Kd.R_ne HO105.out BK101.out (by decide); intro e_; exact h_ (by rw [e_]; rfl)) _; (with_reducible repeat (first | refine kN ?_ _ | refine kD ?_ | refine kA ?_ _)); exact BK101.out⟩
  have n3_ : Aside0 ((w42.setCell ⟨go29, 0, none⟩ (.int .i64 t123)).heap[gb108]? = some (.cells #[.int .i64 t102, .slice (some ⟨go29, 0, none⟩) t103.length co36] 26 (0, 0))) := ⟨by (with_reducible repeat (first | refine kN ?_ _ | refine kD ?_ | refine kA ?_ _)); refine blk_far ?_ (by have h_ := Kd.R_ne HO105.out BK108.out (by decide); intro e_; exact h_ (by rw [e_]; rfl)) _; (with_reducible repeat (first | refine kN ?_ _ | refine kD ?_ | refine kA ?_ _)); exact BK108.out⟩
  have n4_ : Aside0 (IsS82 w0 (w42.setCell ⟨go29, 0, none⟩ (.int .i64 t123)) g s0_0 t124 t125) := ⟨wHI0_spec_l1Cur_committee⟩
  have n5_ : Aside0 (KeepBut w (w42.setCell ⟨go29, 0, none⟩ (.int .i64 t123)) g none) := ⟨wHK_spec_l1Cur_committee⟩
  have n6_ : Aside0 (Below w0.heap.size w0 (w42.setCell ⟨go29, 0, none⟩ (.int .i64 t123))) := ⟨wHB_spec_l1Cur_committee⟩
  (try clear HO105)
  (try clear HO122)
  (try clear BK101)
  (try clear BK108)
  (try clear HI0)
  (try clear HK)
  (try clear HB)
  generalize (w42.setCell ⟨go29, 0, none⟩ (.int .i64 t123)) = w44 at n0_ n1_ n2_ n3_ n4_ n5_ n6_ ⊢
  have HO105 := n0_
  have HO122 := n1_
  have BK101 := n2_
  have BK108 := n3_
  have HI0 := n4_
  have HK := n5_
  have HB := n6_
  clear n0_ n1_ n2_ n3_ n4_ n5_ n6_
  obtain ⟨hcz45_0, hcz45_1, hfz45_0, hfz45_1⟩ := zZ BK108
  have hnb46 := NB101_0.out
  have hnc46 := NB0_101.out
  obtain ⟨hcz47_0, hcz47_1, hfz47_0, hfz47_1⟩ := zZ BK101
  try go_wp2
  refine bodyPost_ret (results_cell_row rfl _ _ gb101 26 #[.int .i64 t102, .slice (some ⟨go29, 0, none⟩) t103.length co36] (0, 0) _ rfl (by (with_reducible repeat (first | refine kN ?_ _ | refine kD ?_ | refine kA ?_ _)); refine blk_put (cs := #[.int .i64 t102, .slice none 0 0]) ?_ 1 _ rfl; (with_reducible repeat (first | refine kN ?_ _ | refine kD ?_ | refine kA ?_ _)); refine blk_put (cs := #[.int .i64 0, .slice none 0 0]) ?_ 0 _ rfl; (with_reducible repeat (first | refine kN ?_ _ | refine kD ?_ | refine kA ?_ _)); exact BK101.out) Tryz.underlying26 rfl (by kernel_rfl)) rfl ?_
  exact ⟨_, fR, by (with_reducible repeat (first | apply qA | apply qN | apply qD)); exact Kd.R_mono (Kd.R_far (p := ⟨gb101, 1, none⟩) (Kd.R_far (p := ⟨gb101, 0, none⟩) (Kd.R_types HO105.out BK101.out (by decide)) (fun _ hk => hk.2) (.int .i64 t102)) (fun _ hk => hk.2) (.slice (some ⟨go29, 0, none⟩) t103.length co36)) (fun _ hk => trivial), wHI0_spec_l1Cur_committee, wHB_spec_l1Cur_committee, wHK_spec_l1Cur_committee⟩
 rw [if_neg c26] at H
 have c26b0 : (t109 == 1) = false := beq_eq_false_iff_ne.mpr c26
 have c26b1 : (t109 != 1) = true := bne_iff_ne.mpr c26
 by_cases c48 : t109 = 2
 rotate_left
 ·rw [if_neg c48] at H
  have c48b0 : (t109 == 2) = false := beq_eq_false_iff_ne.mpr c48
  have c48b1 : (t109 != 2) = true := bne_iff_ne.mpr c48
  by_cases c77 : t109 = 3
  ·rw [if_pos c77] at H
   have c77b0 : (t109 == 3) = true := beq_iff_eq.mpr c77
   have c77b1 : (t109 != 3) = false := bne_eq_false_iff_eq.mpr c77
   clear c77
   simp only [Option.some.injEq, Prod.mk.injEq] at H
   obtain ⟨rfl, rfl, rfl, rfl⟩ := H
   go_enter Tryz.func133, Tryz.ntmps133
   go_wp2_with (first | ((with_reducible refine gate_dst (N := 4) rfl ?_); refine xE (N := 4) (cs := #[.int .i64 0, .slice none 0 0]) (t := 26) ?_; intro gb101 hg w78 BK101 hb; have GW101 := Aside0.mk ((by rw [hg]; exact (keep_size (w := w) (g := g) (row := none) (wHK_spec_l1Cur_committee)) : w.heap.size ≤ gb101)); have GE101 := Aside0.mk ((Nat.le_trans HW0.out (by rw [hg]; exact (keep_size (w := w) (g := g) (row := none) (wHK_spec_l1Cur_committee)) : w.heap.size ≤ gb101) : w0.heap.size ≤ gb101)); have NB0_101 := Aside0.mk ((by rw [hg]; exact Nat.ne_of_lt (IsS82.lt (show IsS82 w0 _ g s0_0 s0_1 s0_2 from wHI0_spec_l1Cur_committee)) : g ≠ gb101)); have NB101_0 := Aside0.mk ((by rw [hg]; exact Nat.ne_of_gt (IsS82.lt (show IsS82 w0 _ g s0_0 s0_1 s0_2 from wHI0_spec_l1Cur_committee)) : gb101 ≠ g)); replace HK := Aside0.mk (KeepBut.trans (wHK_spec_l1Cur_committee) (KeepBut.of_below hb g none) (.inl rfl)); replace HB := Aside0.mk (below_step (wHB_spec_l1Cur_committee) hb); replace HI0 := Aside0.mk (IsS82.below (wHI0_spec_l1Cur_committee) hb); clear hb hg) | ((with_reducible refine gate_callee (f := 201) rfl ?_); refine gL 8 Tryz.func201 #[.pointer (some ⟨g, 0, none⟩), .int .i64 a1] ?_; (with_reducible refine (spec_l1Cur_sureCommittee.calls k g s0_0 s0_1 s0_2 a1 t102 t103 t106 t107 w0 _ ?side1 ?side2 A3.out).mono ?_); (case side1 => exact wHI0_spec_l1Cur_committee); (case side2 => exact wHB_spec_l1Cur_committee); rintro e w79 ⟨v104, rfl, ho0, hi, hb, hk⟩; refine ⟨_, rfl, ?_⟩; have HO105 := Aside0.mk (Kd.R_lower ho0 (keep_size (w := w) (g := g) (row := none) (wHK_spec_l1Cur_committee))); replace BK101 := Aside0.mk (KeepBut.blk hk (g' := gb101) (o := .cells #[.int .i64 0, .slice none 0 0] 26 (0, 0)) BK101.out NB101_0.out (by simp)); replace HK := Aside0.mk (KeepBut.trans (wHK_spec_l1Cur_committee) hk (.inl rfl)); replace HB := Aside0.mk (hb); replace HI0 := Aside0.mk (hi); (try clear hb); (try clear ho0)) | ((with_reducible refine gate_dst (N := 5) rfl ?_); refine xE (N := 5) (cs := #[.int .i64 0, .slice none 0 0]) (t := 26) ?_; intro gb108 hg w80 BK108 hb; have GW108 := Aside0.mk ((by rw [hg]; exact (keep_size (w := w) (g := g) (row := none) (wHK_spec_l1Cur_committee)) : w.heap.size ≤ gb108)); have GE108 := Aside0.mk ((Nat.le_trans HW0.out (by rw [hg]; exact (keep_size (w := w) (g := g) (row := none) (wHK_spec_l1Cur_committee)) : w.heap.size ≤ gb108) : w0.heap.size ≤ gb108)); have NB101_108 := nL hg (blk_lt BK101.out); have NB108_101 := nG hg (blk_lt BK101.out); have NB0_108 := Aside0.mk ((by rw [hg]; exact Nat.ne_of_lt (IsS82.lt (show IsS82 w0 _ g s0_0 t106 t107 from wHI0_spec_l1Cur_committee)) : g ≠ gb108)); have NB108_0 := Aside0.mk ((by rw [hg]; exact Nat.ne_of_gt (IsS82.lt (show IsS82 w0 _ g s0_0 t106 t107 from wHI0_spec_l1Cur_committee)) : gb108 ≠ g)); replace HO105 := rB HO105 hb; replace BK101 := bB BK101 hb; replace HK := Aside0.mk (KeepBut.trans (wHK_spec_l1Cur_committee) (KeepBut.of_below hb g none) (.inl rfl)); replace HB := Aside0.mk (below_step (wHB_spec_l1Cur_committee) hb); replace HI0 := Aside0.mk (IsS82.below (wHI0_spec_l1Cur_committee) hb); clear hb hg; have hnb81 := NB108_101.out; have hnc81 := NB101_108.out; have hnb82 := NB108_0.out; have hnc82 := NB0_108.out; (try clear hcz74_0 hcz74_1 hfz74_0 hfz74_1 hcz76_0 hcz76_1 hfz76_0 hfz76_1); obtain ⟨hcz83_0, hcz83_1, hfz83_0, hfz83_1⟩ := zZ BK108; obtain ⟨Ao84, co84, eo84⟩ := Kd.R_slice HO105.out; subst eo84) | ((with_reducible refine gate_callee (f := 155) rfl ?_); refine gL 10 Tryz.func155 #[.pointer (some ⟨g, 0, none⟩), .int .i64 16] ?_; (with_reducible refine (spec_l1Cur_pick.calls g s0_0 t106 t107 16 t109 t110 t111 w0 _ ?side1 ?side2 A4.out).mono ?_); (case side1 => exact wHI0_spec_l1Cur_committee); (case side2 => exact wHB_spec_l1Cur_committee); rintro e w85 ⟨rfl, hi, hb, hk⟩; refine ⟨_, rfl, ?_⟩; replace BK101 := Aside0.mk (KeepBut.blk hk (g' := gb101) (o := .cells #[.int .i64 0, .slice none 0 0] 26 (0, 0)) (by refine blk_far ?_ NB101_108.out _; refine blk_far ?_ NB101_108.out _; exact BK101.out) NB101_0.out (by simp)); replace HO105 := Aside0.mk (Kd.R_mono (Kd.R_keep (IsS82.apart (show IsS82 w0 _ g s0_0 t106 t107 from wHI0_spec_l1Cur_committee) (by exact (Kd.R_mono (Kd.R_far (p := ⟨gb108, 1, none⟩) (Kd.R_far (p := ⟨gb108, 0, none⟩) (Kd.R_types HO105.out BK108.out (by decide)) (fun _ hk => hk.2) (.int .i64 t102)) (fun _ hk => hk.2) (.slice Ao84 t103.length co84)) (fun _ h_ => h_.1))) (by decide)) hk (fun _ h => h.2)) (fun _ h => h.1)); replace BK108 := Aside0.mk (KeepBut.blk hk (g' := gb108) (o := .cells #[.int .i64 t102, .slice Ao84 t103.length co84] 26 (0, 0)) (by refine blk_put (cs := #[.int .i64 t102, .slice none 0 0]) ?_ 1 _ rfl; refine blk_put (cs := #[.int .i64 0, .slice none 0 0]) ?_ 0 _ rfl; exact BK108.out) NB108_0.out (by simp)); replace HK := Aside0.mk (KeepBut.trans (wHK_spec_l1Cur_committee) hk (.inl rfl)); replace HB := Aside0.mk (hb); replace HI0 := Aside0.mk (hi); (try clear hb); have hnb86 := NB101_0.out; have hnc86 := NB0_101.out; (try clear hcz83_0 hcz83_1 hfz83_0 hfz83_1); obtain ⟨hcz87_0, hcz87_1, hfz87_0, hfz87_1⟩ := zZ BK101))
   refine bodyPost_ret (results_cell_row rfl _ _ gb101 26 #[.int .i64 1, .slice none 0 0] (0, 0) _ rfl (by refine blk_put (cs := #[.int .i64 1, .slice none 0 0]) ?_ 1 _ rfl; refine blk_put (cs := #[.int .i64 0, .slice none 0 0]) ?_ 0 _ rfl; exact BK101.out) Tryz.underlying26 rfl (by kernel_rfl)) rfl ?_
   exact ⟨_, fR, by first | exact Kd.R_nil _ _ _ _ _ | exact Kd.N_nil _ _ _ _ _ | exact Kd.V_nil _ _ _ _ _ | exact Kd.Q_nil _ _ _ _ _ | exact Kd.S_nil _ _ _ _ _, wHI0_spec_l1Cur_committee, wHB_spec_l1Cur_committee, wHK_spec_l1Cur_committee⟩
  rw [if_neg c77] at H
  have c77b0 : (t109 == 3) = false := beq_eq_false_iff_ne.mpr c77
  have c77b1 : (t109 != 3) = true := bne_iff_ne.mpr c77
  simp only [Option.some.injEq, Prod.mk.injEq] at H
  obtain ⟨rfl, rfl, rfl, rfl⟩ := H
  go_enter Tryz.func133, Tryz.ntmps133
  go_wp2_with (first | ((with_reducible refine gate_dst (N := 4) rfl ?_); refine xE (N := 4) (cs := #[.int .i64 0, .slice none 0 0]) (t := 26) ?_; intro gb101 hg w88 BK101 hb; have GW101 := Aside0.mk ((by rw [hg]; exact (keep_size (w := w) (g := g) (row := none) (wHK_spec_l1Cur_committee)) : w.heap.size ≤ gb101)); have GE101 := Aside0.mk ((Nat.le_trans HW0.out (by rw [hg]; exact (keep_size (w := w) (g := g) (row := none) (wHK_spec_l1Cur_committee)) : w.heap.size ≤ gb101) : w0.heap.size ≤ gb101)); have NB0_101 := Aside0.mk ((by rw [hg]; exact Nat.ne_of_lt (IsS82.lt (show IsS82 w0 _ g s0_0 s0_1 s0_2 from wHI0_spec_l1Cur_committee)) : g ≠ gb101)); have NB101_0 := Aside0.mk ((by rw [hg]; exact Nat.ne_of_gt (IsS82.lt (show IsS82 w0 _ g s0_0 s0_1 s0_2 from wHI0_spec_l1Cur_committee)) : gb101 ≠ g)); replace HK := Aside0.mk (KeepBut.trans (wHK_spec_l1Cur_committee) (KeepBut.of_below hb g none) (.inl rfl)); replace HB := Aside0.mk (below_step (wHB_spec_l1Cur_committee) hb); replace HI0 := Aside0.mk (IsS82.below (wHI0_spec_l1Cur_committee) hb); clear hb hg) | ((with_reducible refine gate_callee (f := 201) rfl ?_); refine gL 8 Tryz.func201 #[.pointer (some ⟨g, 0, none⟩), .int .i64 a1] ?_; (with_reducible refine (spec_l1Cur_sureCommittee.calls k g s0_0 s0_1 s0_2 a1 t102 t103 t106 t107 w0 _ ?side1 ?side2 A3.out).mono ?_); (case side1 => exact wHI0_spec_l1Cur_committee); (case side2 => exact wHB_spec_l1Cur_committee); rintro e w89 ⟨v104, rfl, ho0, hi, hb, hk⟩; refine ⟨_, rfl, ?_⟩; have HO105 := Aside0.mk (Kd.R_lower ho0 (keep_size (w := w) (g := g) (row := none) (wHK_spec_l1Cur_committee))); replace BK101 := Aside0.mk (KeepBut.blk hk (g' := gb101) (o := .cells #[.int .i64 0, .slice none 0 0] 26 (0, 0)) BK101.out NB101_0.out (by simp)); replace HK := Aside0.mk (KeepBut.trans (wHK_spec_l1Cur_committee) hk (.inl rfl)); replace HB := Aside0.mk (hb); replace HI0 := Aside0.mk (hi); (try clear hb); (try clear ho0)) | ((with_reducible refine gate_dst (N := 5) rfl ?_); refine xE (N := 5) (cs := #[.int .i64 0, .slice none 0 0]) (t := 26) ?_; intro gb108 hg w90 BK108 hb; have GW108 := Aside0.mk ((by rw [hg]; exact (keep_size (w := w) (g := g) (row := none) (wHK_spec_l1Cur_committee)) : w.heap.size ≤ gb108)); have GE108 := Aside0.mk ((Nat.le_trans HW0.out (by rw [hg]; exact (keep_size (w := w) (g := g) (row := none) (wHK_spec_l1Cur_committee)) : w.heap.size ≤ gb108) : w0.heap.size ≤ gb108)); have NB101_108 := nL hg (blk_lt BK101.out); have NB108_101 := nG hg (blk_lt BK101.out); have NB0_108 := Aside0.mk ((by rw [hg]; exact Nat.ne_of_lt (IsS82.lt (show IsS82 w0 _ g s0_0 t106 t107 from wHI0_spec_l1Cur_committee)) : g ≠ gb108)); have NB108_0 := Aside0.mk ((by rw [hg]; exact Nat.ne_of_gt (IsS82.lt (show IsS82 w0 _ g s0_0 t106 t107 from wHI0_spec_l1Cur_committee)) : gb108 ≠ g)); replace HO105 := rB HO105 hb; replace BK101 := bB BK101 hb; replace HK := Aside0.mk (KeepBut.trans (wHK_spec_l1Cur_committee) (KeepBut.of_below hb g none) (.inl rfl)); replace HB := Aside0.mk (below_step (wHB_spec_l1Cur_committee) hb); replace HI0 := Aside0.mk (IsS82.below (wHI0_spec_l1Cur_committee) hb); clear hb hg; have hnb91 := NB108_101.out; have hnc91 := NB101_108.out; have hnb92 := NB108_0.out; have hnc92 := NB0_108.out; (try clear hcz87_0 hcz87_1 hfz87_0 hfz87_1); obtain ⟨hcz93_0, hcz93_1, hfz93_0, hfz93_1⟩ := zZ BK108; obtain ⟨Ao94, co94, eo94⟩ := Kd.R_slice HO105.out; subst eo94) | ((with_reducible refine gate_callee (f := 155) rfl ?_); refine gL 10 Tryz.func155 #[.pointer (some ⟨g, 0, none⟩), .int .i64 16] ?_; (with_reducible refine (spec_l1Cur_pick.calls g s0_0 t106 t107 16 t109 t110 t111 w0 _ ?side1 ?side2 A4.out).mono ?_); (case side1 => exact wHI0_spec_l1Cur_committee); (case side2 => exact wHB_spec_l1Cur_committee); rintro e w95 ⟨rfl, hi, hb, hk⟩; refine ⟨_, rfl, ?_⟩; replace BK101 := Aside0.mk (KeepBut.blk hk (g' := gb101) (o := .cells #[.int .i64 0, .slice none 0 0] 26 (0, 0)) (by refine blk_far ?_ NB101_108.out _; refine blk_far ?_ NB101_108.out _; exact BK101.out) NB101_0.out (by simp)); replace HO105 := Aside0.mk (Kd.R_mono (Kd.R_keep (IsS82.apart (show IsS82 w0 _ g s0_0 t106 t107 from wHI0_spec_l1Cur_committee) (by exact (Kd.R_mono (Kd.R_far (p := ⟨gb108, 1, none⟩) (Kd.R_far (p := ⟨gb108, 0, none⟩) (Kd.R_types HO105.out BK108.out (by decide)) (fun _ hk => hk.2) (.int .i64 t102)) (fun _ hk => hk.2) (.slice Ao94 t103.length co94)) (fun _ h_ => h_.1))) (by decide)) hk (fun _ h => h.2)) (fun _ h => h.1)); replace BK108 := Aside0.mk (KeepBut.blk hk (g' := gb108) (o := .cells #[.int .i64 t102, .slice Ao94 t103.length co94] 26 (0, 0)) (by refine blk_put (cs := #[.int .i64 t102, .slice none 0 0]) ?_ 1 _ rfl; refine blk_put (cs := #[.int .i64 0, .slice none 0 0]) ?_ 0 _ rfl; exact BK108.out) NB108_0.out (by simp)); replace HK := Aside0.mk (KeepBut.trans (wHK_spec_l1Cur_committee) hk (.inl rfl)); replace HB := Aside0.mk (hb); replace HI0 := Aside0.mk (hi); (try clear hb); (try clear hcz93_0 hcz93_1 hfz93_0 hfz93_1); obtain ⟨hcz96_0, hcz96_1, hfz96_0, hfz96_1⟩ := zZ BK108; have hnb97 := NB101_0.out; have hnc97 := NB0_101.out; obtain ⟨hcz98_0, hcz98_1, hfz98_0, hfz98_1⟩ := zZ BK101))
  refine bodyPost_ret (results_cell_row rfl _ _ gb101 26 #[.int .i64 t102, .slice Ao94 t103.length co94] (0, 0) _ rfl (by refine blk_put (cs := #[.int .i64 t102, .slice none 0 0]) ?_ 1 _ rfl; refine blk_put (cs := #[.int .i64 0, .slice none 0 0]) ?_ 0 _ rfl; exact BK101.out) Tryz.underlying26 rfl (by kernel_rfl)) rfl ?_
  exact ⟨_, fR, by exact Kd.R_mono (Kd.R_far (p := ⟨gb101, 1, none⟩) (Kd.R_far (p := ⟨gb101, 0, none⟩) (Kd.R_types HO105.out BK101.out (by decide)) (fun _ hk => hk.2) (.int .i64 t102)) (fun _ hk => hk.2) (.slice Ao94 t103.length co94)) (fun _ hk => trivial), wHI0_spec_l1Cur_committee, wHB_spec_l1Cur_committee, wHK_spec_l1Cur_committee⟩
 rw [if_pos c48] at H
 have c48b0 : (t109 == 2) = true := beq_iff_eq.mpr c48
 have c48b1 : (t109 != 2) = false := bne_eq_false_iff_eq.mpr c48
 clear c48
 have H' := Aside0.mk H
 clear H
 go_enter Tryz.func133, Tryz.ntmps133
 go_wp2_with (first | ((with_reducible refine gate_dst (N := 4) rfl ?_); refine xE (N := 4) (cs := #[.int .i64 0, .slice none 0 0]) (t := 26) ?_; intro gb101 hg w49 BK101 hb; have GW101 := Aside0.mk ((by rw [hg]; exact (keep_size (w := w) (g := g) (row := none) (wHK_spec_l1Cur_committee)) : w.heap.size ≤ gb101)); have GE101 := Aside0.mk ((Nat.le_trans HW0.out (by rw [hg]; exact (keep_size (w := w) (g := g) (row := none) (wHK_spec_l1Cur_committee)) : w.heap.size ≤ gb101) : w0.heap.size ≤ gb101)); have NB0_101 := Aside0.mk ((by rw [hg]; exact Nat.ne_of_lt (IsS82.lt (show IsS82 w0 _ g s0_0 s0_1 s0_2 from wHI0_spec_l1Cur_committee)) : g ≠ gb101)); have NB101_0 := Aside0.mk ((by rw [hg]; exact Nat.ne_of_gt (IsS82.lt (show IsS82 w0 _ g s0_0 s0_1 s0_2 from wHI0_spec_l1Cur_committee)) : gb101 ≠ g)); replace HK := Aside0.mk (KeepBut.trans (wHK_spec_l1Cur_committee) (KeepBut.of_below hb g none) (.inl rfl)); replace HB := Aside0.mk (below_step (wHB_spec_l1Cur_committee) hb); replace HI0 := Aside0.mk (IsS82.below (wHI0_spec_l1Cur_committee) hb); clear hb hg) | ((with_reducible refine gate_callee (f := 201) rfl ?_); refine gL 8 Tryz.func201 #[.pointer (some ⟨g, 0, none⟩), .int .i64 a1] ?_; (with_reducible refine (spec_l1Cur_sureCommittee.calls k g s0_0 s0_1 s0_2 a1 t102 t103 t106 t107 w0 _ ?side1 ?side2 A3.out).mono ?_); (case side1 => exact wHI0_spec_l1Cur_committee); (case side2 => exact wHB_spec_l1Cur_committee); rintro e w50 ⟨v104, rfl, ho0, hi, hb, hk⟩; refine ⟨_, rfl, ?_⟩; have HO105 := Aside0.mk (Kd.R_lower ho0 (keep_size (w := w) (g := g) (row := none) (wHK_spec_l1Cur_committee))); replace BK101 := Aside0.mk (KeepBut.blk hk (g' := gb101) (o := .cells #[.int .i64 0, .slice none 0 0] 26 (0, 0)) (bQ BK101) NB101_0.out (by simp)); replace HK := Aside0.mk (KeepBut.trans (wHK_spec_l1Cur_committee) hk (.inl rfl)); replace HB := Aside0.mk (hb); replace HI0 := Aside0.mk (hi); (try clear hb); (try clear ho0)) | ((with_reducible refine gate_dst (N := 5) rfl ?_); refine xE (N := 5) (cs := #[.int .i64 0, .slice none 0 0]) (t := 26) ?_; intro gb108 hg w51 BK108 hb; have GW108 := Aside0.mk ((by rw [hg]; exact (keep_size (w := w) (g := g) (row := none) (wHK_spec_l1Cur_committee)) : w.heap.size ≤ gb108)); have GE108 := Aside0.mk ((Nat.le_trans HW0.out (by rw [hg]; exact (keep_size (w := w) (g := g) (row := none) (wHK_spec_l1Cur_committee)) : w.heap.size ≤ gb108) : w0.heap.size ≤ gb108)); have NB101_108 := Aside0.mk ((by rw [hg]; exact Nat.ne_of_lt (blk_lt (g := gb101) (o := .cells #[.int .i64 0, .slice none 0 0] 26 (0, 0)) (bQ BK101)) : gb101 ≠ gb108)); have NB108_101 := Aside0.mk ((by rw [hg]; exact Nat.ne_of_gt (blk_lt (g := gb101) (o := .cells #[.int .i64 0, .slice none 0 0] 26 (0, 0)) (bQ BK101)) : gb108 ≠ gb101)); have NB0_108 := Aside0.mk ((by rw [hg]; exact Nat.ne_of_lt (IsS82.lt (show IsS82 w0 _ g s0_0 t106 t107 from wHI0_spec_l1Cur_committee)) : g ≠ gb108)); have NB108_0 := Aside0.mk ((by rw [hg]; exact Nat.ne_of_gt (IsS82.lt (show IsS82 w0 _ g s0_0 t106 t107 from wHI0_spec_l1Cur_committee)) : gb108 ≠ g)); replace HO105 := rP HO105 hb; replace BK101 := bP BK101 hb; replace HK := Aside0.mk (KeepBut.trans (wHK_spec_l1Cur_committee) (KeepBut.of_below hb g none) (.inl rfl)); replace HB := Aside0.mk (below_step (wHB_spec_l1Cur_committee) hb); replace HI0 := Aside0.mk (IsS82.below (wHI0_spec_l1Cur_committee) hb); clear hb hg; have hnb52 := NB108_101.out; have hnc52 := NB101_108.out; have hnb53 := NB108_0.out; have hnc53 := NB0_108.out; (try clear hcz45_0 hcz45_1 hfz45_0 hfz45_1 hcz47_0 hcz47_1 hfz47_0 hfz47_1); obtain ⟨hcz54_0, hcz54_1, hfz54_0, hfz54_1⟩ := zZ BK108; obtain ⟨Ao55, co55, eo55⟩ := Kd.R_slice HO105.out; subst eo55) | ((with_reducible refine gate_callee (f := 155) rfl ?_); refine gL 10 Tryz.func155 #[.pointer (some ⟨g, 0, none⟩), .int .i64 16] ?_; (with_reducible refine (spec_l1Cur_pick.calls g s0_0 t106 t107 16 t109 t110 t111 w0 _ ?side1 ?side2 A4.out).mono ?_); (case side1 => exact wHI0_spec_l1Cur_committee); (case side2 => exact wHB_spec_l1Cur_committee); rintro e w56 ⟨rfl, hi, hb, hk⟩; refine ⟨_, rfl, ?_⟩; replace BK101 := Aside0.mk (KeepBut.blk hk (g' := gb101) (o := .cells #[.int .i64 0, .slice none 0 0] 26 (0, 0)) (by (with_reducible repeat (first | refine kN ?_ _ | refine kD ?_ | refine kA ?_ _)); refine blk_far ?_ NB101_108.out _; (with_reducible repeat (first | refine kN ?_ _ | refine kD ?_ | refine kA ?_ _)); refine blk_far ?_ NB101_108.out _; (with_reducible repeat (first | refine kN ?_ _ | refine kD ?_ | refine kA ?_ _)); exact BK101.out) NB101_0.out (by simp)); replace HO105 := Aside0.mk (Kd.R_mono (Kd.R_keep (IsS82.apart (show IsS82 w0 _ g s0_0 t106 t107 from wHI0_spec_l1Cur_committee) (by (with_reducible repeat (first | apply qA | apply qN | apply qD)); exact (Kd.R_mono (Kd.R_far (p := ⟨gb108, 1, none⟩) (Kd.R_far (p := ⟨gb108, 0, none⟩) (Kd.R_types HO105.out BK108.out (by decide)) (fun _ hk => hk.2) (.int .i64 t102)) (fun _ hk => hk.2) (.slice Ao55 t103.length co55)) (fun _ h_ => h_.1))) (by decide)) hk (fun _ h => h.2)) (fun _ h => h.1)); replace BK108 := Aside0.mk (KeepBut.blk hk (g' := gb108) (o := .cells #[.int .i64 t102, .slice Ao55 t103.length co55] 26 (0, 0)) (by (with_reducible repeat (first | refine kN ?_ _ | refine kD ?_ | refine kA ?_ _)); refine blk_put (cs := #[.int .i64 t102, .slice none 0 0]) ?_ 1 _ rfl; (with_reducible repeat (first | refine kN ?_ _ | refine kD ?_ | refine kA ?_ _)); refine blk_put (cs := #[.int .i64 0, .slice none 0 0]) ?_ 0 _ rfl; (with_reducible repeat (first | refine kN ?_ _ | refine kD ?_ | refine kA ?_ _)); exact BK108.out) NB108_0.out (by simp)); replace HK := Aside0.mk (KeepBut.trans (wHK_spec_l1Cur_committee) hk (.inl rfl)); replace HB := Aside0.mk (hb); replace HI0 := Aside0.mk (hi); (try clear hb)))
 go_loopg [] k (fun kq w' => ∃ (x1001_1 : Int) (x1002_1 : Int) (x109001_1 : List Int) (u109001 : Value), Aside0 (spec_l1Cur_committee.l0 kq s0_0 x1001_1 x1002_1 t102 x109001_1 = some (r1, r2, r3, r4)) ∧ Aside0 (kq ≤ k) ∧ Aside0 (Kd.R (Kd.int .i64) 3 w' w.heap.size (fun _ => True) u109001 x109001_1) ∧ Aside0 (w'.heap[gb101]? = some (.cells #[.int .i64 0, (.slice none 0 0)] 26 (0, 0))) ∧ Aside0 (w'.heap[gb108]? = some (.cells #[.int .i64 t102, u109001] 26 (0, 0))) ∧ Aside0 (IsS82 w0 w' g s0_0 x1001_1 x1002_1) ∧ Aside0 (KeepBut w w' g none) ∧ Aside0 (Below w0.heap.size w0 w'))
 case atStart => exact ⟨(t110), (t111), (t103), (.slice Ao55 t103.length co55), H', ⟨Nat.le_refl _⟩, ⟨rQ HO105⟩, ⟨bQ BK101⟩, ⟨bQ BK108⟩, ⟨wHI0_spec_l1Cur_committee⟩, ⟨wHK_spec_l1Cur_committee⟩, ⟨wHB_spec_l1Cur_committee⟩⟩
 case round =>
  clear H'
  (try clear c1); (try clear c2); (try clear p2); (try clear q2); (try clear hx2); (try clear qi2); (try clear hf2); (try clear c3); (try clear c4); (try clear c5); (try clear c5b0); (try clear c5b1); (try clear p6); (try clear c12); (try clear c13); (try clear c15); (try clear c20); (try clear c24); (try clear c26); (try clear c26b0); (try clear c26b1); (try clear c28); (try clear c28b0); (try clear c28b1); (try clear p29); (try clear q29); (try clear hx29); (try clear qi29); (try clear hf29); (try clear c33); (try clear c34); (try clear c46); (try clear c48); (try clear c48b0); (try clear c48b1); (try clear c52); (try clear c53); (try clear hcz54_0); (try clear hcz54_1); (try clear hfz54_0); (try clear hfz54_1); (try clear hx29_0); (try clear p29); (try clear q29)
  obtain ⟨x1001_1, x1002_1, x109001_1, u109001, HA, HK1, HO_109001, BK101, BK108, HI0, HK, HB⟩ := hrel
  cases gk with
  | zero => exact absurd HA.out (by simp [spec_l1Cur_committee.l0])
  | succ k1 =>
   have H := HA.out
   clear HA
   simp only [spec_l1Cur_committee.l0] at H
   replace H := oB H
   obtain ⟨⟨t127, t128, t129⟩, A570, H⟩ := H
   (try dsimp only at H)
   have A57 := Aside0.mk A570
   clear A570
   by_cases c58 : (x109001_1.length : Int) < (wrap64 (9 + t127))
   rotate_left
   ·rw [if_neg c58] at H
    have c58b0 : decide ((x109001_1.length : Int) < (wrap64 (9 + t127))) = false := decide_eq_false c58
    clear c58
    simp only [Option.some.injEq, Prod.mk.injEq] at H
    obtain ⟨rfl, rfl, rfl, rfl⟩ := H
    try go_wp2
    replace HO_109001 := rD HO_109001
    replace BK101 := bD BK101
    replace BK108 := bD BK108
    replace HI0 := Aside0.mk (IsS82.drew HI0.out)
    replace HK := Aside0.mk (keep_drew HK.out)
    replace HB := Aside0.mk (below_drew1 HB.out)
    obtain ⟨Ao70, co70, eo70⟩ := Kd.R_slice HO_109001.out
    (first | subst eo70 | (injection eo70 with f1_ f2_ f3_; have f4_ := f1_.symm; have f5_ := f3_.symm; clear f1_ f2_ f3_; subst f4_; subst f5_))
    refine start_ (n := 7) (S := fun w' => w'.cell? ⟨gb108, 0, none⟩ = some (.int .i64 t102) ∧ w'.cell? ⟨gb108, 1, none⟩ = some (.slice Ao70 x109001_1.length co70)) (ds := []) #[F,F,F,F,F,F,F] (by kernel_rfl) rfl rfl ⟨(blk_cell BK108.out 0).trans rfl, (blk_cell BK108.out 1).trans rfl⟩ (fun hHeld => ?_)
    (try clear hcz68_0 hcz68_1 hfz68_0 hfz68_1)
    generalize wr.drew = w69 at HO_109001 BK101 BK108 HI0 HK HB hHeld ⊢
    refine pure_ (i := 0) (N := some 34) (v := ?_) (a' := ?_) #[T,F,F,F,F,F,F] rfl rfl (by kernel_rfl) (fun _ _ _ h => h) (Or.inl ⟨by rfl, ?_⟩) ?_ ?_
    rotate_left
    ·intro w'
     go_simp
     with_reducible rfl
    rotate_left
    ·simp only [Act.put, sA, sZ, sS, i64_w, i32_w]
     rfl
    refine pure_ (i := 3) (N := some 37) (v := ?_) (a' := ?_) #[T,F,F,T,F,F,F] rfl rfl (by kernel_rfl) (fun _ _ _ h => h) (Or.inl ⟨by rfl, ?_⟩) ?_ ?_
    rotate_left
    ·intro w'
     go_simp
     with_reducible rfl
    rotate_left
    ·simp only [Act.put, sA, sZ, sS, i64_w, i32_w]
     rfl
    refine take_ (i := 1) (N := some 35) (v := ?_) (a' := ?_) #[T,T,F,T,F,F,F] rfl rfl (by kernel_rfl) (fun _ _ _ h => h) (Or.inl ⟨by rfl, ?_⟩) hHeld ?_ ?_
    rotate_left
    ·rintro w' ⟨s0, s1⟩
     go_simp
     with_reducible rfl
    rotate_left
    ·simp only [Act.put, sA, sZ, sS, i64_w, i32_w]
     rfl
    refine pure_ (i := 2) (N := some 36) (v := ?_) (a' := ?_) #[T,T,T,T,F,F,F] rfl rfl (by kernel_rfl) (fun _ _ _ h => h) (Or.inl ⟨by rfl, ?_⟩) ?_ ?_
    rotate_left
    ·intro w'
     go_simp
     with_reducible rfl
    rotate_left
    ·simp only [Act.put, sA, sZ, sS, i64_w, i32_w]
     rfl
    refine one_ (i := 4) (N := some 38) #[T,T,T,T,T,F,F] rfl rfl (by kernel_rfl) (by decide) (fun K hK => ?_)
    refine gE Tryz.func155 #[.pointer (some ⟨g, 0, none⟩), .int .i64 2] ?_
    with_reducible refine (spec_l1Cur_pick.calls g s0_0 x1001_1 x1002_1 2 t127 t128 t129 w0 _ ?side1 ?side2 A57.out).mono ?_
    (case side1 => exact wHI0_spec_l1Cur_committee)
    (case side2 => exact wHB_spec_l1Cur_committee)
    rintro e w71 ⟨rfl, hi, hb, hk⟩
    refine ⟨_, rfl, ?_⟩
    replace HO_109001 := Aside0.mk (Kd.R_mono (Kd.R_keep (IsS82.apart (show IsS82 w0 _ g s0_0 x1001_1 x1002_1 from wHI0_spec_l1Cur_committee) HO_109001.out (by decide)) hk (fun _ h => h.2)) (fun _ h => h.1))
    replace BK101 := Aside0.mk (KeepBut.blk hk (g' := gb101) (o := .cells #[.int .i64 0, .slice none 0 0] 26 (0, 0)) BK101.out NB101_0.out (by simp))
    replace BK108 := Aside0.mk (KeepBut.blk hk (g' := gb108) (o := .cells #[.int .i64 t102, .slice Ao70 x109001_1.length co70] 26 (0, 0)) BK108.out NB108_0.out (by simp))
    replace HK := Aside0.mk (KeepBut.trans (wHK_spec_l1Cur_committee) hk (.inl rfl))
    replace HB := Aside0.mk (hb)
    replace HI0 := Aside0.mk (hi)
    (try clear hb)
    (try clear hb2)
    (try clear hk)
    (try clear hi)
    refine hK.out _ _ ⟨(blk_cell BK108.out 0).trans rfl, (blk_cell BK108.out 1).trans rfl⟩ (fun hHeld => ?_)
    clear hK K
    refine nM ?_
    refine pure_ (i := 5) (N := some 39) (v := ?_) (a' := ?_) #[T,T,T,T,T,T,F] rfl rfl (by kernel_rfl) (fun _ _ _ h => h) (Or.inl ⟨by rfl, ?_⟩) ?_ ?_
    rotate_left
    ·intro w'
     go_simp
     with_reducible rfl
    rotate_left
    ·simp only [Act.put, sA, sZ, sS, i64_w, i32_w]
     rfl
    refine pure_ (i := 6) (N := some 40) (v := ?_) (a' := ?_) #[T,T,T,T,T,T,T] rfl rfl (by kernel_rfl) (fun _ _ _ h => h) (Or.inl ⟨by rfl, ?_⟩) ?_ ?_
    rotate_left
    ·intro w'
     go_simp
     with_reducible rfl
    rotate_left
    ·simp only [Act.put, sA, sZ, sS, i64_w, i32_w]
     rfl
    refine done_ (by kernel_rfl) ?_
    have hnb72 := NB108_101.out
    have hnc72 := NB101_108.out
    have hnb73 := NB108_0.out
    have hnc73 := NB0_108.out
    obtain ⟨hcz74_0, hcz74_1, hfz74_0, hfz74_1⟩ := zZ BK108
    have hnb75 := NB101_0.out
    have hnc75 := NB0_101.out
    obtain ⟨hcz76_0, hcz76_1, hfz76_0, hfz76_1⟩ := zZ BK101
    try go_wp2
    refine bodyPost_ret (results_cell_row rfl _ _ gb101 26 #[.int .i64 t102, .slice Ao70 x109001_1.length co70] (0, 0) _ rfl (by refine blk_put (cs := #[.int .i64 t102, .slice none 0 0]) ?_ 1 _ rfl; refine blk_put (cs := #[.int .i64 0, .slice none 0 0]) ?_ 0 _ rfl; exact BK101.out) Tryz.underlying26 rfl (by kernel_rfl)) rfl ?_
    exact ⟨_, fR, by exact Kd.R_mono (Kd.R_far (p := ⟨gb101, 1, none⟩) (Kd.R_far (p := ⟨gb101, 0, none⟩) (Kd.R_types HO_109001.out BK101.out (by decide)) (fun _ hk => hk.2) (.int .i64 t102)) (fun _ hk => hk.2) (.slice Ao70 x109001_1.length co70)) (fun _ hk => trivial), wHI0_spec_l1Cur_committee, wHB_spec_l1Cur_committee, wHK_spec_l1Cur_committee⟩
   rw [if_pos c58] at H
   have c58b0 := decide_eq_true c58
   clear c58
   by_cases c59 : x109001_1.length < 17592186044416
   rotate_left
   ·rw [if_neg c59] at H
    exact absurd H (by simp)
   rw [if_pos c59] at H
   have LMc59 := Aside0.mk c59
   clear c59
   obtain ⟨y130, hy130⟩ : ∃ y_ : List Int, y_ = (x109001_1 ++ [1]) := ⟨_, rfl⟩
   replace H : (spec_l1Cur_committee.l0 k1 s0_0 t128 t129 t102 y130) = some (r1, r2, r3, r4) := by first | (rw [hy130]; with_reducible exact H) | (have H2_ := (Option.bind_some _ _).symm.trans H; rw [hy130]; with_reducible exact H2_) | (have H2_ := (Option.bind_some _ _).symm.trans H; with_reducible exact H2_) | with_reducible exact H | (rw [hy130]; exact H) | exact H
   have Ny130 := Aside0.mk hy130
   clear hy130
   have H' := Aside0.mk H
   clear H
   try go_wp2
   replace HO_109001 := rD HO_109001
   replace BK101 := bD BK101
   replace BK108 := bD BK108
   replace HI0 := Aside0.mk (IsS82.drew HI0.out)
   replace HK := Aside0.mk (keep_drew HK.out)
   replace HB := Aside0.mk (below_drew1 HB.out)
   obtain ⟨Ao61, co61, eo61⟩ := Kd.R_slice HO_109001.out
   (first | subst eo61 | (injection eo61 with f1_ f2_ f3_; have f4_ := f1_.symm; have f5_ := f3_.symm; clear f1_ f2_ f3_; subst f4_; subst f5_))
   refine start_ (n := 7) (S := fun w' => w'.cell? ⟨gb108, 0, none⟩ = some (.int .i64 t102) ∧ w'.cell? ⟨gb108, 1, none⟩ = some (.slice Ao61 x109001_1.length co61)) (ds := []) #[F,F,F,F,F,F,F] (by kernel_rfl) rfl rfl ⟨(blk_cell BK108.out 0).trans rfl, (blk_cell BK108.out 1).trans rfl⟩ (fun hHeld => ?_)
   generalize wr.drew = w60 at HO_109001 BK101 BK108 HI0 HK HB hHeld ⊢
   refine pure_ (i := 0) (N := some 34) (v := ?_) (a' := ?_) #[T,F,F,F,F,F,F] rfl rfl (by kernel_rfl) (fun _ _ _ h => h) (Or.inl ⟨by rfl, ?_⟩) ?_ ?_
   rotate_left
   ·intro w'
    go_simp
    with_reducible rfl
   rotate_left
   ·simp only [Act.put, sA, sZ, sS, i64_w, i32_w]
    rfl
   refine pure_ (i := 3) (N := some 37) (v := ?_) (a' := ?_) #[T,F,F,T,F,F,F] rfl rfl (by kernel_rfl) (fun _ _ _ h => h) (Or.inl ⟨by rfl, ?_⟩) ?_ ?_
   rotate_left
   ·intro w'
    go_simp
    with_reducible rfl
   rotate_left
   ·simp only [Act.put, sA, sZ, sS, i64_w, i32_w]
    rfl
   refine take_ (i := 1) (N := some 35) (v := ?_) (a' := ?_) #[T,T,F,T,F,F,F] rfl rfl (by kernel_rfl) (fun _ _ _ h => h) (Or.inl ⟨by rfl, ?_⟩) hHeld ?_ ?_
   rotate_left
   ·rintro w' ⟨s0, s1⟩
    go_simp
    with_reducible rfl
   rotate_left
   ·simp only [Act.put, sA, sZ, sS, i64_w, i32_w]
    rfl
   refine pure_ (i := 2) (N := some 36) (v := ?_) (a' := ?_) #[T,T,T,T,F,F,F] rfl rfl (by kernel_rfl) (fun _ _ _ h => h) (Or.inl ⟨by rfl, ?_⟩) ?_ ?_
   rotate_left
   ·intro w'
    go_simp
    with_reducible rfl
   rotate_left
   ·simp only [Act.put, sA, sZ, sS, i64_w, i32_w]
    rfl
   refine one_ (i := 4) (N := some 38) #[T,T,T,T,T,F,F] rfl rfl (by kernel_rfl) (by decide) (fun K hK => ?_)
   refine gE Tryz.func155 #[.pointer (some ⟨g, 0, none⟩), .int .i64 2] ?_
   with_reducible refine (spec_l1Cur_pick.calls g s0_0 x1001_1 x1002_1 2 t127 t128 t129 w0 _ ?side1 ?side2 A57.out).mono ?_
   (case side1 => exact wHI0_spec_l1Cur_committee)
   (case side2 => exact wHB_spec_l1Cur_committee)
   rintro e w62 ⟨rfl, hi, hb, hk⟩
   refine ⟨_, rfl, ?_⟩
   replace HO_109001 := Aside0.mk (Kd.R_mono (Kd.R_keep (IsS82.apart (show IsS82 w0 _ g s0_0 x1001_1 x1002_1 from wHI0_spec_l1Cur_committee) HO_109001.out (by decide)) hk (fun _ h => h.2)) (fun _ h => h.1))
   replace BK101 := Aside0.mk (KeepBut.blk hk (g' := gb101) (o := .cells #[.int .i64 0, .slice none 0 0] 26 (0, 0)) BK101.out NB101_0.out (by simp))
   replace BK108 := Aside0.mk (KeepBut.blk hk (g' := gb108) (o := .cells #[.int .i64 t102, .slice Ao61 x109001_1.length co61] 26 (0, 0)) BK108.out NB108_0.out (by simp))
   replace HK := Aside0.mk (KeepBut.trans (wHK_spec_l1Cur_committee) hk (.inl rfl))
   replace HB := Aside0.mk (hb)
   replace HI0 := Aside0.mk (hi)
   (try clear hb)
   (try clear hb2)
   (try clear hk)
   (try clear hi)
   refine hK.out _ _ ⟨(blk_cell BK108.out 0).trans rfl, (blk_cell BK108.out 1).trans rfl⟩ (fun hHeld => ?_)
   clear hK K
   refine nM ?_
   refine pure_ (i := 5) (N := some 39) (v := ?_) (a' := ?_) #[T,T,T,T,T,T,F] rfl rfl (by kernel_rfl) (fun _ _ _ h => h) (Or.inl ⟨by rfl, ?_⟩) ?_ ?_
   rotate_left
   ·intro w'
    go_simp
    with_reducible rfl
   rotate_left
   ·simp only [Act.put, sA, sZ, sS, i64_w, i32_w]
    rfl
   refine pure_ (i := 6) (N := some 40) (v := ?_) (a' := ?_) #[T,T,T,T,T,T,T] rfl rfl (by kernel_rfl) (fun _ _ _ h => h) (Or.inl ⟨by rfl, ?_⟩) ?_ ?_
   rotate_left
   ·intro w'
    go_simp
    with_reducible rfl
   rotate_left
   ·simp only [Act.put, sA, sZ, sS, i64_w, i32_w]
    rfl
   refine done_ (by kernel_rfl) ?_
   have hnb63 := NB108_101.out
   have hnc63 := NB101_108.out
   have hnb64 := NB108_0.out
   have hnc64 := NB0_108.out
   obtain ⟨hcz65_0, hcz65_1, hfz65_0, hfz65_1⟩ := zZ BK108
   try go_wp2_with (first | ((with_reducible refine gate_builtin (b := .append) (xs := #[.tmp 42, .tmp 43]) rfl ?_); at_builtin; refine Kd.R_append (Kd.int .i64) w.heap.size rfl (.tmp 42) (.tmp 43) 24 3 (.int .i64 0) 8 rfl Tryz.underlying24 info3 rfl (by decide) (by omega) (.slice Ao61 x109001_1.length co61) x109001_1 1 [.int .i64 1] (fun _ => True) (fun _ => False) rfl rfl ?aP (fun _ hk => hk.elim) ?aF ?aO (Below.refl _ _) ?aS ?aL ?_; (case aP => exact rfl); (case aF => exact (fun _ _ => trivial)); (case aO => exact HO_109001.out); (case aS => exact (keep_size (w := w) (g := g) (row := none) (wHK_spec_l1Cur_committee))); (case aL => have := LMc59.out; omega); intro v131 w66 ho hb hg hat; rw [← Ny130.out] at ho; have HO132 := Aside0.mk (ho); replace BK101 := Aside0.mk (blk_grown (g := gb101) (o := .cells #[.int .i64 0, .slice none 0 0] 26 (0, 0)) BK101.out hg (Kd.R_ne HO_109001.out BK101.out (by decide))); replace BK108 := Aside0.mk (blk_grown (g := gb108) (o := .cells #[.int .i64 t102, .slice Ao61 x109001_1.length co61] 26 (0, 0)) BK108.out hg (Kd.R_ne HO_109001.out BK108.out (by decide))); replace HB := Aside0.mk (below_weaken (wHB_spec_l1Cur_committee) HL.out hb); replace HI0 := Aside0.mk (IsS82.grown (wHI0_spec_l1Cur_committee) hg (IsS82.own_ne HI0.out HO_109001.out (by decide))); replace HK := Aside0.mk (KeepBut.trans (wHK_spec_l1Cur_committee) (KeepBut.of_grown hg g) (Kd.R_base2 HO_109001.out)); clear ho hb hg hat; obtain ⟨Ao67, co67, eo67⟩ := Kd.R_slice HO132.out; subst eo67; (try clear hcz65_0 hcz65_1 hfz65_0 hfz65_1); obtain ⟨hcz68_0, hcz68_1, hfz68_0, hfz68_1⟩ := zZ BK108))
   go_roundg k1
   case measure => have := HK1.out; omega
   case rel => exact ⟨(t128), (t129), (y130), (.slice Ao67 y130.length co67), H', ⟨by have := HK1.out; omega⟩, ⟨by exact Kd.R_mono (Kd.R_far (p := ⟨gb108, 1, none⟩) (Kd.R_types HO132.out BK108.out (by decide)) (fun _ hk => hk.2) (.slice Ao67 y130.length co67)) (fun _ hk => trivial)⟩, ⟨by refine blk_far ?_ NB101_108.out _; exact BK101.out⟩, ⟨by refine blk_put (cs := #[.int .i64 t102, .slice Ao61 x109001_1.length co61]) ?_ 1 _ rfl; exact BK108.out⟩, ⟨wHI0_spec_l1Cur_committee⟩, ⟨wHK_spec_l1Cur_committee⟩, ⟨wHB_spec_l1Cur_committee⟩⟩
end Go.Proofs.YtamfpkefnhcngaaGreat.Q
namespace Go.Proofs.YtamfpkefnhcngaaGreat.Q
open Go.RowKit Go.Proofs.YtamfpkefnhcngaaGreatX Go.Proofs.YtamfpkefnhcngaaGreatY Go.Proofs.YtamfpkefnhcngaaGreatW.PrintWords Go.Proofs.YtamfpkefnhcngaaGreatW.PrintLast Go.Proofs.YtamfpkefnhcngaaGreatW.PrintMore
attribute [local go_sem] max2_int min2_int max_two min_two max_three min_three max_four min_four   -- for this text's walks alone
set_option linter.unusedVariables false
set_option linter.unusedSimpArgs false
def spec_DrawSwingsOf.f (k : Nat) (l0 : List Int) : Option (Int × List Int) := (spec_l1Cur_committee.f k l0 0 0 7).bind fun bt103 => (some (bt103.1, bt103.2.1))
theorem spec_DrawSwingsOf.calls (k : Nat) (A0 : Option Addr) (c0 : Nat) (l0 : List Int) (r1 : Int) (r2 : List Int) (w : World) (hr0 : Kd.C (Kd.int .u8) w A0 l0.length l0) (hc0 : l0.length ≤ c0) (h : spec_DrawSwingsOf.f k l0 = some (r1, r2)) :
  Calls Tryz.prog 81 #[.slice A0 l0.length c0] w fun e w' => ∃ v1_ : Value, e = .returned (.agg #[.int .i64 r1, v1_]) ∧ Kd.R (Kd.int .i64) 3 w' w.heap.size (fun _ => True) v1_ r2 ∧ Below w.heap.size w w' := by
 have hu26 := Tryz.underlying26
 have hu82 := Tryz.underlying82
 have HR0 := Aside0.mk hr0
 have HC0 := Aside0.mk hc0
 clear hr0 hc0
 have HB := Aside0.mk (Below.refl w.heap.size w)
 have H := h
 unfold spec_DrawSwingsOf.f at H
 clear h
 replace H := oB H
 obtain ⟨⟨t103, t104, t107, t108⟩, A20, H⟩ := H
 replace H : (some (t103, t104)) = some (r1, r2) := H
 have A2 := Aside0.mk A20
 clear A20
 simp only [Option.some.injEq, Prod.mk.injEq] at H
 obtain ⟨rfl, rfl⟩ := H
 go_enter Tryz.func81, Tryz.ntmps81
 go_wp2_with (first | ((with_reducible refine gate_dst (N := 2) rfl ?_); refine box_event ?hg (N := 2) ?hd (cs := #[.int .i64 0, .slice none 0 0]) (t := 26) ?hr ?_; (case hd => rfl); (case hg => rfl); (case hr => first | (go_simp; done) | (go_simp; rfl)); intro gb101 hg w3 hbox hb; have n0_ := sQ hb; have n1_ := Aside0.mk (hbox); have n2_ := Aside0.mk ((by rw [hg]; exact (below_size (wB)) : w.heap.size ≤ gb101)); have n3_ := Aside0.mk ((by rw [hg]; exact (below_size (wB)) : w.heap.size ≤ gb101)); clear HB; have HB := n0_; have BK101 := n1_; have GW101 := n2_; have GE101 := n3_; clear n0_ n1_ n2_ n3_; clear hb hbox hg) | ((with_reducible refine gate_dst (N := 6) rfl ?_); refine box_event ?hg (N := 6) ?hd (cs := #[.slice A0 l0.length c0, .int .i64 0, .int .u64 0]) (t := 82) ?hr ?_; (case hd => rfl); (case hg => rfl); (case hr => first | (go_simp; done) | (go_simp; rfl)); intro gb102 hg w4 hbox hb; have n0_ := bP BK101 hb; have n1_ := sQ hb; have n2_ := Aside0.mk (hbox); have n3_ := Aside0.mk ((by rw [hg]; exact (below_size (wB)) : w.heap.size ≤ gb102)); have n4_ := Aside0.mk ((by rw [hg]; exact (below_size (wB)) : w.heap.size ≤ gb102)); have n5_ := Aside0.mk ((by rw [hg]; exact Nat.ne_of_lt (blk_lt (g := gb101) (o := .cells #[.int .i64 0, .slice none 0 0] 26 (0, 0)) (bQ BK101)) : gb101 ≠ gb102)); have n6_ := Aside0.mk ((by rw [hg]; exact Nat.ne_of_gt (blk_lt (g := gb101) (o := .cells #[.int .i64 0, .slice none 0 0] 26 (0, 0)) (bQ BK101)) : gb102 ≠ gb101)); have n7_ := Aside0.mk ((show IsS82 w _ gb102 l0 0 0 from ⟨A0, c0, hbox, (by rw [hg]; exact (below_size (wB))), HR0.out⟩)); clear BK101; clear HB; have BK101 := n0_; have HB := n1_; have BK102 := n2_; have GW102 := n3_; have GE102 := n4_; have NB101_102 := n5_; have NB102_101 := n6_; have HI102 := n7_; clear n0_ n1_ n2_ n3_ n4_ n5_ n6_ n7_; clear hb hbox hg) | ((with_reducible refine gate_callee (f := 133) rfl ?_); refine gL 8 Tryz.func133 #[.pointer (some ⟨gb102, 0, none⟩), .int .i64 7] ?_; (with_reducible refine (spec_l1Cur_committee.calls k gb102 l0 0 0 7 t103 t104 t107 t108 w _ ?side1 ?side2 A2.out).mono ?_); (case side1 => repeat (first | (with_reducible first | exact HI102.out | apply IsS82.alloc | apply IsS82.drewN | apply IsS82.drew | apply IsS82.set_1 | apply IsS82.set_2 | refine IsS82.far ?_ NB102_101.out _) | exact HI102.out)); (case side2 => repeat (first | (with_reducible first | exact HB.out | apply ba | apply bd | apply be | refine bs ?_ (IsS82.ge HI102.out) | refine bs ?_ GE101.out) | exact HB.out)); rintro e w5 ⟨v105, rfl, ho0, hi, hb, hk⟩; refine ⟨_, rfl, ?_⟩; have n0_ := Aside0.mk (KeepBut.blk hk (g' := gb101) (o := .cells #[.int .i64 0, .slice none 0 0] 26 (0, 0)) (bQ BK101) NB101_102.out (by simp)); have n1_ := Aside0.mk (Kd.R_lower ho0 (below_size (by repeat (first | (with_reducible first | exact HB.out | apply ba | apply bd | apply be | refine bs ?_ (IsS82.ge HI102.out) | refine bs ?_ GE101.out) | exact HB.out)))); have n2_ := Aside0.mk (hb); have n3_ := Aside0.mk (hi); clear BK101; clear HB; clear HI102; have BK101 := n0_; have HO106 := n1_; have HB := n2_; have HI102 := n3_; clear n0_ n1_ n2_ n3_; (try clear hb); (try clear hb2); (try clear hk); (try clear hi); (try clear ho0); have hnb6 := NB101_102.out; have hnc6 := NB102_101.out; obtain ⟨hcz7_0, hcz7_1, hfz7_0, hfz7_1⟩ := zZ BK101; obtain ⟨Ao8, co8, eo8⟩ := Kd.R_slice HO106.out; subst eo8))
 refine bodyPost_ret (results_cell_row rfl _ _ gb101 26 #[.int .i64 t103, .slice Ao8 t104.length co8] (0, 0) _ rfl (by (try refine bp ?_); refine blk_put (cs := #[.int .i64 t103, .slice none 0 0]) ?_ 1 _ rfl; (try refine bp ?_); refine blk_put (cs := #[.int .i64 0, .slice none 0 0]) ?_ 0 _ rfl; (first | exact bp BK101.out | exact BK101.out)) Tryz.underlying26 rfl (by kernel_rfl)) rfl ?_
 exact ⟨_, fR, by (try refine rp ?_); exact Kd.R_mono (Kd.R_far (p := ⟨gb101, 1, none⟩) (Kd.R_far (p := ⟨gb101, 0, none⟩) (Kd.R_types HO106.out BK101.out (by decide)) (fun _ hk => hk.2) (.int .i64 t103)) (fun _ hk => hk.2) (.slice Ao8 t104.length co8)) (fun _ hk => trivial), by repeat (first | (with_reducible first | exact HB.out | apply ba | apply bd | apply be | refine bs ?_ (IsS82.ge HI102.out) | refine bs ?_ GE101.out) | exact HB.out)⟩
def spec_DrawSwingSets.f (k : Nat) (l0 : List Int) : Option (Int × List Int × Int) := (spec_l1Cur_committee.f k l0 0 0 6).bind fun bt103 => ((spec_l1Cur_pick.f l0 bt103.2.2.1 bt103.2.2.2 (wrap64 ((bt103.2.1.length : Int) + 2))).bind fun bt110 => (some (bt103.1, bt103.2.1, wrap64 (bt110.1 - 1))))
def spec_DrawSwingSets.T3 : Bool × List (List Nat × List Nat) := (true, [([], []), ([], []), ([], []), ([2], [2]), ([3], [3]), ([4], [4]), ([1, 5], [1, 5]), ([6], [6]), ([0, 6, 0], [0]), ([7, 8, 0, 1, 2, 3, 4, 5, 6, 7, 8], [7])])
def spec_DrawSwingSets.B3 : List Nat := [0, 0, 0, 4, 12, 28, 62, 126, 127, 511]
theorem spec_DrawSwingSets.tab3 : rtab .any (opsOf Tryz.f82 3) = spec_DrawSwingSets.T3 := by kernel_rfl
theorem spec_DrawSwingSets.bits3 : waitsOk spec_DrawSwingSets.T3.2 spec_DrawSwingSets.B3 = true := by kernel_rfl
theorem wHI102_spec_DrawSwingSets {p : Prop} (h : p := by repeat (first | (with_reducible first | exact HI102.out | apply IsS82.alloc | apply IsS82.drewN | apply IsS82.drew | apply IsS82.set_1 | apply IsS82.set_2 | refine IsS82.far ?_ NB102_101.out _ | refine IsS82.far ?_ NB102_109.out _) | exact HI102.out)) : p := h
theorem wHB_spec_DrawSwingSets {p : Prop} (h : p := by repeat (first | (with_reducible first | exact HB.out | apply ba | apply bd | apply be | refine bs ?_ (IsS82.ge HI102.out) | refine bs ?_ GE101.out | refine bs ?_ GE109.out) | exact HB.out)) : p := h
theorem spec_DrawSwingSets.calls (k : Nat) (A0 : Option Addr) (c0 : Nat) (l0 : List Int) (r1 : Int) (r2 : List Int) (r3 : Int) (w : World) (hr0 : Kd.C (Kd.int .u8) w A0 l0.length l0) (hc0 : l0.length ≤ c0) (h : spec_DrawSwingSets.f k l0 = some (r1, r2, r3)) :
  Calls Tryz.prog 82 #[.slice A0 l0.length c0] w fun e w' => ∃ v1_ : Value, e = .returned (.tuple #[.agg #[.int .i64 r1, v1_], .int .i64 r3]) ∧ Kd.R (Kd.int .i64) 3 w' w.heap.size (fun _ => True) v1_ r2 ∧ Below w.heap.size w w' := by
 have hu26 := Tryz.underlying26
 have hu82 := Tryz.underlying82
 have HR0 := Aside0.mk hr0
 have HC0 := Aside0.mk hc0
 clear hr0 hc0
 have HB := Aside0.mk (Below.refl w.heap.size w)
 have H := h
 unfold spec_DrawSwingSets.f at H
 clear h
 replace H := oB H
 obtain ⟨⟨t103, t104, t107, t108⟩, A20, H⟩ := H
 replace H : ((spec_l1Cur_pick.f l0 t107 t108 (wrap64 ((t104.length : Int) + 2))).bind fun bt110 => (some (t103, t104, wrap64 (bt110.1 - 1)))) = some (r1, r2, r3) := H
 have A2 := Aside0.mk A20
 clear A20
 replace H := oB H
 obtain ⟨⟨t110, t111, t112⟩, A30, H⟩ := H
 replace H : (some (t103, t104, wrap64 (t110 - 1))) = some (r1, r2, r3) := H
 have A3 := Aside0.mk A30
 clear A30
 simp only [Option.some.injEq, Prod.mk.injEq] at H
 obtain ⟨rfl, rfl, rfl⟩ := H
 go_enter Tryz.func82, Tryz.ntmps82
 try go_wp2_with (first | ((with_reducible refine gate_dst (N := 2) rfl ?_); refine box_event ?hg (N := 2) ?hd (cs := #[.int .i64 0, .slice none 0 0]) (t := 26) ?hr ?_; (case hd => rfl); (case hg => rfl); (case hr => first | (go_simp; done) | (go_simp; rfl)); intro gb101 hg w4 hbox hb; have n0_ := sQ hb; have n1_ := Aside0.mk (hbox); have n2_ := Aside0.mk ((by rw [hg]; exact (below_size (wB)) : w.heap.size ≤ gb101)); have n3_ := Aside0.mk ((by rw [hg]; exact (below_size (wB)) : w.heap.size ≤ gb101)); clear HB; have HB := n0_; have BK101 := n1_; have GW101 := n2_; have GE101 := n3_; clear n0_ n1_ n2_ n3_; clear hb hbox hg) | ((with_reducible refine gate_dst (N := 8) rfl ?_); refine box_event ?hg (N := 8) ?hd (cs := #[.slice A0 l0.length c0, .int .i64 0, .int .u64 0]) (t := 82) ?hr ?_; (case hd => rfl); (case hg => rfl); (case hr => first | (go_simp; done) | (go_simp; rfl)); intro gb102 hg w5 hbox hb; have n0_ := bP BK101 hb; have n1_ := sQ hb; have n2_ := Aside0.mk (hbox); have n3_ := Aside0.mk ((by rw [hg]; exact (below_size (wB)) : w.heap.size ≤ gb102)); have n4_ := Aside0.mk ((by rw [hg]; exact (below_size (wB)) : w.heap.size ≤ gb102)); have n5_ := Aside0.mk ((by rw [hg]; exact Nat.ne_of_lt (blk_lt (g := gb101) (o := .cells #[.int .i64 0, .slice none 0 0] 26 (0, 0)) (bQ BK101)) : gb101 ≠ gb102)); have n6_ := Aside0.mk ((by rw [hg]; exact Nat.ne_of_gt (blk_lt (g := gb101) (o := .cells #[.int .i64 0, .slice none 0 0] 26 (0, 0)) (bQ BK101)) : gb102 ≠ gb101)); have n7_ := Aside0.mk ((show IsS82 w _ gb102 l0 0 0 from ⟨A0, c0, hbox, (by rw [hg]; exact (below_size (wB))), HR0.out⟩)); clear BK101; clear HB; have BK101 := n0_; have HB := n1_; have BK102 := n2_; have GW102 := n3_; have GE102 := n4_; have NB101_102 := n5_; have NB102_101 := n6_; have HI102 := n7_; clear n0_ n1_ n2_ n3_ n4_ n5_ n6_ n7_; clear hb hbox hg) | ((with_reducible refine gate_callee (f := 133) rfl ?_); refine gL 10 Tryz.func133 #[.pointer (some ⟨gb102, 0, none⟩), .int .i64 6] ?_; (with_reducible refine (spec_l1Cur_committee.calls k gb102 l0 0 0 6 t103 t104 t107 t108 w _ ?side1 ?side2 A2.out).mono ?_); (case side1 => exact wHI102_spec_DrawSwingSets); (case side2 => exact wHB_spec_DrawSwingSets); rintro e w6 ⟨v105, rfl, ho0, hi, hb, hk⟩; refine ⟨_, rfl, ?_⟩; have n0_ := Aside0.mk (KeepBut.blk hk (g' := gb101) (o := .cells #[.int .i64 0, .slice none 0 0] 26 (0, 0)) (bQ BK101) NB101_102.out (by simp)); have n1_ := Aside0.mk (Kd.R_lower ho0 (below_size (wHB_spec_DrawSwingSets))); have n2_ := Aside0.mk (hb); have n3_ := Aside0.mk (hi); clear BK101; clear HB; clear HI102; have BK101 := n0_; have HO106 := n1_; have HB := n2_; have HI102 := n3_; clear n0_ n1_ n2_ n3_; (try clear hb); (try clear hb2); (try clear hk); (try clear hi); (try clear ho0)) | ((with_reducible refine gate_dst (N := 5) rfl ?_); refine box_event ?hg (N := 5) ?hd (cs := #[.int .i64 0, .slice none 0 0]) (t := 26) ?hr ?_; (case hd => rfl); (case hg => rfl); (case hr => first | (go_simp; done) | (go_simp; rfl)); intro gb109 hg w7 hbox hb; have n0_ := rP HO106 hb; have n1_ := bP BK101 hb; have n2_ := Aside0.mk (IsS82.below (wHI102_spec_DrawSwingSets) hb); have n3_ := Aside0.mk (below_step (wHB_spec_DrawSwingSets) hb); have n4_ := Aside0.mk (hbox); have n5_ := Aside0.mk ((by rw [hg]; exact (below_size (wHB_spec_DrawSwingSets)) : w.heap.size ≤ gb109)); have n6_ := Aside0.mk ((by rw [hg]; exact (below_size (wHB_spec_DrawSwingSets)) : w.heap.size ≤ gb109)); have n7_ := Aside0.mk ((by rw [hg]; exact Nat.ne_of_lt (blk_lt (g := gb101) (o := .cells #[.int .i64 0, .slice none 0 0] 26 (0, 0)) (bQ BK101)) : gb101 ≠ gb109)); have n8_ := Aside0.mk ((by rw [hg]; exact Nat.ne_of_gt (blk_lt (g := gb101) (o := .cells #[.int .i64 0, .slice none 0 0] 26 (0, 0)) (bQ BK101)) : gb109 ≠ gb101)); have n9_ := Aside0.mk ((by rw [hg]; exact Nat.ne_of_lt (IsS82.lt (show IsS82 w _ gb102 l0 t107 t108 from wHI102_spec_DrawSwingSets)) : gb102 ≠ gb109)); have n10_ := Aside0.mk ((by rw [hg]; exact Nat.ne_of_gt (IsS82.lt (show IsS82 w _ gb102 l0 t107 t108 from wHI102_spec_DrawSwingSets)) : gb109 ≠ gb102)); clear HO106; clear BK101; clear HI102; clear HB; have HO106 := n0_; have BK101 := n1_; have HI102 := n2_; have HB := n3_; have BK109 := n4_; have GW109 := n5_; have GE109 := n6_; have NB101_109 := n7_; have NB109_101 := n8_; have NB102_109 := n9_; have NB109_102 := n10_; clear n0_ n1_ n2_ n3_ n4_ n5_ n6_ n7_ n8_ n9_ n10_; clear hb hbox hg; have hnb8 := NB109_101.out; have hnc8 := NB101_109.out; have hnb9 := NB109_102.out; have hnc9 := NB102_109.out; obtain ⟨hcz10_0, hcz10_1, hfz10_0, hfz10_1⟩ := zZ BK109; obtain ⟨Ao11, co11, eo11⟩ := Kd.R_slice HO106.out; subst eo11))
 have n0_ : Aside0 (Kd.R (Kd.int .i64) 3 ((w7.setCell ⟨gb109, 0, none⟩ (.int .i64 t103)).setCell ⟨gb109, 1, none⟩ (.slice Ao11 t104.length co11)) w.heap.size (fun _ => True) (.slice Ao11 t104.length co11) t104) := ⟨by (try refine rp ?_); exact Kd.R_mono (Kd.R_far (p := ⟨gb109, 1, none⟩) (Kd.R_far (p := ⟨gb109, 0, none⟩) (Kd.R_types HO106.out BK109.out (by decide)) (fun _ hk => hk.2) (.int .i64 t103)) (fun _ hk => hk.2) (.slice Ao11 t104.length co11)) (fun _ hk => trivial)⟩
 have n1_ : Aside0 (((w7.setCell ⟨gb109, 0, none⟩ (.int .i64 t103)).setCell ⟨gb109, 1, none⟩ (.slice Ao11 t104.length co11)).heap[gb101]? = some (.cells #[.int .i64 0, .slice none 0 0] 26 (0, 0))) := ⟨by (try refine bp ?_); refine blk_far ?_ NB101_109.out _; (try refine bp ?_); refine blk_far ?_ NB101_109.out _; (first | exact bp BK101.out | exact BK101.out)⟩
 have n2_ : Aside0 (((w7.setCell ⟨gb109, 0, none⟩ (.int .i64 t103)).setCell ⟨gb109, 1, none⟩ (.slice Ao11 t104.length co11)).heap[gb109]? = some (.cells #[.int .i64 t103, .slice Ao11 t104.length co11] 26 (0, 0))) := ⟨by (try refine bp ?_); refine blk_put (cs := #[.int .i64 t103, .slice none 0 0]) ?_ 1 _ rfl; (try refine bp ?_); refine blk_put (cs := #[.int .i64 0, .slice none 0 0]) ?_ 0 _ rfl; (first | exact bp BK109.out | exact BK109.out)⟩
 have n3_ : Aside0 (IsS82 w ((w7.setCell ⟨gb109, 0, none⟩ (.int .i64 t103)).setCell ⟨gb109, 1, none⟩ (.slice Ao11 t104.length co11)) gb102 l0 t107 t108) := ⟨wHI102_spec_DrawSwingSets⟩
 have n4_ : Aside0 (Below w.heap.size w ((w7.setCell ⟨gb109, 0, none⟩ (.int .i64 t103)).setCell ⟨gb109, 1, none⟩ (.slice Ao11 t104.length co11))) := ⟨wHB_spec_DrawSwingSets⟩
 (try clear HO106)
 (try clear BK101)
 (try clear BK109)
 (try clear HI102)
 (try clear HB)
 generalize ((w7.setCell ⟨gb109, 0, none⟩ (.int .i64 t103)).setCell ⟨gb109, 1, none⟩ (.slice Ao11 t104.length co11)) = w12 at n0_ n1_ n2_ n3_ n4_ ⊢
 have HO106 := n0_
 have BK101 := n1_
 have BK109 := n2_
 have HI102 := n3_
 have HB := n4_
 clear n0_ n1_ n2_ n3_ n4_
 have n0_ := rD HO106
 have n1_ := bD BK101
 have n2_ := bD BK109
 have n3_ := Aside0.mk (IsS82.drew HI102.out)
 have n4_ := Aside0.mk (below_drew1 HB.out)
 clear HO106
 clear BK101
 clear BK109
 clear HI102
 clear HB
 have HO106 := n0_
 have BK101 := n1_
 have BK109 := n2_
 have HI102 := n3_
 have HB := n4_
 clear n0_ n1_ n2_ n3_ n4_
 refine start_ (n := 10) (S := fun w' => w'.cell? ⟨gb109, 0, none⟩ = some (.int .i64 t103) ∧ w'.cell? ⟨gb109, 1, none⟩ = some (.slice Ao11 t104.length co11)) (ds := []) #[false, false, false, false, false, false, false, false, false, false] (by kernel_rfl) rfl rfl ⟨(blk_cell BK109.out 0).trans rfl, (blk_cell BK109.out 1).trans rfl⟩ (fun hHeld => ?_); refine with_tabW spec_DrawSwingSets.tab3 spec_DrawSwingSets.bits3 (fun HT_ HW_ => ?_)
 generalize w12.drew = w13 at HO106 BK101 BK109 HI102 HB hHeld ⊢
 refine pU 1 HT_ ?_
 refine pU 2 HT_ ?_
 refine tK 0 HT_ HW_ hHeld (hy := by rintro w' ⟨s0, s1⟩; go_simp; with_reducible rfl) ?_
 refine tK 3 HT_ HW_ hHeld (hy := by rintro w' ⟨s0, s1⟩; go_simp; with_reducible rfl) ?_
 refine pU 4 HT_ ?_
 refine pU 5 HT_ ?_
 refine oN 6 HT_ (fun K hK => ?_)
 refine gE Tryz.func155 #[.pointer (some ⟨gb102, 0, none⟩), .int .i64 (wrap64 ((t104.length : Int) + 2))] ?_
 with_reducible refine (spec_l1Cur_pick.calls gb102 l0 t107 t108 (wrap64 ((t104.length : Int) + 2)) t110 t111 t112 w _ ?side1 ?side2 A3.out).mono ?_
 (case side1 => exact wHI102_spec_DrawSwingSets)
 (case side2 => exact wHB_spec_DrawSwingSets)
 rintro e w14 ⟨rfl, hi, hb, hk⟩
 refine ⟨_, rfl, ?_⟩
 have n0_ := Aside0.mk (KeepBut.blk hk (g' := gb101) (o := .cells #[.int .i64 0, .slice none 0 0] 26 (0, 0)) (bQ BK101) NB101_102.out (by simp))
 have n1_ := Aside0.mk (Kd.R_mono (Kd.R_keep (IsS82.apart (show IsS82 w _ gb102 l0 t107 t108 from wHI102_spec_DrawSwingSets) (rQ HO106) (by decide)) hk (fun _ h => h.2)) (fun _ h => h.1))
 have n2_ := Aside0.mk (KeepBut.blk hk (g' := gb109) (o := .cells #[.int .i64 t103, .slice Ao11 t104.length co11] 26 (0, 0)) (bQ BK109) NB109_102.out (by simp))
 have n3_ := Aside0.mk (hb)
 have n4_ := Aside0.mk (hi)
 clear BK101
 clear HO106
 clear BK109
 clear HB
 clear HI102
 have BK101 := n0_
 have HO106 := n1_
 have BK109 := n2_
 have HB := n3_
 have HI102 := n4_
 clear n0_ n1_ n2_ n3_ n4_
 (try clear hb)
 (try clear hb2)
 (try clear hk)
 (try clear hi)
 refine hK.out _ _ ⟨(blk_cell BK109.out 0).trans rfl, (blk_cell BK109.out 1).trans rfl⟩ (fun hHeld => ?_)
 clear hK K
 refine nM ?_
 refine pU 7 HT_ ?_
 refine oN 8 HT_ (fun K hK => ?_)
 have hs15 : w14.cell? ⟨gb101, 0, none⟩ = some (.int .i64 0) := (blk_cell BK101.out 0).trans rfl
 have hfs15 := blk_frozen BK101.out 0
 have hns15_1 := NB109_101.out
 have hms15_1 := NB101_109.out
 have hs16 : w14.cell? ⟨gb101, 1, none⟩ = some (.slice none 0 0) := (blk_cell BK101.out 1).trans rfl
 have hfs16 := blk_frozen BK101.out 1
 have hns16_1 := NB109_101.out
 have hms16_1 := NB101_109.out
 refine skip_ (w1 := ?_) (by rfl) rfl ?_ ?_
 rotate_left
 ·go_simp
  rfl
 refine hK.out _ _ ⟨((cell_far (p := ⟨gb101, _, none⟩) NB109_101.out _).trans (((cell_far (p := ⟨gb101, _, none⟩) NB109_101.out _).trans (hHeld.1)))), ((cell_far (p := ⟨gb101, _, none⟩) NB109_101.out _).trans (((cell_far (p := ⟨gb101, _, none⟩) NB109_101.out _).trans (hHeld.2))))⟩ (fun hHeld => ?_)
 clear hK K
 refine pU 9 HT_ ?_
 refine done_ (done_of HT_.out (by kernel_rfl)) ?_
 try go_wp2
 refine bodyPost_ret (results_ct rfl _ _ gb101 26 #[.int .i64 t103, .slice Ao11 t104.length co11] (0, 0) _ rfl (by (try refine bp ?_); refine blk_put (cs := #[.int .i64 t103, .slice none 0 0]) ?_ 1 _ rfl; (try refine bp ?_); refine blk_put (cs := #[.int .i64 0, .slice none 0 0]) ?_ 0 _ rfl; (first | exact bp BK101.out | exact BK101.out)) Tryz.underlying26 rfl (by kernel_rfl)) rfl ?_
 exact ⟨_, fR, by (try refine rp ?_); exact Kd.R_mono (Kd.R_far (p := ⟨gb101, 1, none⟩) (Kd.R_far (p := ⟨gb101, 0, none⟩) (Kd.R_types HO106.out BK101.out (by decide)) (fun _ hk => hk.2) (.int .i64 t103)) (fun _ hk => hk.2) (.slice Ao11 t104.length co11)) (fun _ hk => trivial), wHB_spec_DrawSwingSets⟩
end Go.Proofs.YtamfpkefnhcngaaGreat.Q
namespace Go.Proofs.YtamfpkefnhcngaaGreat.Q
open Go.RowKit Go.Proofs.YtamfpkefnhcngaaGreatX Go.Proofs.YtamfpkefnhcngaaGreatY Go.Proofs.YtamfpkefnhcngaaGreatX Go.Proofs.YtamfpkefnhcngaaGreatW.PrintWords Go.Proofs.YtamfpkefnhcngaaGreatW.PrintLast Go.Proofs.YtamfpkefnhcngaaGreatW.PrintMore
attribute [local go_sem] max2_int min2_int max_two min_two max_three min_three max_four min_four   -- for this text's walks alone
set_option linter.unusedVariables false
set_option linter.unusedSimpArgs false
attribute [local go_sem high] eqA60
mutual
def laws_FnSwingsTold.j5 : Nat → List Int → Option (Bool)
 | 0, _ => none
 | k + 1, x1 => (spec_DrawSwingSets.f k x1).bind fun bt233 => ((impl_SwingSets.f k bt233.1 bt233.2.1 bt233.2.2).bind fun bt239 => ((spec_SwingSets.f k bt233.1 bt233.2.1 bt233.2.2).bind fun bt243 => ((impl_SwingsBySize.f k bt233.1 bt233.2.1 bt233.2.2).bind fun bt247 => ((spec_SwingsBySize.f k bt233.1 bt233.2.1 bt233.2.2).bind fun bt251 => (if (bt239.2 == bt243.2) = true then ((laws_zRows.f k bt239.1 bt243.1).bind fun t255 => (if t255 = true then (if (bt247.2 == bt251.2) = true then ((laws_zSame.f k bt247.1 bt251.1).bind fun t256 => (if t256 = true then (some (bt247.2 == bt239.2)) else (none))) else (none)) else (none))) else (none))))))
def laws_FnSwingsTold.l0 : Nat → List Int → List Int → List (S60) → List (S60) → List (S60) → List (S60) → List (S60) → Int → Int → Int → List Int → List Int → Int → Int → Int → List Int → Option (Bool)
 | 0, _, _, _, _, _, _, _, _, _, _, _, _, _, _, _, _ => none
 | k + 1, x1, x6, x10, x14, x22, x26, x30, x34, x35, x36, x38, x319, x320, x321, x107000, x107001 => if x321 < x320 then (if 0 ≤ x321 then (if x321 < (x319.length : Int) then (if x321 < (x10.length : Int) then ((laws_zIs.f ((rd_T60 x10 x321).f0) ((rd_T60 x10 x321).f1) (rd x319 x321) (wrap64 (Int.tdiv x35 2))).bind fun t180 => (if t180 = true then (if x321 < (x14.length : Int) then ((laws_zSum.f k x6).bind fun t182 => ((laws_zIs.f ((rd_T60 x14 x321).f0) ((rd_T60 x14 x321).f1) (rd x319 x321) t182).bind fun t183 => (if t183 = true then (if x321 < (x22.length : Int) then ((laws_zIs.f ((rd_T60 x22 x321).f0) ((rd_T60 x22 x321).f1) (rd x319 x321) x36).bind fun t185 => (if t185 = true then (if x321 < (x26.length : Int) then ((laws_zIs.f ((rd_T60 x26 x321).f0) ((rd_T60 x26 x321).f1) (rd x319 x321) (wrap64 (x35 - x36))).bind fun t187 => (if t187 = true then (if x321 < (x30.length : Int) then ((laws_zIs.f ((rd_T60 x30 x321).f0) ((rd_T60 x30 x321).f1) (wrap64 ((wrap64 (Int.tdiv x35 2)) + (rd x319 x321))) x35).bind fun t189 => (if t189 = true then ((laws_zHas.f k x38 x321).bind fun t190 => (if (((rd x319 x321) == 0) != t190) = true then (none) else ((impl_SwingSets.f k x107000 x107001 x321).bind fun bt191 => ((impl_SwingsBySize.f k x107000 x107001 x321).bind fun bt195 => (if bt191.2 = true then (if (bt191.1.length : Int) = (rd x319 x321) then (if bt195.2 = true then (if (bt195.1.length : Int) = x34 then ((laws_zSum.f k bt195.1).bind fun t199 => (if t199 = (rd x319 x321) then (laws_FnSwingsTold.l1 k x1 x6 x10 x14 x22 x26 x30 x34 x35 x36 x38 x321 bt191.1 bt195.1 x319 x320 x321 bt191.1 (bt191.1.length : Int) 0 x107000 x107001) else (none))) else (none)) else (none)) else (none)) else (none)))))) else (none))) else (none)) else (none))) else (none)) else (none))) else (none)) else (none)))) else (none)) else (none))) else (none)) else (none)) else (none)) else (laws_FnSwingsTold.j5 k x1)
def laws_FnSwingsTold.l1 : Nat → List Int → List Int → List (S60) → List (S60) → List (S60) → List (S60) → List (S60) → Int → Int → Int → List Int → Int → List (List Int) → List Int → List Int → Int → Int → List (List Int) → Int → Int → Int → List Int → Option (Bool)
 | 0, _, _, _, _, _, _, _, _, _, _, _, _, _, _, _, _, _, _, _, _, _, _ => none
 | k + 1, x1, x6, x10, x14, x22, x26, x30, x34, x35, x36, x38, x40, x42, x44, x319, x320, x321, x425, x426, x427, x107000, x107001 => if x427 < x426 then (if 0 ≤ x427 then (if x427 < (x425.length : Int) then ((impl_IsWinning.f k x107000 x107001 (rd_L2 x425 x427)).bind fun bt201 => ((some (([] : List Int) : List Int)).bind fun y203 => (if y203.length + (rd_L2 x425 x427).length < 17592186044416 then (laws_FnSwingsTold.l2 k x1 x6 x10 x14 x22 x26 x30 x34 x35 x36 x38 x40 x42 x44 x427 (rd_L2 x425 x427) bt201.1 bt201.2 (y203 ++ (rd_L2 x425 x427)) 0 x319 x320 x321 x425 x426 x427 x107000 x107001) else (none)))) else (none)) else (none)) else (laws_FnSwingsTold.l0 k x1 x6 x10 x14 x22 x26 x30 x34 x35 x36 x38 x319 x320 (wrap64 (x321 + 1)) x107000 x107001)
def laws_FnSwingsTold.l2 : Nat → List Int → List Int → List (S60) → List (S60) → List (S60) → List (S60) → List (S60) → Int → Int → Int → List Int → Int → List (List Int) → List Int → Int → List Int → Bool → Bool → List Int → Int → List Int → Int → Int → List (List Int) → Int → Int → Int → List Int → Option (Bool)
 | 0, _, _, _, _, _, _, _, _, _, _, _, _, _, _, _, _, _, _, _, _, _, _, _, _, _, _, _, _ => none
 | k + 1, x1, x6, x10, x14, x22, x26, x30, x34, x35, x36, x38, x40, x42, x44, x46, x47, x48, x49, x50, x51, x319, x320, x321, x425, x426, x427, x107000, x107001 => if x51 < (x50.length : Int) then (if 0 ≤ x51 then (laws_FnSwingsTold.j3 k x1 x6 x10 x14 x22 x26 x30 x34 x35 x36 x38 x40 x42 x44 x46 x47 x48 x49 x50 x51 x319 x320 x321 x425 x426 x427 (decide ((rd x50 x51) < x40)) x107000 x107001) else (none)) else (laws_FnSwingsTold.j3 k x1 x6 x10 x14 x22 x26 x30 x34 x35 x36 x38 x40 x42 x44 x46 x47 x48 x49 x50 x51 x319 x320 x321 x425 x426 x427 false x107000 x107001)
def laws_FnSwingsTold.j3 : Nat → List Int → List Int → List (S60) → List (S60) → List (S60) → List (S60) → List (S60) → Int → Int → Int → List Int → Int → List (List Int) → List Int → Int → List Int → Bool → Bool → List Int → Int → List Int → Int → Int → List (List Int) → Int → Int → Bool → Int → List Int → Option (Bool)
 | 0, _, _, _, _, _, _, _, _, _, _, _, _, _, _, _, _, _, _, _, _, _, _, _, _, _, _, _, _, _ => none
 | k + 1, x1, x6, x10, x14, x22, x26, x30, x34, x35, x36, x38, x40, x42, x44, x46, x47, x48, x49, x50, x51, x319, x320, x321, x425, x426, x427, x452, x107000, x107001 => if x452 = true then (laws_FnSwingsTold.l2 k x1 x6 x10 x14 x22 x26 x30 x34 x35 x36 x38 x40 x42 x44 x46 x47 x48 x49 x50 (wrap64 (x51 + 1)) x319 x320 x321 x425 x426 x427 x107000 x107001) else ((some (([] : List Int) : List Int)).bind fun y210 => (if 0 ≤ x51 then (if x51 ≤ (x47.length : Int) then (if y210.length + (x47.take (x51 : Int).toNat).length < 17592186044416 then ((some (y210 ++ (x47.take (x51 : Int).toNat) : List Int)).bind fun y214 => ((some (([x40] : List Int) : List Int)).bind fun y217 => (if y214.length + y217.length < 17592186044416 then ((some (y214 ++ y217 : List Int)).bind fun y220 => (if y220.length + (x47.drop (x51 : Int).toNat).length < 17592186044416 then ((impl_IsWinning.f k x107000 x107001 (y220 ++ (x47.drop (x51 : Int).toNat))).bind fun bt227 => (if x49 = true then (if x48 = true then (none) else ((laws_zHas.f k x47 x40).bind fun t229 => (if t229 = true then (none) else (if bt227.2 = true then (if bt227.1 = true then (if 0 ≤ (x47.length : Int) then (if (x47.length : Int) < (x44.length : Int) then (if (rd x44 (x47.length : Int)) < 1 then (none) else (if x46 > 0 then (if 0 ≤ (wrap64 (x46 - 1)) then (if (wrap64 (x46 - 1)) < (x42.length : Int) then ((laws_zLess.f k (rd_L2 x42 (wrap64 (x46 - 1))) x47).bind fun t232 => (laws_FnSwingsTold.j4 k x1 x6 x10 x14 x22 x26 x30 x34 x35 x36 x38 x40 x42 x44 x319 x320 x321 x425 x426 x427 (!t232) x107000 x107001)) else (none)) else (none)) else (laws_FnSwingsTold.j4 k x1 x6 x10 x14 x22 x26 x30 x34 x35 x36 x38 x40 x42 x44 x319 x320 x321 x425 x426 x427 false x107000 x107001))) else (none)) else (none)) else (none)) else (none))))) else (none))) else (none))) else (none)))) else (none)) else (none)) else (none)))
def laws_FnSwingsTold.j4 : Nat → List Int → List Int → List (S60) → List (S60) → List (S60) → List (S60) → List (S60) → Int → Int → Int → List Int → Int → List (List Int) → List Int → List Int → Int → Int → List (List Int) → Int → Int → Bool → Int → List Int → Option (Bool)
 | 0, _, _, _, _, _, _, _, _, _, _, _, _, _, _, _, _, _, _, _, _, _, _, _ => none
 | k + 1, x1, x6, x10, x14, x22, x26, x30, x34, x35, x36, x38, x40, x42, x44, x319, x320, x321, x425, x426, x427, x512, x107000, x107001 => if x512 = true then (none) else (laws_FnSwingsTold.l1 k x1 x6 x10 x14 x22 x26 x30 x34 x35 x36 x38 x40 x42 x44 x319 x320 x321 x425 x426 (wrap64 (x427 + 1)) x107000 x107001)
end
def laws_FnSwingsTold.f (k : Nat) (l0 : List Int) (l1 : List Int) : Option (Bool) := (laws_big.f l0 l1).bind fun t101 => (if t101 = true then (some true) else ((spec_DrawSwingsOf.f k l0).bind fun bt102 => ((impl_SwingsOf.f k bt102.1 bt102.2).bind fun bt107 => ((spec_SwingsOf.f k bt102.1 bt102.2).bind fun bt111 => ((impl_SwingPowers.f k bt102.1 bt102.2).bind fun bt115 => ((spec_SwingPowers.f k bt102.1 bt102.2).bind fun bt119 => ((impl_SwingShares.f k bt102.1 bt102.2).bind fun bt123 => ((spec_SwingShares.f k bt102.1 bt102.2).bind fun bt127 => ((impl_DecidePower.f k bt102.1 bt102.2).bind fun bt131 => ((spec_DecidePower.f k bt102.1 bt102.2).bind fun bt135 => ((impl_BlockPowers.f k bt102.1 bt102.2).bind fun bt139 => ((spec_BlockPowers.f k bt102.1 bt102.2).bind fun bt143 => ((impl_StartPowers.f k bt102.1 bt102.2).bind fun bt147 => ((spec_StartPowers.f k bt102.1 bt102.2).bind fun bt151 => ((impl_AgreeChances.f k bt102.1 bt102.2).bind fun bt155 => ((spec_AgreeChances.f k bt102.1 bt102.2).bind fun bt159 => (if (bt107.2 != bt111.2) = true then (none) else ((laws_zSame.f k bt107.1 bt111.1).bind fun t163 => (if t163 = true then (if (bt115.2 != bt119.2) = true then (none) else ((laws_zShares.f k bt115.1 bt119.1).bind fun t164 => (if t164 = true then (if (bt123.2 != bt127.2) = true then (none) else ((laws_zShares.f k bt123.1 bt127.1).bind fun t165 => (if t165 = true then (if (bt131.2.2 != bt135.2.2) = true then (none) else (if (!(bt131.1 == bt135.1) || (!(bt131.2.1 == bt135.2.1))) = true then (none) else (if (bt139.2 != bt143.2) = true then (none) else ((laws_zShares.f k bt139.1 bt143.1).bind fun t166 => (if t166 = true then (if (bt147.2 != bt151.2) = true then (none) else ((laws_zShares.f k bt147.1 bt151.1).bind fun t167 => (if t167 = true then (if (bt155.2 != bt159.2) = true then (none) else ((laws_zShares.f k bt155.1 bt159.1).bind fun t168 => (if t168 = true then ((impl_IsCommittee.f k bt102.1 bt102.2).bind fun t169 => (if (bt107.2 != t169) = true then (none) else (if (bt115.2 != bt107.2) = true then (none) else (if (bt123.2 != bt107.2) = true then (none) else (if (bt131.2.2 != bt107.2) = true then (none) else (if (bt139.2 != bt107.2) = true then (none) else (if (bt147.2 != bt107.2) = true then (none) else (if (bt155.2 != bt107.2) = true then (none) else (if bt107.2 = true then ((impl_CountWinning.f k bt102.1 bt102.2).bind fun bt170 => ((impl_DummiesOf.f k bt102.1 bt102.2).bind fun bt172 => (if (bt107.1.length : Int) = (bt102.2.length : Int) then (if (bt115.1.length : Int) = (bt102.2.length : Int) then (if (bt123.1.length : Int) = (bt102.2.length : Int) then (if (bt139.1.length : Int) = (bt102.2.length : Int) then (if (bt147.1.length : Int) = (bt102.2.length : Int) then (if (bt155.1.length : Int) = (bt102.2.length : Int) then (if bt170.2 = true then ((laws_zIs.f bt131.1 bt131.2.1 bt170.1 (shl .i64 1 (bt102.2.length : Int))).bind fun t176 => (if t176 = true then (if bt172.2 = true then ((laws_zSum.f k bt107.1).bind fun t177 => (if t177 < 1 then (none) else (laws_FnSwingsTold.l0 k l1 bt107.1 bt115.1 bt123.1 bt139.1 bt147.1 bt155.1 (bt102.2.length : Int) (shl .i64 1 (bt102.2.length : Int)) bt170.1 bt172.1 bt107.1 (bt107.1.length : Int) 0 bt102.1 bt102.2))) else (none)) else (none))) else (none)) else (none)) else (none)) else (none)) else (none)) else (none)) else (none)))) else (laws_FnSwingsTold.j5 k l1)))))))))) else (none)))) else (none)))) else (none)))))) else (none)))) else (none)))) else (none))))))))))))))))))))
def laws_FnSwingsTold.T30 : Bool × List (List Nat × List Nat) := (true, [([], []), ([], []), ([0, 1], [0, 1]), ([2], [2]), ([], []), ([], []), ([5], [5]), ([3, 4, 6], [3, 4, 6]), ([7], [7]), ([8, 7], [8]), ([9], [9]), ([9], [9]), ([10, 11, 9], [9, 10, 11]), ([12, 9], [9, 12]), ([9], [9]), ([9], [9]), ([15, 9, 9], [9, 15]), ([13, 14, 16, 16, 9], [9, 13, 14, 16]), ([17, 9], [9, 17]), ([9, 18], [9, 18]), ([19, 17], [19]), ([20], [20]), ([20], [20]), ([21, 22, 20], [20, 21, 22]), ([23, 20], [20, 23]), ([20], [20]), ([20], [20]), ([24, 25, 26, 20, 20], [20, 24, 25, 26]), ([27, 20], [20, 27]), ([20, 28], [20, 28]), ([29, 27], [29]), ([30], [30]), ([30], [30]), ([31, 32, 30], [30, 31, 32]), ([33, 30], [30, 33]), ([30], [30]), ([30], [30]), ([30], [30]), ([36, 37, 30], [30, 36, 37]), ([34, 35, 38, 30, 30], [30, 34, 35, 38]), ([39, 30], [30, 39]), ([30, 40], [30, 40]), ([41, 39], [41]), ([42], [42]), ([42], [42]), ([43, 44, 42], [42, 43, 44]), ([45, 42], [42, 45]), ([42], [42]), ([47, 42], [42, 47]), ([42], [42]), ([48, 49, 42], [42, 48, 49]), ([42], [42]), ([46, 50, 51, 42, 42], [42, 46, 50, 51]), ([52, 42], [42, 52]), ([42, 53], [42, 53]), ([54, 52], [54]), ([55], [55]), ([56, 55], [55, 56]), ([55], [55]), ([55], [55]), ([58, 59, 55, 55], [55, 58, 59]), ([57, 60, 55], [55, 57, 60]), ([55, 61], [55, 61])])
def laws_FnSwingsTold.B30 : List Nat := [0, 0, 3, 7, 0, 0, 32, 127, 255, 511, 1023, 1023, 4095, 8191, 1023, 1023, 33791, 131071, 262143, 524287, 1048575, 2097151, 2097151, 8388607, 16777215, 2097151, 2097151, 134217727, 268435455, 536870911, 1073741823, 2147483647, 2147483647, 8589934591, 17179869183, 2147483647, 2147483647, 2147483647, 208305913855, 549755813887, 1099511627775, 2199023255551, 4398046511103, 8796093022207, 8796093022207, 35184372088831, 70368744177663, 8796093022207, 149533581377535, 8796093022207, 993958511509503, 8796093022207, 4503599627370495, 9007199254740991, 18014398509481983, 36028797018963967, 72057594037927935, 144115188075855871, 72057594037927935, 72057594037927935, 936748722493063167, 2305843009213693951, 4611686018427387903]
theorem laws_FnSwingsTold.tab30 : rtab .any (opsOf Tryz.f6 30) = laws_FnSwingsTold.T30 := by kernel_rfl
theorem laws_FnSwingsTold.bits30 : waitsOk laws_FnSwingsTold.T30.2 laws_FnSwingsTold.B30 = true := by kernel_rfl
def laws_FnSwingsTold.T44 : Bool × List (List Nat × List Nat) := (true, [([], []), ([], []), ([], []), ([1, 2], [1, 2]), ([0, 3], [0, 3]), ([], []), ([5], [5]), ([4, 6, 4], [4, 6]), ([], []), ([], []), ([8, 9], [8, 9]), ([7, 10, 7], [7, 10]), ([11, 11, 0, 1, 2, 3, 4, 5, 6, 7, 8, 9, 10, 11], [11])])
def laws_FnSwingsTold.B44 : List Nat := [0, 0, 0, 6, 15, 0, 32, 127, 0, 0, 768, 2047, 4095]
theorem laws_FnSwingsTold.tab44 : rtab .any (opsOf Tryz.f6 44) = laws_FnSwingsTold.T44 := by kernel_rfl
theorem laws_FnSwingsTold.bits44 : waitsOk laws_FnSwingsTold.T44.2 laws_FnSwingsTold.B44 = true := by kernel_rfl
end Go.Proofs.YtamfpkefnhcngaaGreat.Q
