/- Printed functions, their contracts and plain facts on them: QImplSwingsBySize; QLawsZLess; QSpecVoList; QSpecVoBefore; QSpecVoSorted; QSpecPwMember; QSpecSwingSets; QSpecSwingsBySize; QLawsZRows; QLawsFnSwingsToldOfAllD. Conditions: as each theorem states. -/
import Derived.Test.YtamfpkefnhcngaaGreatGSwingsToldOfAllx1
import Derived.Test.YtamfpkefnhcngaaGreatGSwingsToldOfAllx2
set_option maxHeartbeats 40000000
set_option maxRecDepth 100000
namespace Go.Proofs.YtamfpkefnhcngaaGreat.Q
open Go.RowKit Go.Proofs.YtamfpkefnhcngaaGreatX Go.Proofs.YtamfpkefnhcngaaGreatY Go.Proofs.YtamfpkefnhcngaaGreatW.PrintWords Go.Proofs.YtamfpkefnhcngaaGreatW.PrintLast Go.Proofs.YtamfpkefnhcngaaGreatW.PrintMore
attribute [local go_sem] max2_int min2_int max_two min_two max_three min_three max_four min_four   -- for this text's walks alone
set_option linter.unusedVariables false
set_option linter.unusedSimpArgs false
def impl_SwingsBySize.l0 : Nat → Int → List Int → Int → Int → Int → List Bool → Option (List Int × Bool)
 | 0, _, _, _, _, _, _ => none
 | k + 1, x1, x7, x20, x21, x108000, x108001 => if x21 < x20 then ((impl_votes_isSwing.f x108000 x108001 x21 x1).bind fun t111 => (if t111 = true then ((impl_count.f x21).bind fun t112 => (if 0 ≤ t112 then (if t112 < (x7.length : Int) then (impl_SwingsBySize.l0 k x1 (x7.set (t112 : Int).toNat (wrap64 ((rd x7 t112) + 1))) x20 (wrap64 (x21 + 1)) x108000 x108001) else (none)) else (none))) else (impl_SwingsBySize.l0 k x1 x7 x20 (wrap64 (x21 + 1)) x108000 x108001))) else (some (x7, true))
def impl_SwingsBySize.f (k : Nat) (a0_0 : Int) (l0_1 : List Int) (a1 : Int) : Option (List Int × Bool) := (impl_isMember.f k a0_0 l0_1 a1).bind fun t102 => (if t102 = true then ((impl_Committee_votes.f k a0_0 l0_1).bind fun bt103 => (if 0 ≤ bt103.1 then (if (bt103.1 : Int).toNat ≤ 35184372088832 then (impl_SwingsBySize.l0 k a1 (List.replicate (bt103.1 : Int).toNat 0) (bt103.2.length : Int) 0 bt103.1 bt103.2) else (none)) else (none))) else (some (([] : List Int), false)))
theorem impl_SwingsBySize.calls (k : Nat) (a0_0 : Int) (A0_1 : Option Addr) (c0_1 : Nat) (l0_1 : List Int) (a1 : Int) (r1 : List Int) (r2 : Bool) (w : World) (hr0_1 : Kd.C (Kd.int .i64) w A0_1 l0_1.length l0_1) (hc0_1 : l0_1.length ≤ c0_1) (h : impl_SwingsBySize.f k a0_0 l0_1 a1 = some (r1, r2)) :
  Calls Tryz.prog 76 #[.agg #[.int .i64 a0_0, .slice A0_1 l0_1.length c0_1], .int .i64 a1] w fun e w' => ∃ v0_ : Value, e = .returned (.tuple #[v0_, .bool r2]) ∧ Kd.R (Kd.int .i64) 3 w' w.heap.size (fun _ => True) v0_ r1 ∧ Below w.heap.size w w' := by
 have hu26 := Tryz.underlying26
 have hu87 := Tryz.underlying87
 have HR0_1 := Aside0.mk hr0_1
 have HC0_1 := Aside0.mk hc0_1
 clear hr0_1 hc0_1
 have HB := Aside0.mk (Below.refl w.heap.size w)
 have H := h
 unfold impl_SwingsBySize.f at H
 clear h
 replace H := oB H
 obtain ⟨t102, A30, H⟩ := H
 replace H : (if t102 = true then ((impl_Committee_votes.f k a0_0 l0_1).bind fun bt103 => (if 0 ≤ bt103.1 then (if (bt103.1 : Int).toNat ≤ 35184372088832 then (impl_SwingsBySize.l0 k a1 (List.replicate (bt103.1 : Int).toNat 0) (bt103.2.length : Int) 0 bt103.1 bt103.2) else (none)) else (none))) else (some (([] : List Int), false))) = some (r1, r2) := H
 have A3 := Aside0.mk A30
 clear A30
 by_cases c4 : t102 = true
 rotate_left
 ·replace c4 := Bool.eq_false_iff.mpr c4
  subst c4
  replace H := iF H
  simp only [Option.some.injEq, Prod.mk.injEq] at H
  obtain ⟨rfl, rfl⟩ := H
  go_enter Tryz.func76, Tryz.ntmps76
  go_wp2_with (first | ((with_reducible refine gate_dst (N := 2) rfl ?_); refine box_event ?hg (N := 2) ?hd (cs := #[.int .i64 a0_0, .slice A0_1 l0_1.length c0_1]) (t := 26) ?hr ?_; (case hd => rfl); (case hg => rfl); (case hr => first | (go_simp; done) | (go_simp; rfl)); intro gb101 hg w36 hbox hb; have n0_ := sQ hb; have n1_ := Aside0.mk (hbox); have n2_ := Aside0.mk ((by rw [hg]; exact (below_size (wB)) : w.heap.size ≤ gb101)); have n3_ := Aside0.mk ((by rw [hg]; exact (below_size (wB)) : w.heap.size ≤ gb101)); clear HB; have HB := n0_; have BK101 := n1_; have GW101 := n2_; have GE101 := n3_; clear n0_ n1_ n2_ n3_; clear hb hbox hg; obtain ⟨hcz37_0, hcz37_1, hfz37_0, hfz37_1⟩ := zZ BK101) | ((with_reducible refine gate_callee (f := 165) rfl ?_); refine gL 11 Tryz.func165 #[.agg #[.int .i64 a0_0, .slice A0_1 l0_1.length c0_1], .int .i64 a1] ?_; (with_reducible refine (impl_isMember.calls k a0_0 _ _ l0_1 a1 false _ ?side1 ?side2 A3.out).mono ?_); (case side1 => have hx_ := (Kd.C_below HR0_1.out HB.out); exact cC); (case side2 => exact HC0_1.out); rintro e w38 ⟨rfl, hb⟩; refine ⟨_, rfl, ?_⟩; have n0_ := bP BK101 hb; have n1_ := sQ hb; clear BK101; clear HB; have BK101 := n0_; have HB := n1_; clear n0_ n1_; (try clear hb); (try clear hb2); (try clear hk); (try clear hi)))
  go_ret2
  exact ⟨_, fR, by first | exact Kd.R_nil _ _ _ _ _ | exact Kd.N_nil _ _ _ _ _ | exact Kd.V_nil _ _ _ _ _ | exact Kd.Q_nil _ _ _ _ _ | exact Kd.S_nil _ _ _ _ _, wB⟩
 subst c4
 replace H := iT H
 replace H := oB H
 obtain ⟨⟨t103, t104⟩, A50, H⟩ := H
 replace H : (if 0 ≤ t103 then (if (t103 : Int).toNat ≤ 35184372088832 then (impl_SwingsBySize.l0 k a1 (List.replicate (t103 : Int).toNat 0) (t104.length : Int) 0 t103 t104) else (none)) else (none)) = some (r1, r2) := H
 have A5 := Aside0.mk A50
 clear A50
 by_cases c6 : 0 ≤ t103
 rotate_left
 ·rw [if_neg c6] at H
  exact absurd H (by simp)
 rw [if_pos c6] at H
 have c6b0 := eq_true c6
 have c6b1 := decide_eq_true c6
 clear c6
 by_cases c7 : (t103 : Int).toNat ≤ 35184372088832
 rotate_left
 ·rw [if_neg c7] at H
  exact absurd H (by simp)
 rw [if_pos c7] at H
 have c7b0 := eq_true c7
 have c7b1 := decide_eq_true c7
 clear c7
 obtain ⟨y108, hy108⟩ : ∃ y_ : List Int, y_ = (List.replicate (t103 : Int).toNat 0) := ⟨_, rfl⟩
 replace H : (impl_SwingsBySize.l0 k a1 y108 (t104.length : Int) 0 t103 t104) = some (r1, r2) := by first | (rw [hy108]; with_reducible exact H) | (have H2_ := (Option.bind_some _ _).symm.trans H; rw [hy108]; with_reducible exact H2_) | (have H2_ := (Option.bind_some _ _).symm.trans H; with_reducible exact H2_) | with_reducible exact H | (rw [hy108]; exact H) | exact H
 have Ny108 := Aside0.mk hy108
 clear hy108
 have H' := Aside0.mk H
 clear H
 go_enter Tryz.func76, Tryz.ntmps76
 go_wp2_with (first | ((with_reducible refine gate_dst (N := 2) rfl ?_); refine box_event ?hg (N := 2) ?hd (cs := #[.int .i64 a0_0, .slice A0_1 l0_1.length c0_1]) (t := 26) ?hr ?_; (case hd => rfl); (case hg => rfl); (case hr => first | (go_simp; done) | (go_simp; rfl)); intro gb101 hg w8 hbox hb; have n0_ := sQ hb; have n1_ := Aside0.mk (hbox); have n2_ := Aside0.mk ((by rw [hg]; exact (below_size (wB)) : w.heap.size ≤ gb101)); have n3_ := Aside0.mk ((by rw [hg]; exact (below_size (wB)) : w.heap.size ≤ gb101)); clear HB; have HB := n0_; have BK101 := n1_; have GW101 := n2_; have GE101 := n3_; clear n0_ n1_ n2_ n3_; clear hb hbox hg; obtain ⟨hcz9_0, hcz9_1, hfz9_0, hfz9_1⟩ := zZ BK101) | ((with_reducible refine gate_callee (f := 165) rfl ?_); refine gL 11 Tryz.func165 #[.agg #[.int .i64 a0_0, .slice A0_1 l0_1.length c0_1], .int .i64 a1] ?_; (with_reducible refine (impl_isMember.calls k a0_0 _ _ l0_1 a1 true _ ?side1 ?side2 A3.out).mono ?_); (case side1 => have hx_ := (Kd.C_below HR0_1.out HB.out); exact cC); (case side2 => exact HC0_1.out); rintro e w10 ⟨rfl, hb⟩; refine ⟨_, rfl, ?_⟩; have n0_ := bP BK101 hb; have n1_ := sQ hb; clear BK101; clear HB; have BK101 := n0_; have HB := n1_; clear n0_ n1_; (try clear hb); (try clear hb2); (try clear hk); (try clear hi); obtain ⟨hcz11_0, hcz11_1, hfz11_0, hfz11_1⟩ := zZ BK101) | ((with_reducible refine gate_callee (f := 135) rfl ?_); refine gL 14 Tryz.func135 #[.agg #[.int .i64 a0_0, .slice A0_1 l0_1.length c0_1]] ?_; (with_reducible refine (impl_Committee_votes.calls k a0_0 _ _ l0_1 t103 t104 _ ?side1 ?side2 A5.out).mono ?_); (case side1 => have hx_ := (Kd.C_below HR0_1.out HB.out); exact cC); (case side2 => exact HC0_1.out); rintro e w12 ⟨v105, rfl, ho0, hb⟩; refine ⟨_, rfl, ?_⟩; have n0_ := Aside0.mk (Kd.R_lower ho0 (below_size (wB))); have n1_ := bP BK101 hb; have n2_ := sQ hb; clear BK101; clear HB; have HO106 := n0_; have BK101 := n1_; have HB := n2_; clear n0_ n1_ n2_; (try clear hb); (try clear hb2); (try clear hk); (try clear hi); (try clear ho0)) | ((with_reducible refine gate_dst (N := 6) rfl ?_); refine box_event ?hg (N := 6) ?hd (cs := #[.int .i64 0, .slice none 0 0]) (t := 87) ?hr ?_; (case hd => rfl); (case hg => rfl); (case hr => first | (go_simp; done) | (go_simp; rfl)); intro gb107 hg w13 hbox hb; have n0_ := rP HO106 hb; have n1_ := bP BK101 hb; have n2_ := sQ hb; have n3_ := Aside0.mk (hbox); have n4_ := Aside0.mk ((by rw [hg]; exact (below_size (wB)) : w.heap.size ≤ gb107)); have n5_ := Aside0.mk ((by rw [hg]; exact (below_size (wB)) : w.heap.size ≤ gb107)); have n6_ := Aside0.mk ((by rw [hg]; exact Nat.ne_of_lt (blk_lt (g := gb101) (o := .cells #[.int .i64 a0_0, .slice A0_1 l0_1.length c0_1] 26 (0, 0)) (bQ BK101)) : gb101 ≠ gb107)); have n7_ := Aside0.mk ((by rw [hg]; exact Nat.ne_of_gt (blk_lt (g := gb101) (o := .cells #[.int .i64 a0_0, .slice A0_1 l0_1.length c0_1] 26 (0, 0)) (bQ BK101)) : gb107 ≠ gb101)); clear HO106; clear BK101; clear HB; have HO106 := n0_; have BK101 := n1_; have HB := n2_; have BK107 := n3_; have GW107 := n4_; have GE107 := n5_; have NB101_107 := n6_; have NB107_101 := n7_; clear n0_ n1_ n2_ n3_ n4_ n5_ n6_ n7_; clear hb hbox hg; have hnb14 := NB107_101.out; have hnc14 := NB101_107.out; obtain ⟨hcz15_0, hcz15_1, hfz15_0, hfz15_1⟩ := zZ BK107; obtain ⟨Ao16, co16, eo16⟩ := Kd.R_slice HO106.out; subst eo16) | ((with_reducible refine gate_dst (N := 17) rfl ?_); refine Kd.R_make (Kd.int .i64) _ 3 rfl (N := 17) rfl 24 _ _ rfl t103 rfl rfl Tryz.underlying24 (.int .i64 0) 8 info3 rfl (by decide) (by omega) 0 (ok := fun _ => True) (okp := fun _ => True) rfl (fun _ hk => hk) trivial (oD) (Nat.le_trans (Nat.mul_le_mul_right _ (oD : t103.toNat ≤ 35184372088832)) (by omega)) (Below.refl _ _) (Nat.le_refl _) ?_; intro v109 w17 ho18 hb hg_ hnew_; clear hg_ hnew_; (first | rw [← Ny108.out] at ho18 | (simp only [Int.reduceToNat] at ho18; rw [← Ny108.out] at ho18)); have n0_ := Aside0.mk (Kd.R_below (by (try refine rp ?_); exact (Kd.R_mono (Kd.R_far (p := ⟨gb107, 1, none⟩) (Kd.R_far (p := ⟨gb107, 0, none⟩) (Kd.R_types HO106.out BK107.out (by decide)) (fun _ hk => hk.2) (.int .i64 t103)) (fun _ hk => hk.2) (.slice Ao16 t104.length co16)) (fun _ h_ => h_.1))) hb); have n1_ := Aside0.mk (Kd.R_lower ho18 (below_size (wB))); have n2_ := Aside0.mk (blk_below (g := gb101) (o := .cells #[.int .i64 a0_0, .slice A0_1 l0_1.length c0_1] 26 (0, 0)) (by (try refine bp ?_); refine blk_far ?_ NB101_107.out _; (try refine bp ?_); refine blk_far ?_ NB101_107.out _; (first | exact bp BK101.out | exact BK101.out)) hb); have n3_ := Aside0.mk (blk_below (g := gb107) (o := .cells #[.int .i64 t103, .slice Ao16 t104.length co16] 87 (0, 0)) (by (try refine bp ?_); refine blk_put (cs := #[.int .i64 t103, .slice none 0 0]) ?_ 1 _ rfl; (try refine bp ?_); refine blk_put (cs := #[.int .i64 0, .slice none 0 0]) ?_ 0 _ rfl; (first | exact bp BK107.out | exact BK107.out)) hb); have n4_ := sQ hb; clear HO106; clear BK101; clear BK107; clear HB; have HO106 := n0_; have HO110 := n1_; have BK101 := n2_; have BK107 := n3_; have HB := n4_; clear n0_ n1_ n2_ n3_ n4_; clear hb ho18; obtain ⟨hcz19_0, hcz19_1, hfz19_0, hfz19_1⟩ := zZ BK107))
 go_loopg [21] k (fun kq v21 w' => ∃ (x7_1 : List Int) (x21_1 : Int), v21 = .int .i64 x21_1 ∧ Aside0 (impl_SwingsBySize.l0 kq a1 x7_1 (t104.length : Int) x21_1 t103 t104 = some (r1, r2)) ∧ Aside0 (kq ≤ k) ∧ Aside0 (Kd.R (Kd.int .i64) 3 w' w.heap.size (fun _ => True) v109 x7_1) ∧ Aside0 (Kd.R Kd.bool 4 w' w.heap.size (fun _ => True) (.slice Ao16 t104.length co16) t104) ∧ Aside0 (w'.heap[gb101]? = some (.cells #[.int .i64 a0_0, (.slice A0_1 l0_1.length c0_1)] 26 (0, 0))) ∧ Aside0 (w'.heap[gb107]? = some (.cells #[.int .i64 t103, (.slice Ao16 t104.length co16)] 87 (0, 0))) ∧ Aside0 (Below w.heap.size w w'))
 case atStart => exact ⟨(y108), (0), gR, H', ⟨Nat.le_refl _⟩, ⟨rQ HO110⟩, ⟨rQ HO106⟩, ⟨bQ BK101⟩, ⟨bQ BK107⟩, ⟨wB⟩⟩
 case round =>
  clear H'
  try clear c1
  try clear p2
  try clear c4
  try clear c6
  try clear c6b0
  try clear c6b1
  try clear c7
  try clear c7b0
  try clear c7b1
  try clear c13
  try clear c14
  try clear c16
  try clear hcz11_0
  try clear hcz11_1
  try clear hcz15_0
  try clear hcz15_1
  try clear hcz19_0
  try clear hcz19_1
  try clear hcz9_0
  try clear hcz9_1
  try clear hfz11_0
  try clear hfz11_1
  try clear hfz15_0
  try clear hfz15_1
  try clear hfz19_0
  try clear hfz19_1
  try clear hfz9_0
  try clear hfz9_1
  obtain ⟨x7_1, x21_1, rfl, HA, HK1, HO_7, HO_108001, BK101, BK107, HB⟩ := hrel
  cases gk with
  | zero => exact absurd HA.out (by simp [impl_SwingsBySize.l0])
  | succ k1 =>
   have H := HA.out
   clear HA
   simp only [impl_SwingsBySize.l0] at H
   by_cases c20 : x21_1 < (t104.length : Int)
   rotate_left
   ·rw [if_neg c20] at H
    have c20b0 : decide (x21_1 < (t104.length : Int)) = false := decide_eq_false c20
    clear c20
    simp only [Option.some.injEq, Prod.mk.injEq] at H
    obtain ⟨rfl, rfl⟩ := H
    go_wp2
    go_ret2
    exact ⟨_, fR, by (first | exact rp HO_7.out | exact HO_7.out), wB⟩
   rw [if_pos c20] at H
   have c20b0 := decide_eq_true c20
   clear c20
   replace H := oB H
   obtain ⟨t111, A210, H⟩ := H
   replace H : (if t111 = true then ((impl_count.f x21_1).bind fun t112 => (if 0 ≤ t112 then (if t112 < (x7_1.length : Int) then (impl_SwingsBySize.l0 k1 a1 (x7_1.set (t112 : Int).toNat (wrap64 ((rd x7_1 t112) + 1))) (t104.length : Int) (wrap64 (x21_1 + 1)) t103 t104) else (none)) else (none))) else (impl_SwingsBySize.l0 k1 a1 x7_1 (t104.length : Int) (wrap64 (x21_1 + 1)) t103 t104)) = some (r1, r2) := H
   have A21 := Aside0.mk A210
   clear A210
   by_cases c22 : t111 = true
   rotate_left
   ·replace c22 := Bool.eq_false_iff.mpr c22
    subst c22
    replace H := iF H
    have H' := Aside0.mk H
    clear H
    have hnb33 := NB107_101.out
    have hnc33 := NB101_107.out
    obtain ⟨hcz34_0, hcz34_1, hfz34_0, hfz34_1⟩ := zZ BK107
    go_wp2_with (first | ((with_reducible refine gate_callee (f := 167) rfl ?_); refine gL 27 Tryz.func167 #[.agg #[.int .i64 t103, .slice Ao16 t104.length co16], .int .i64 x21_1, .int .i64 a1] ?_; (with_reducible refine (impl_votes_isSwing.calls t103 _ _ t104 x21_1 a1 false _ ?side1 ?side2 A21.out).mono ?_); (case side1 => have hx_ := (Kd.R_reads' HO_108001.out).2.2; exact cC); (case side2 => exact (Kd.R_reads' HO_108001.out).2.1); rintro e w35 ⟨rfl, hb⟩; refine ⟨_, rfl, ?_⟩; have n0_ := rP HO_7 hb; have n1_ := rP HO_108001 hb; have n2_ := bP BK101 hb; have n3_ := bP BK107 hb; have n4_ := sQ hb; clear HO_7; clear HO_108001; clear BK101; clear BK107; clear HB; have HO_7 := n0_; have HO_108001 := n1_; have BK101 := n2_; have BK107 := n3_; have HB := n4_; clear n0_ n1_ n2_ n3_ n4_; (try clear hb); (try clear hb2); (try clear hk); (try clear hi)))
    go_roundg k1
    case measure => have := HK1.out; omega
    case rel => exact ⟨(x7_1), (wrap64 (x21_1 + 1)), gR, H', ⟨by have := HK1.out; omega⟩, ⟨rQ HO_7⟩, ⟨rQ HO_108001⟩, ⟨bQ BK101⟩, ⟨bQ BK107⟩, ⟨wB⟩⟩
   subst c22
   replace H := iT H
   replace H := oB H
   obtain ⟨t112, A230, H⟩ := H
   replace H : (if 0 ≤ t112 then (if t112 < (x7_1.length : Int) then (impl_SwingsBySize.l0 k1 a1 (x7_1.set (t112 : Int).toNat (wrap64 ((rd x7_1 t112) + 1))) (t104.length : Int) (wrap64 (x21_1 + 1)) t103 t104) else (none)) else (none)) = some (r1, r2) := H
   have A23 := Aside0.mk A230
   clear A230
   by_cases c24 : 0 ≤ t112
   rotate_left
   ·rw [if_neg c24] at H
    exact absurd H (by simp)
   rw [if_pos c24] at H
   have c24b0 := decide_eq_true c24
   clear c24
   by_cases c25 : t112 < (x7_1.length : Int)
   rotate_left
   ·rw [if_neg c25] at H
    exact absurd H (by simp)
   rw [if_pos c25] at H
   have c25b0 := decide_eq_true c25
   clear c25
   obtain ⟨y114, hy114⟩ : ∃ y_ : List Int, y_ = (x7_1.set (t112 : Int).toNat (wrap64 ((rd x7_1 t112) + 1))) := ⟨_, rfl⟩
   replace H : (impl_SwingsBySize.l0 k1 a1 y114 (t104.length : Int) (wrap64 (x21_1 + 1)) t103 t104) = some (r1, r2) := by first | (rw [hy114]; with_reducible exact H) | (have H2_ := (Option.bind_some _ _).symm.trans H; rw [hy114]; with_reducible exact H2_) | (have H2_ := (Option.bind_some _ _).symm.trans H; with_reducible exact H2_) | with_reducible exact H | (rw [hy114]; exact H) | exact H
   have Ny114 := Aside0.mk hy114
   clear hy114
   have H' := Aside0.mk H
   clear H
   have hnb27 := NB107_101.out
   have hnc27 := NB101_107.out
   obtain ⟨hcz28_0, hcz28_1, hfz28_0, hfz28_1⟩ := zZ BK107
   go_wp2_with (first | ((with_reducible refine gate_callee (f := 167) rfl ?_); refine gL 27 Tryz.func167 #[.agg #[.int .i64 t103, .slice Ao16 t104.length co16], .int .i64 x21_1, .int .i64 a1] ?_; (with_reducible refine (impl_votes_isSwing.calls t103 _ _ t104 x21_1 a1 true _ ?side1 ?side2 A21.out).mono ?_); (case side1 => have hx_ := (Kd.R_reads' HO_108001.out).2.2; exact cC); (case side2 => exact (Kd.R_reads' HO_108001.out).2.1); rintro e w29 ⟨rfl, hb⟩; refine ⟨_, rfl, ?_⟩; have n0_ := rP HO_7 hb; have n1_ := rP HO_108001 hb; have n2_ := bP BK101 hb; have n3_ := bP BK107 hb; have n4_ := sQ hb; clear HO_7; clear HO_108001; clear BK101; clear BK107; clear HB; have HO_7 := n0_; have HO_108001 := n1_; have BK101 := n2_; have BK107 := n3_; have HB := n4_; clear n0_ n1_ n2_ n3_ n4_; (try clear hb); (try clear hb2); (try clear hk); (try clear hi)) | ((with_reducible refine gate_callee (f := 154) rfl ?_); refine gL 30 Tryz.func154 #[.int .i64 x21_1] ?_; (with_reducible refine (impl_count.calls x21_1 t112 _ A23.out).mono ?_); rintro e w' ⟨rfl, ⟨nd, rfl⟩⟩; refine ⟨_, rfl, ?_⟩; (try (rw [drewN_self w29]; generalize hq_ : World.drewN w29 _ = w29; have n0_ : Aside0 (Kd.R Kd.bool 4 w29 w.heap.size (fun _ => True) (.slice Ao16 t104.length co16) t104) := ⟨by rw [← hq_]; exact (rQ HO_108001)⟩; have n1_ : Aside0 (Kd.R (Kd.int .i64) 3 w29 w.heap.size (fun _ => True) v109 x7_1) := ⟨by rw [← hq_]; exact (rQ HO_7)⟩; have n2_ : Aside0 (w29.heap[gb101]? = some (.cells #[.int .i64 a0_0, .slice A0_1 l0_1.length c0_1] 26 (0, 0))) := ⟨by rw [← hq_]; exact (bQ BK101)⟩; have n3_ : Aside0 (w29.heap[gb107]? = some (.cells #[.int .i64 t103, .slice Ao16 t104.length co16] 87 (0, 0))) := ⟨by rw [← hq_]; exact (bQ BK107)⟩; have n4_ : Aside0 (Below w.heap.size w w29) := ⟨by rw [← hq_]; exact (wB)⟩; clear HO_108001 HO_7 BK101 BK107 HB hq_; have HO_108001 := n0_; have HO_7 := n1_; have BK101 := n2_; have BK107 := n3_; have HB := n4_; clear n0_ n1_ n2_ n3_ n4_)); obtain ⟨Ao30, co30, eo30⟩ := Kd.R_slice HO_7.out; subst eo30; have p113 : 0 ≤ (t112 : Int) := oD; have q113 : t112 < (x7_1.length : Int) := oD; obtain ⟨ad113, e113, hx113_0⟩ := Kd.at_int (Kd.R_reads' HO_7.out).2.2 t112 p113 q113; cases e113; replace p113 := eq_true p113; replace q113 := eq_true q113; have p26 : 0 ≤ (t112 : Int) := oD; have q26 : (t112 : Int) < ((x7_1.length : Int) : Int) := oD; obtain ⟨go26, co26, eo26, gb26, gl26, cl26, HG26⟩ := Kd.R_form HO_7.out (by omega); (first | cases eo26 | (injection eo26 with ea_ en_ ec_; (first | subst ea_ | (injection ea_ with ea_; subst ea_)); subst ec_; clear en_)); have GB26 := Aside0.mk gb26; have GG26 := Aside0.mk HG26; clear gb26 gl26 HG26; (first | simp only [add_plain] at hx113_0 | skip); obtain ⟨hx26_0, hf26_0⟩ := Kd.R_celln 0 HO_7.out (t112 : Int) p26 q26; replace p26 := eq_true p26; replace q26 := eq_true q26; obtain ⟨hy31_, hz31_⟩ := Kd.R_celln 0 HO_7.out (t112 : Int) (oD) (oD); have HP31 := Kd.R_putg HO_7.out (t112 : Int) (wrap64 ((rd x7_1 t112) + 1))) | ((with_reducible refine gate_store (t := 3) (p := 34) rfl ?_); refine sE (t := 3) (p := 34) (w1 := (w29.setCell ⟨go26, (t112 : Int).toNat, none⟩ (.int .i64 (wrap64 ((rd x7_1 t112) + 1))))) ?_; intro w32 hw; have hg : w29.grownBy w32 (some go26) := (by rw [hw]; exact HP31.2); have hp_ : Kd.R (Kd.int .i64) 3 w32 w.heap.size (fun _ => True) (.slice (some ⟨go26, 0, none⟩) x7_1.length co30) y114 := (by rw [hw, Ny114.out]; exact HP31.1); clear HP31; have n0_ := Aside0.mk (hp_); have n1_ := Aside0.mk (Kd.R_over' (v := (.slice (some ⟨go26, 0, none⟩) x7_1.length co30)) (rQ HO_108001) (Kd.R_typed HO_7.out) (by decide) hg); have n2_ := Aside0.mk (blk_grown (g := gb101) (o := .cells #[.int .i64 a0_0, .slice A0_1 l0_1.length c0_1] 26 (0, 0)) (bQ BK101) hg (Kd.R_ne HO_7.out BK101.out (by decide))); have n3_ := Aside0.mk (blk_grown (g := gb107) (o := .cells #[.int .i64 t103, .slice Ao16 t104.length co16] 87 (0, 0)) (bQ BK107) hg (Kd.R_ne HO_7.out BK107.out (by decide))); have n4_ := Aside0.mk ((by rw [hw]; exact below_set (HB.out) GB26.out : Below w.heap.size w w32)); clear HO_7; clear HO_108001; clear BK101; clear BK107; clear HB; have HO_7 := n0_; have HO_108001 := n1_; have BK101 := n2_; have BK107 := n3_; have HB := n4_; clear n0_ n1_ n2_ n3_ n4_; clear hg hw hp_))
   go_roundg k1
   case measure => have := HK1.out; omega
   case rel => exact ⟨(y114), (wrap64 (x21_1 + 1)), gR, H', ⟨by have := HK1.out; omega⟩, ⟨rQ HO_7⟩, ⟨rQ HO_108001⟩, ⟨bQ BK101⟩, ⟨bQ BK107⟩, ⟨wB⟩⟩
end Go.Proofs.YtamfpkefnhcngaaGreat.Q
namespace Go.Proofs.YtamfpkefnhcngaaGreat.Q
open Go.RowKit Go.Proofs.YtamfpkefnhcngaaGreatX Go.Proofs.YtamfpkefnhcngaaGreatY Go.Proofs.YtamfpkefnhcngaaGreatX Go.Proofs.YtamfpkefnhcngaaGreatW.PrintWords Go.Proofs.YtamfpkefnhcngaaGreatW.PrintLast Go.Proofs.YtamfpkefnhcngaaGreatW.PrintMore
attribute [local go_sem] max2_int min2_int max_two min_two max_three min_three max_four min_four   -- for this text's walks alone
set_option linter.unusedVariables false
set_option linter.unusedSimpArgs false
mutual
def laws_zLess.l0 : Nat → List Int → List Int → Int → Option (Bool)
 | 0, _, _, _ => none
 | k + 1, x0, x1, x5 => if x5 < (x0.length : Int) then (laws_zLess.j1 k x0 x1 x5 (decide (x5 < (x1.length : Int)))) else (laws_zLess.j1 k x0 x1 x5 false)
def laws_zLess.j1 : Nat → List Int → List Int → Int → Bool → Option (Bool)
 | 0, _, _, _, _ => none
 | k + 1, x0, x1, x5, x15 => if x15 = true then (if 0 ≤ x5 then (if x5 < (x0.length : Int) then (if x5 < (x1.length : Int) then (if (rd x0 x5) = (rd x1 x5) then (laws_zLess.l0 k x0 x1 (wrap64 (x5 + 1))) else (some (decide ((rd x0 x5) < (rd x1 x5))))) else (none)) else (none)) else (none)) else (some (decide ((x0.length : Int) < (x1.length : Int))))
end
def laws_zLess.f (k : Nat) (l0 : List Int) (l1 : List Int) : Option (Bool) := laws_zLess.l0 k l0 l1 0
theorem laws_zLess.calls (k : Nat) (A0 : Option Addr) (c0 : Nat) (l0 : List Int) (A1 : Option Addr) (c1 : Nat) (l1 : List Int) (r : Bool) (w : World) (hr0 : Kd.C (Kd.int .i64) w A0 l0.length l0) (hc0 : l0.length ≤ c0) (hr1 : Kd.C (Kd.int .i64) w A1 l1.length l1) (hc1 : l1.length ≤ c1) (h : laws_zLess.f k l0 l1 = some r) :
  Calls Tryz.prog 77 #[.slice A0 l0.length c0, .slice A1 l1.length c1] w fun e w' => e = .returned (.bool r) ∧ Drawn0 w w' := by
 have HR0 := Aside0.mk hr0
 have HC0 := Aside0.mk hc0
 clear hr0 hc0
 have HR1 := Aside0.mk hr1
 have HC1 := Aside0.mk hc1
 clear hr1 hc1
 have H : (laws_zLess.l0 k l0 l1 0) = some r := h
 clear h
 have H' := Aside0.mk H
 clear H
 go_enter Tryz.func77, Tryz.ntmps77
 go_wp2
 repeat (go_quiet (fail); try go_wp2)
 go_loopg [5] k (fun kq v5 w' => ∃ (x5_1 : Int), v5 = .int .i64 x5_1 ∧ Aside0 (laws_zLess.l0 kq l0 l1 x5_1 = some r) ∧ Aside0 (kq ≤ k) ∧ Drawn0 w w')
 case atStart => exact ⟨(0), gR, H', ⟨Nat.le_refl _⟩, dS⟩
 case round =>
  clear H'
  (try clear c1); (try clear p2)
  obtain ⟨x5_1, rfl, HA, HK1, ⟨m1, rfl⟩⟩ := hrel
  cases gk with
  | zero => exact absurd HA.out (by simp [laws_zLess.l0])
  | succ k1 =>
   have H := HA.out
   clear HA
   simp only [laws_zLess.l0] at H
   have HC3 := Aside0.mk H
   clear H
   go_upto_region 2 with (fail)
   repeat (go_quiet (fail); go_upto_region 2 with (fail))
   go_cut [15] (fun v15 wc => ∃ (kq : Nat) (x15_2 : Bool), v15 = .bool x15_2 ∧ Aside0 (laws_zLess.j1 kq l0 l1 x5_1 x15_2 = some r) ∧ Aside0 (kq ≤ k1) ∧ Drawn0 w wc)
   case first =>
    have H := HC3.out
    clear HC3
    by_cases c4 : x5_1 < (l0.length : Int)
    ·rw [if_pos c4] at H
     have c4b0 := decide_eq_true c4
     clear c4
     (first | rw [c4b0] | (simp only [i64_w, i32_w]; rw [c4b0]) | skip)
     have H' := Aside0.mk H
     clear H
     go_wp2
     repeat (go_quiet (fail); try go_wp2)
     go_meet
     case rel => exact ⟨_, (decide (x5_1 < (l1.length : Int))), gR, H', ⟨oN'⟩, dS⟩
    rw [if_neg c4] at H
    have c4b0 : decide (x5_1 < (l0.length : Int)) = false := decide_eq_false c4
    clear c4
    (first | rw [c4b0] | (simp only [i64_w, i32_w]; rw [c4b0]) | skip)
    have H' := Aside0.mk H
    clear H
    go_wp2
    repeat (go_quiet (fail); try go_wp2)
    go_meet
    case rel => exact ⟨_, (false), gR, H', ⟨oN'⟩, dS⟩
   case rest =>
    clear HC3
    (try clear c1); (try clear p2); (try clear c4); (try clear c4b0); (try clear p2)
    obtain ⟨kq, x15_2, rfl, HA, HJ2, ⟨mc2, rfl⟩⟩ := hcut
    cases kq with
    | zero => exact absurd HA.out (by simp [laws_zLess.j1])
    | succ kj2 =>
     have H := HA.out
     clear HA
     simp only [laws_zLess.j1] at H
     by_cases c5 : x15_2 = true
     rotate_left
     ·replace c5 := Bool.eq_false_iff.mpr c5
      subst c5
      replace H := iF H
      obtain rfl := Option.some.inj H
      go_wp2
      repeat (go_quiet (fail); try go_wp2)
      go_ret
      exact ⟨by first | rfl | (simp; done) | (simp [*]; done), dS⟩
     subst c5
     replace H := iT H
     by_cases c6 : 0 ≤ x5_1
     rotate_left
     ·rw [if_neg c6] at H
      exact absurd H (by simp)
     rw [if_pos c6] at H
     have c6b0 := decide_eq_true c6
     clear c6
     by_cases c7 : x5_1 < (l0.length : Int)
     rotate_left
     ·rw [if_neg c7] at H
      exact absurd H (by simp)
     rw [if_pos c7] at H
     have c7b0 := decide_eq_true c7
     clear c7
     by_cases c8 : x5_1 < (l1.length : Int)
     rotate_left
     ·rw [if_neg c8] at H
      exact absurd H (by simp)
     rw [if_pos c8] at H
     have c8b0 := decide_eq_true c8
     clear c8
     by_cases c9 : (rd l0 x5_1) = (rd l1 x5_1)
     ·rw [if_pos c9] at H
      have c9b0 : ((rd l0 x5_1) == (rd l1 x5_1)) = true := beq_iff_eq.mpr c9
      have c9b1 : ((rd l0 x5_1) != (rd l1 x5_1)) = false := bne_eq_false_iff_eq.mpr c9
      clear c9
      have H' := Aside0.mk H
      clear H
      have p101 : 0 ≤ (x5_1 : Int) := oD
      have q101 : x5_1 < (l0.length : Int) := oD
      obtain ⟨ad101, e101, hx101_0⟩ := Kd.at_int HR0.out x5_1 p101 q101
      cases e101
      replace p101 := eq_true p101
      replace q101 := eq_true q101
      have p102 : 0 ≤ (x5_1 : Int) := oD
      have q102 : x5_1 < (l1.length : Int) := oD
      obtain ⟨ad102, e102, hx102_0⟩ := Kd.at_int HR1.out x5_1 p102 q102
      cases e102
      replace p102 := eq_true p102
      replace q102 := eq_true q102
      go_wp2
      repeat (go_quiet (fail); try go_wp2)
      go_roundg kj2
      case measure => have := HK1.out; have := HJ2.out; omega
      case rel => exact ⟨(wrap64 (x5_1 + 1)), gR, H', ⟨by have := HK1.out; have := HJ2.out; omega⟩, dS⟩
     rw [if_neg c9] at H
     have c9b0 : ((rd l0 x5_1) == (rd l1 x5_1)) = false := beq_eq_false_iff_ne.mpr c9
     have c9b1 : ((rd l0 x5_1) != (rd l1 x5_1)) = true := bne_iff_ne.mpr c9
     obtain rfl := Option.some.inj H
     have p101 : 0 ≤ (x5_1 : Int) := oD
     have q101 : x5_1 < (l0.length : Int) := oD
     obtain ⟨ad101, e101, hx101_0⟩ := Kd.at_int HR0.out x5_1 p101 q101
     cases e101
     replace p101 := eq_true p101
     replace q101 := eq_true q101
     have p102 : 0 ≤ (x5_1 : Int) := oD
     have q102 : x5_1 < (l1.length : Int) := oD
     obtain ⟨ad102, e102, hx102_0⟩ := Kd.at_int HR1.out x5_1 p102 q102
     cases e102
     replace p102 := eq_true p102
     replace q102 := eq_true q102
     have p103 : 0 ≤ (x5_1 : Int) := oD
     have q103 : x5_1 < (l0.length : Int) := oD
     obtain ⟨ad103, e103, hx103_0⟩ := Kd.at_int HR0.out x5_1 p103 q103
     obtain rfl : ad101 = ad103 := (by injection e103)
     replace p103 := eq_true p103
     replace q103 := eq_true q103
     have p104 : 0 ≤ (x5_1 : Int) := oD
     have q104 : x5_1 < (l1.length : Int) := oD
     obtain ⟨ad104, e104, hx104_0⟩ := Kd.at_int HR1.out x5_1 p104 q104
     obtain rfl : ad102 = ad104 := (by injection e104)
     replace p104 := eq_true p104
     replace q104 := eq_true q104
     go_wp2
     repeat (go_quiet (fail); try go_wp2)
     go_ret
     exact ⟨by first | rfl | (simp; done) | (simp [*]; done), dS⟩
def spec_voList.l0 : Nat → Int → List Int → Int → Option (List Int)
 | 0, _, _, _ => none
 | k + 1, x0, x3, x4 => if 0 ≤ x4 then (if (shr .i64 x0 x4) > 0 then (if (Int.tmod (shr .i64 x0 x4) 2) = 1 then (if x3.length < 17592186044416 then (spec_voList.l0 k x0 (x3 ++ [x4]) (wrap64 (x4 + 1))) else (none)) else (spec_voList.l0 k x0 x3 (wrap64 (x4 + 1)))) else (some x3)) else (none)
def spec_voList.f (k : Nat) (a0 : Int) : Option (List Int) := spec_voList.l0 k a0 ([] : List Int) 0
theorem spec_voList.calls (k : Nat) (a0 : Int) (r : List Int) (w : World) (h : spec_voList.f k a0 = some r) :
  Calls Tryz.prog 146 #[.int .i64 a0] w fun e w' => ∃ v0_ : Value, e = .returned (v0_) ∧ Kd.R (Kd.int .i64) 3 w' w.heap.size (fun _ => True) v0_ r ∧ Below w.heap.size w w' := by
 have HB := Aside0.mk (Below.refl w.heap.size w)
 have H := h
 unfold spec_voList.f at H
 clear h
 have H' := Aside0.mk H
 clear H
 go_enter Tryz.func146, Tryz.ntmps146
 go_wp2
 go_loopg [3, 4] k (fun kq v3 v4 w' => ∃ (x3_1 : List Int) (x4_1 : Int), v4 = .int .i64 x4_1 ∧ Aside0 (spec_voList.l0 kq a0 x3_1 x4_1 = some r) ∧ Aside0 (kq ≤ k) ∧ Aside0 (Kd.R (Kd.int .i64) 3 w' w.heap.size (fun _ => True) v3 x3_1) ∧ Aside0 (Below w.heap.size w w'))
 case atStart => exact ⟨(([] : List Int)), (0), gR, H', ⟨Nat.le_refl _⟩, ⟨by first | exact Kd.R_nil _ _ _ _ _ | exact Kd.N_nil _ _ _ _ _ | exact Kd.V_nil _ _ _ _ _ | exact Kd.Q_nil _ _ _ _ _ | exact Kd.S_nil _ _ _ _ _⟩, ⟨wB⟩⟩
 case round =>
  clear H'
  (try clear c1)
  obtain ⟨x3_1, x4_1, rfl, HA, HK1, HO_3, HB⟩ := hrel
  cases gk with
  | zero => exact absurd HA.out (by simp [spec_voList.l0])
  | succ k1 =>
   have H := HA.out
   clear HA
   simp only [spec_voList.l0] at H
   by_cases c2 : 0 ≤ x4_1
   rotate_left
   ·rw [if_neg c2] at H
    exact absurd H (by simp)
   rw [if_pos c2] at H
   have c2b0 := eq_true c2
   have c2b1 := decide_eq_true c2
   clear c2
   obtain ⟨ji3, hji3⟩ : ∃ j_ : Int, (shr .i64 a0 x4_1) = j_ := ⟨_, rfl⟩
   replace H : (if (ji3) > 0 then (if (Int.tmod (ji3) 2) = 1 then (if x3_1.length < 17592186044416 then (spec_voList.l0 k1 a0 (x3_1 ++ [x4_1]) (wrap64 (x4_1 + 1))) else (none)) else (spec_voList.l0 k1 a0 x3_1 (wrap64 (x4_1 + 1)))) else (some x3_1)) = some r := by first | (rw [hji3] at H; exact H) | (simp only [hji3] at H ⊢; exact H)
   have hji3_ : (a0 / 2 ^ min x4_1.toNat 64) = ji3 := hji3
   have hji3z : x4_1 ≤ 64 → (a0 / 2 ^ x4_1.toNat) = ji3 := shr_small hji3
   by_cases c4 : (ji3) > 0
   rotate_left
   ·rw [if_neg c4] at H
    have c4b0 : decide (0 < (ji3)) = false := decide_eq_false c4
    clear c4
    obtain rfl := Option.some.inj H
    go_wp2
    go_ret
    exact ⟨_, by first | rfl | (simp <;> rfl) | (simp only [← hji3]; first | rfl | (simp <;> rfl)) | (simp [*] <;> rfl), by exact HO_3.out, wB⟩
   rw [if_pos c4] at H
   have c4b0 : decide (0 < (ji3)) = true := decide_eq_true c4
   clear c4
   have c5b0 := eq_true (oD : 0 ≤ x4_1)
   by_cases c7 : (Int.tmod (ji3) 2) = 1
   rotate_left
   ·rw [if_neg c7] at H
    have c7b0 : ((Int.tmod (ji3) 2) == 1) = false := beq_eq_false_iff_ne.mpr c7
    have c7b1 : ((Int.tmod (ji3) 2) != 1) = true := bne_iff_ne.mpr c7
    have H' := Aside0.mk H
    clear H
    go_wp2
    go_roundg k1
    case measure => have := HK1.out; omega
    case rel => exact ⟨(x3_1), (wrap64 (x4_1 + 1)), gR, H', ⟨by have := HK1.out; omega⟩, ⟨by exact HO_3.out⟩, ⟨wB⟩⟩
   rw [if_pos c7] at H
   have c7b0 : ((Int.tmod (ji3) 2) == 1) = true := beq_iff_eq.mpr c7
   have c7b1 : ((Int.tmod (ji3) 2) != 1) = false := bne_eq_false_iff_eq.mpr c7
   clear c7
   by_cases c8 : x3_1.length < 17592186044416
   rotate_left
   ·rw [if_neg c8] at H
    exact absurd H (by simp)
   rw [if_pos c8] at H
   have LMc8 := Aside0.mk c8
   clear c8
   obtain ⟨y101, hy101⟩ : ∃ y_ : List Int, y_ = (x3_1 ++ [x4_1]) := ⟨_, rfl⟩
   replace H : (spec_voList.l0 k1 a0 y101 (wrap64 (x4_1 + 1))) = some r := by first | (rw [hy101]; with_reducible exact H) | (have H2_ := (Option.bind_some _ _).symm.trans H; rw [hy101]; with_reducible exact H2_) | (have H2_ := (Option.bind_some _ _).symm.trans H; with_reducible exact H2_) | with_reducible exact H | (rw [hy101]; exact H) | exact H
   have Ny101 := Aside0.mk hy101
   clear hy101
   have H' := Aside0.mk H
   clear H
   go_wp2_with (first | ((with_reducible refine gate_builtin (b := .append) (xs := #[.tmp 16, .tmp 18]) rfl ?_); at_builtin; refine Kd.R_append (Kd.int .i64) (w0 := w) w.heap.size rfl (.tmp 16) (.tmp 18) 24 3 (.int .i64 0) 8 rfl Tryz.underlying24 info3 rfl (by decide) (by omega) u3 x3_1 x4_1 [.int .i64 x4_1] (fun _ => True) (fun _ => False) rfl rfl ?aP (fun _ hk => hk.elim) ?aF ?aO ?aB ?aS ?aL ?_; (case aP => exact rfl); (case aB => exact HB.out); (case aF => exact (fun _ _ => trivial)); (case aO => exact HO_3.out); (case aS => exact (below_size HB.out)); (case aL => have := LMc8.out; omega); intro v102 w9 ho hb hg hat; rw [← Ny101.out] at ho; have HO103 := Aside0.mk (ho); replace HB := Aside0.mk (hb); clear ho hb hg hat))
   go_roundg k1
   case measure => have := HK1.out; omega
   case rel => exact ⟨(y101), (wrap64 (x4_1 + 1)), gR, H', ⟨by have := HK1.out; omega⟩, ⟨by exact HO103.out⟩, ⟨wB⟩⟩
mutual
def spec_voBefore.l0 : Nat → List Int → List Int → Int → Option (Bool)
 | 0, _, _, _ => none
 | k + 1, x0, x1, x5 => if x5 < (x0.length : Int) then (spec_voBefore.j1 k x0 x1 x5 (decide (x5 < (x1.length : Int)))) else (spec_voBefore.j1 k x0 x1 x5 false)
def spec_voBefore.j1 : Nat → List Int → List Int → Int → Bool → Option (Bool)
 | 0, _, _, _, _ => none
 | k + 1, x0, x1, x5, x15 => if x15 = true then (if 0 ≤ x5 then (if x5 < (x0.length : Int) then (if x5 < (x1.length : Int) then (if (rd x0 x5) = (rd x1 x5) then (spec_voBefore.l0 k x0 x1 (wrap64 (x5 + 1))) else (some (decide ((rd x0 x5) < (rd x1 x5))))) else (none)) else (none)) else (none)) else (some (decide ((x0.length : Int) < (x1.length : Int))))
end
def spec_voBefore.f (k : Nat) (l0 : List Int) (l1 : List Int) : Option (Bool) := spec_voBefore.l0 k l0 l1 0
theorem spec_voBefore.calls (k : Nat) (A0 : Option Addr) (c0 : Nat) (l0 : List Int) (A1 : Option Addr) (c1 : Nat) (l1 : List Int) (r : Bool) (w : World) (hr0 : Kd.C (Kd.int .i64) w A0 l0.length l0) (hc0 : l0.length ≤ c0) (hr1 : Kd.C (Kd.int .i64) w A1 l1.length l1) (hc1 : l1.length ≤ c1) (h : spec_voBefore.f k l0 l1 = some r) :
  Calls Tryz.prog 212 #[.slice A0 l0.length c0, .slice A1 l1.length c1] w fun e w' => e = .returned (.bool r) ∧ Drawn0 w w' := by
 have HR0 := Aside0.mk hr0
 have HC0 := Aside0.mk hc0
 clear hr0 hc0
 have HR1 := Aside0.mk hr1
 have HC1 := Aside0.mk hc1
 clear hr1 hc1
 have H : (spec_voBefore.l0 k l0 l1 0) = some r := h
 clear h
 have H' := Aside0.mk H
 clear H
 go_enter Tryz.func212, Tryz.ntmps212
 go_wp2
 repeat (go_quiet (fail); try go_wp2)
 go_loopg [5] k (fun kq v5 w' => ∃ (x5_1 : Int), v5 = .int .i64 x5_1 ∧ Aside0 (spec_voBefore.l0 kq l0 l1 x5_1 = some r) ∧ Aside0 (kq ≤ k) ∧ Drawn0 w w')
 case atStart => exact ⟨(0), gR, H', ⟨Nat.le_refl _⟩, dS⟩
 case round =>
  clear H'
  (try clear c1); (try clear c2); (try clear p2)
  obtain ⟨x5_1, rfl, HA, HK1, ⟨m1, rfl⟩⟩ := hrel
  cases gk with
  | zero => exact absurd HA.out (by simp [spec_voBefore.l0])
  | succ k1 =>
   have H := HA.out
   clear HA
   simp only [spec_voBefore.l0] at H
   have HC3 := Aside0.mk H
   clear H
   go_upto_region 2 with (fail)
   repeat (go_quiet (fail); go_upto_region 2 with (fail))
   go_cut [15] (fun v15 wc => ∃ (kq : Nat) (x15_2 : Bool), v15 = .bool x15_2 ∧ Aside0 (spec_voBefore.j1 kq l0 l1 x5_1 x15_2 = some r) ∧ Aside0 (kq ≤ k1) ∧ Drawn0 w wc)
   case first =>
    have H := HC3.out
    clear HC3
    by_cases c4 : x5_1 < (l0.length : Int)
    ·rw [if_pos c4] at H
     have c4b0 := decide_eq_true c4
     clear c4
     (first | rw [c4b0] | (simp only [i64_w, i32_w]; rw [c4b0]) | skip)
     have H' := Aside0.mk H
     clear H
     go_wp2
     repeat (go_quiet (fail); try go_wp2)
     go_meet
     case rel => exact ⟨_, (decide (x5_1 < (l1.length : Int))), gR, H', ⟨oN'⟩, dS⟩
    rw [if_neg c4] at H
    have c4b0 : decide (x5_1 < (l0.length : Int)) = false := decide_eq_false c4
    clear c4
    (first | rw [c4b0] | (simp only [i64_w, i32_w]; rw [c4b0]) | skip)
    have H' := Aside0.mk H
    clear H
    go_wp2
    repeat (go_quiet (fail); try go_wp2)
    go_meet
    case rel => exact ⟨_, (false), gR, H', ⟨oN'⟩, dS⟩
   case rest =>
    clear HC3
    (try clear c1); (try clear c2); (try clear p2); (try clear c4); (try clear c4b0); (try clear p2)
    obtain ⟨kq, x15_2, rfl, HA, HJ2, ⟨mc2, rfl⟩⟩ := hcut
    cases kq with
    | zero => exact absurd HA.out (by simp [spec_voBefore.j1])
    | succ kj2 =>
     have H := HA.out
     clear HA
     simp only [spec_voBefore.j1] at H
     by_cases c5 : x15_2 = true
     rotate_left
     ·replace c5 := Bool.eq_false_iff.mpr c5
      subst c5
      replace H := iF H
      obtain rfl := Option.some.inj H
      go_wp2
      repeat (go_quiet (fail); try go_wp2)
      go_ret
      exact ⟨by first | rfl | (simp; done) | (simp [*]; done), dS⟩
     subst c5
     replace H := iT H
     by_cases c6 : 0 ≤ x5_1
     rotate_left
     ·rw [if_neg c6] at H
      exact absurd H (by simp)
     rw [if_pos c6] at H
     have c6b0 := decide_eq_true c6
     clear c6
     by_cases c7 : x5_1 < (l0.length : Int)
     rotate_left
     ·rw [if_neg c7] at H
      exact absurd H (by simp)
     rw [if_pos c7] at H
     have c7b0 := decide_eq_true c7
     clear c7
     by_cases c8 : x5_1 < (l1.length : Int)
     rotate_left
     ·rw [if_neg c8] at H
      exact absurd H (by simp)
     rw [if_pos c8] at H
     have c8b0 := decide_eq_true c8
     clear c8
     by_cases c9 : (rd l0 x5_1) = (rd l1 x5_1)
     ·rw [if_pos c9] at H
      have c9b0 : ((rd l0 x5_1) == (rd l1 x5_1)) = true := beq_iff_eq.mpr c9
      have c9b1 : ((rd l0 x5_1) != (rd l1 x5_1)) = false := bne_eq_false_iff_eq.mpr c9
      clear c9
      have H' := Aside0.mk H
      clear H
      have p101 : 0 ≤ (x5_1 : Int) := oD
      have q101 : x5_1 < (l0.length : Int) := oD
      obtain ⟨ad101, e101, hx101_0⟩ := Kd.at_int HR0.out x5_1 p101 q101
      cases e101
      replace p101 := eq_true p101
      replace q101 := eq_true q101
      have p102 : 0 ≤ (x5_1 : Int) := oD
      have q102 : x5_1 < (l1.length : Int) := oD
      obtain ⟨ad102, e102, hx102_0⟩ := Kd.at_int HR1.out x5_1 p102 q102
      cases e102
      replace p102 := eq_true p102
      replace q102 := eq_true q102
      go_wp2
      repeat (go_quiet (fail); try go_wp2)
      go_roundg kj2
      case measure => have := HK1.out; have := HJ2.out; omega
      case rel => exact ⟨(wrap64 (x5_1 + 1)), gR, H', ⟨by have := HK1.out; have := HJ2.out; omega⟩, dS⟩
     rw [if_neg c9] at H
     have c9b0 : ((rd l0 x5_1) == (rd l1 x5_1)) = false := beq_eq_false_iff_ne.mpr c9
     have c9b1 : ((rd l0 x5_1) != (rd l1 x5_1)) = true := bne_iff_ne.mpr c9
     obtain rfl := Option.some.inj H
     have p101 : 0 ≤ (x5_1 : Int) := oD
     have q101 : x5_1 < (l0.length : Int) := oD
     obtain ⟨ad101, e101, hx101_0⟩ := Kd.at_int HR0.out x5_1 p101 q101
     cases e101
     replace p101 := eq_true p101
     replace q101 := eq_true q101
     have p102 : 0 ≤ (x5_1 : Int) := oD
     have q102 : x5_1 < (l1.length : Int) := oD
     obtain ⟨ad102, e102, hx102_0⟩ := Kd.at_int HR1.out x5_1 p102 q102
     cases e102
     replace p102 := eq_true p102
     replace q102 := eq_true q102
     have p103 : 0 ≤ (x5_1 : Int) := oD
     have q103 : x5_1 < (l0.length : Int) := oD
     obtain ⟨ad103, e103, hx103_0⟩ := Kd.at_int HR0.out x5_1 p103 q103
     obtain rfl : ad101 = ad103 := (by injection e103)
     replace p103 := eq_true p103
     replace q103 := eq_true q103
     have p104 : 0 ≤ (x5_1 : Int) := oD
     have q104 : x5_1 < (l1.length : Int) := oD
     obtain ⟨ad104, e104, hx104_0⟩ := Kd.at_int HR1.out x5_1 p104 q104
     obtain rfl : ad102 = ad104 := (by injection e104)
     replace p104 := eq_true p104
     replace q104 := eq_true q104
     go_wp2
     repeat (go_quiet (fail); try go_wp2)
     go_ret
     exact ⟨by first | rfl | (simp; done) | (simp [*]; done), dS⟩
mutual
def spec_voSorted.l0 : Nat → List (List Int) → List (List Int) → Int → Option (List (List Int))
 | 0, _, _, _ => none
 | k + 1, out, l, x => if x < (l.length : Int) then (if 0 ≤ x then spec_voSorted.l1 k out l x (rdOf [] l x) 0 else none) else some out
def spec_voSorted.l1 : Nat → List (List Int) → List (List Int) → Int → List Int → Int → Option (List (List Int))
 | 0, _, _, _, _, _ => none
 | k + 1, out, l, x, s, y => if y < (out.length : Int) then ((spec_voBefore.f k (rdOf [] out y) s).bind fun t => if t = true then spec_voSorted.l1 k out l x s (wrap64 (y + 1)) else (if out.length < 5000000000000 then spec_voSorted.l0 k (out.take y.toNat ++ s :: out.drop y.toNat) l (wrap64 (x + 1)) else none)) else (if out.length < 5000000000000 then spec_voSorted.l0 k (out.take y.toNat ++ s :: out.drop y.toNat) l (wrap64 (x + 1)) else none)
end
def spec_voSorted.f (k : Nat) (l0 : List (List Int)) : Option (List (List Int)) := spec_voSorted.l0 k [] l0 0
theorem spec_voSorted.next {k : Nat} {l0 : List (List Int)} {ys : List (Fin l0.length)} {x y : Int} {p : Fin l0.length} {z : List Int} {r : List (List Int)} (h0 : 0 ≤ x) (hl : x < (l0.length : Int)) (hn : l0.length ≤ 9223372036854775807) (hp : p.1 = x.toNat) (hz : z = l0[p]) (h : spec_voSorted.l0 k ((ys.map fun i => l0[i]).take y.toNat ++ z :: (ys.map fun i => l0[i]).drop y.toNat) l0 (wrap64 (x + 1)) = some r) : spec_voSorted.l0 k (([] ++ ys.take y.toNat ++ [p] ++ ys.drop y.toNat).map fun i => l0[i]) l0 (wrap64 (x + 1)) = some r := by
 rw [← h]
 congr 1
 simp [hz, List.map_take, List.map_drop]
theorem spec_voSorted.perm {n : Nat} {ys : List (Fin n)} {x y : Int} {p : Fin n} (h0 : 0 ≤ x) (hl : x < (n : Int)) (hn : n ≤ 9223372036854775807) (hp : p.1 = x.toNat) (hy : y.toNat ≤ ys.length) (h : ys.Perm ((List.finRange n).take x.toNat)) : ([] ++ ys.take y.toNat ++ [p] ++ ys.drop y.toNat).Perm ((List.finRange n).take (wrap64 (x + 1)).toNat) := by
 have e1 : (wrap64 (x + 1)).toNat = x.toNat + 1 := by unfold wrap64; omega
 have hx : x.toNat < (List.finRange n).length := by rw [List.length_finRange]; omega
 have e2 : (List.finRange n)[x.toNat] = p := by apply Fin.ext; simp [hp]
 rw [e1, List.take_succ_eq_append_getElem hx, e2, List.nil_append, List.append_assoc, List.singleton_append]
 refine List.perm_middle.trans ?_
 rw [List.take_append_drop]
 exact (List.Perm.cons p h).trans (List.perm_append_singleton p _).symm
theorem wHR_spec_voSorted {p : Prop} (h : p := by repeat (first | (with_reducible first | exact HR.out | apply ba | apply bd | apply be) | exact HR.out)) : p := h
theorem spec_voSorted.calls (k : Nat) (base : Nat) (A0 : Option Addr) (c0 : Nat) (l0 : List (List Int)) (r : List (List Int)) (w : World) (hS : Kd.S (Kd.slice 3 (Kd.int .i64)) 24 w base (fun _ => True) (.slice A0 l0.length c0) l0) (hbase : base ≤ w.heap.size) (h : spec_voSorted.f k l0 = some r) :
  Calls Tryz.prog 147 #[.slice A0 l0.length c0] w fun e w' => ∃ v0_ : Value, e = .returned (v0_) ∧ Kd.S (Kd.slice 3 (Kd.int .i64)) 24 w' base (fun _ => True) v0_ r ∧ Below w.heap.size w w' := by
 obtain ⟨enc, h1, hR, hK, hfin⟩ := Go.Proofs.YtamfpkefnhcngaaGreatS.S_open rfl hS
 obtain ⟨A', c', hv, hcc, hC⟩ := Kd.R_reads hR
 rw [List.length_finRange] at hv hcc hC
 injection hv with f1 f2 f3
 subst f1
 subst f3
 have HN := Aside0.mk (Kd.C_max hC)
 have HF := Aside0.mk hfin
 have HK := Aside0.mk hK
 have HC := Aside0.mk hC
 have HBASE := Aside0.mk hbase
 have HB := Aside0.mk (Below.refl w.heap.size w)
 have H' : Aside0 (spec_voSorted.l0 k (([] : List (Fin l0.length)).map fun i => l0[i]) l0 0 = some r) := ⟨h⟩
 clear h hS hR hK hfin hC hbase hcc f2
 go_enter Tryz.func147, Tryz.ntmps147
 go_wp2
 go_loopg [3, 10] k (fun kq v3 v10 w' => ∃ (ys : List (Fin l0.length)) (x : Int), v10 = .int .i64 x ∧ Aside0 (spec_voSorted.l0 kq (ys.map fun i => l0[i]) l0 x = some r) ∧ Aside0 (kq ≤ k) ∧ Aside0 (0 ≤ x) ∧ Aside0 ((Kd.scalar enc h1).R 24 w' w.heap.size (fun _ => True) v3 ys) ∧ Aside0 (ys.Perm ((List.finRange l0.length).take x.toNat)) ∧ Aside0 (Below w.heap.size w w'))
 case atStart => exact ⟨[], 0, gR, H', ⟨Nat.le_refl _⟩, ⟨Int.le_refl _⟩, ⟨Kd.R_nil _ _ _ _ _⟩, ⟨by simp⟩, HB⟩
 case round =>
  clear H' HB
  obtain ⟨ys, x, rfl, HA, HK1, HX0, HO, HP, HB⟩ := hrel
  obtain ⟨Ao, co, rfl, hco, hCo⟩ := Kd.R_reads HO.out
  have HCO := Aside0.mk hco
  clear hco hCo
  cases gk with
  | zero => exact absurd HA.out (by simp [spec_voSorted.l0])
  | succ k1 =>
   have H := HA.out
   clear HA
   simp only [spec_voSorted.l0] at H
   by_cases c1 : x < (l0.length : Int)
   rotate_left
   ·rw [if_neg c1] at H
    obtain rfl := Option.some.inj H
    have hpm := HP.out
    rw [List.take_of_length_le (by rw [List.length_finRange]; omega)] at hpm
    have HPM := Aside0.mk hpm
    have c1b0 : decide (x < (l0.length : Int)) = false := decide_eq_false c1
    clear c1 H hpm
    go_wp2
    go_ret
    exact ⟨_, rfl, HF.out _ _ ys (by repeat (first | exact HB.out | apply ba | apply bd | apply be)) HPM.out HBASE.out (by (with_reducible repeat (first | apply qA | apply qN | apply qD)); exact HO.out), wB⟩
   rw [if_pos c1, if_pos HX0.out] at H
   have HXL := Aside0.mk c1
   have hx0' := HX0.out
   obtain ⟨p, hp⟩ : ∃ p : Fin l0.length, p.1 = x.toNat := ⟨⟨x.toNat, by omega⟩, rfl⟩
   have HPX := Aside0.mk hp
   obtain ⟨z, hz⟩ : ∃ z : List Int, z = l0[p]'(p.2) := ⟨_, rfl⟩
   have HZ := Aside0.mk hz
   have hzr : rdOf [] l0 x = z := by rw [hz]; simp [rdOf, ← hp]
   rw [hzr] at H
   have H' := Aside0.mk H
   obtain ⟨ad, cc, e1, _, hKx, hcell⟩ := Kd.C_get HC.out p x hx0' c1
   have hKx' : cc = [enc p] := by
    have h_ : cc = [enc ((List.finRange l0.length).getD x.toNat p)] := hKx
    rw [h_, ← hp]
    simp
   have hx0 : w.cell? (ad.add (x.toNat * 1 + 0)) = some (enc p) := hcell 0 _ (by rw [hKx']; rfl)
   rw [Nat.mul_one, Nat.add_zero] at hx0
   obtain ⟨A5, c5, e5, hle5, hC5⟩ := HK.out p
   rw [← hz] at e5 hle5 hC5
   have e5' : enc p = .slice A5 z.length c5 := (List.cons.inj e5).1
   have HEP := Aside0.mk e5'
   have HC5 := Aside0.mk hC5
   have HL5 := Aside0.mk hle5
   rw [e5'] at hx0
   replace hx0 := (HB.out.cell (World.block_lt_of_cell? w _ hx0)).trans hx0
   cases e1
   clear hp hz hzr H hKx hKx' hcell e5 e5' hle5 hC5
   have c1b0 := decide_eq_true c1
   replace c1 := eq_true c1
   replace hx0' := eq_true hx0'
   go_wp2
   go_loopg [6] k1 (fun kq v6 w' => ∃ (y : Int), v6 = .int .i64 y ∧ Aside0 (spec_voSorted.l1 kq (ys.map fun i => l0[i]) l0 x z y = some r) ∧ Aside0 (kq ≤ k1) ∧ Aside0 (0 ≤ y) ∧ Aside0 (y ≤ (ys.length : Int)) ∧ Aside0 ((Kd.scalar enc h1).R 24 w' w.heap.size (fun _ => True) (.slice Ao ys.length co) ys) ∧ Aside0 (Below w.heap.size w w'))
   case atStart => exact ⟨0, gR, H', ⟨Nat.le_refl _⟩, ⟨Int.le_refl _⟩, ⟨by omega⟩, ⟨by exact HO.out⟩, ⟨wB⟩⟩
   case round =>
    clear H' HB HO
    (try clear hx0)
    try clear hx0'
    (try clear c1); (try clear c1b0)
    obtain ⟨y, rfl, HA, HK2, HY0, HYL, HO, HB⟩ := hrel
    cases gk with
    | zero => exact absurd HA.out (by simp [spec_voSorted.l1])
    | succ k2 =>
     have H := HA.out
     clear HA
     simp only [spec_voSorted.l1] at H
     obtain ⟨Ao', co', eo', _, hCo⟩ := Kd.R_reads HO.out
     injection eo' with g1 g2 g3
     subst g1
     have HCo := Aside0.mk hCo
     have HYB := Aside0.mk (Kd.C_max hCo)
     clear hCo g2 g3
     have HR := Aside0.mk (Below.refl wr.heap.size wr)
     have HNL := HN
     by_cases c2 : y < ((ys.map fun i => l0[i]).length : Int)
     rotate_left
     ·rw [if_neg c2] at H
      rw [List.length_map] at c2
      have c2b0 : decide (y < (ys.length : Int)) = false := decide_eq_false c2
      clear c2
      by_cases c9 : (ys.map fun i => l0[i]).length < 5000000000000
      rotate_left
      ·rw [if_neg c9] at H
       exact absurd H (by simp)
      rw [if_pos c9] at H
      rw [List.length_map] at c9
      have LM := Aside0.mk c9
      have hyl : y ≤ (ys.length : Int) := HYL.out
      obtain ⟨i0, hi0, _, hsz0, _⟩ := info_parts info24
      have hcutT := cut_to (P := Tryz.prog) 45 24 .i64 Tryz.underlying45 hi0 Ao ys.length co y HY0.out hyl HCO.out
      have hcutF := cut_from (P := Tryz.prog) 45 24 .i64 Tryz.underlying45 hi0 1 hsz0 Ao ys.length co y HY0.out hyl
      rw [Nat.mul_one] at hcutF
      obtain ⟨AF, hAF⟩ : ∃ AF : Option Addr, AF = (if co = y.toNat then Ao else Ao.map (·.add y.toNat)) := ⟨_, rfl⟩
      rw [← hAF] at hcutF
      have HAF := Aside0.mk hAF
      clear hAF
      have hyn : y.toNat ≤ ys.length := by omega
      have HYN := Aside0.mk hyn
      clear c9 hyl hyn hi0 hsz0
      go_wp2_with (first | ((with_reducible refine gate_dst (N := 28) rfl ?_); refine Kd.R_lit (Kd.scalar enc h1) _ 24 ?hg (N := 28) ?hd (xs := []) (inner := []) (ok := fun _ => True) (okp := fun _ => True) ?hr ?hp (fun _ hk => hk) trivial (Below.refl _ _) (Nat.le_refl _) (by simp) ?_; (case hd => rfl); (case hg => rfl); (case hr => first | (go_simp; done) | (go_simp; rfl)); (case hp => exact (Reps.none _ _)); intro v28 w28 ho hb hg_ hnew_; clear hg_ hnew_; have HE := Aside0.mk (Kd.R_lower ho (below_size (wHR_spec_voSorted))); replace HR := Aside0.mk (below_step (wHR_spec_voSorted) hb); clear hb ho) | ((with_reducible refine gate_builtin (b := .append) (xs := #[.tmp 28, .tmp 31]) rfl ?_); at_builtin; refine Kd.R_append_rows (Kd.scalar enc h1) (w0 := wr) wr.heap.size rfl (.tmp 28) (.tmp 31) 45 24 (.slice none 0 0) 24 rfl Tryz.underlying45 info24 rfl Nat.zero_lt_one (by omega) v28 [] (ys.take y.toNat) Ao y.toNat co (fun _ => True) (fun _ => False) rfl rfl ?aO ?aR (fun _ _ h => h) (fun _ h => h.elim) ?aF ?aB ?aS ?aL ?_; (case aR => exact (by have h_ := Kd.C_take (m := y.toNat) (Kd.C_below HCo.out (wHR_spec_voSorted)) HYN.out; rw [show (ys.take y.toNat).length = y.toNat from by rw [List.length_take]; exact Nat.min_eq_left HYN.out] at h_; exact h_)); (case aB => exact (wHR_spec_voSorted)); (case aF => exact (fun _ _ => trivial)); (case aO => exact (by (with_reducible repeat (first | apply qA | apply qN | apply qD)); exact HE.out)); (case aS => exact (below_size (wHR_spec_voSorted))); (case aL => have h1_ := LM.out; have h2_ := HYN.out; simp only [List.length_append, List.length_take, List.length_nil, List.length_cons]; omega); intro v32 w32 ho hb hg hat; replace HR := Aside0.mk hb; replace HE := Aside0.mk ho; clear ho hb hg hat) | ((with_reducible refine gate_builtin (b := .append) (xs := #[.tmp 32, .tmp 34]) rfl ?_); at_builtin; refine Kd.R_append (Kd.scalar enc h1) (w0 := wr) wr.heap.size rfl (.tmp 32) (.tmp 34) 45 24 (.slice none 0 0) 24 rfl Tryz.underlying45 info24 rfl Nat.zero_lt_one (by omega) v32 ([] ++ ys.take y.toNat) p [.slice A5 z.length c5] (fun _ => True) (fun _ => False) rfl rfl ?aP (fun _ hk => hk.elim) ?aF ?aO ?aB ?aS ?aL ?_; (case aP => exact (show [Value.slice A5 z.length c5] = [enc p] from by rw [HEP.out])); (case aB => exact (wHR_spec_voSorted)); (case aF => exact (fun _ _ => trivial)); (case aO => exact (by (with_reducible repeat (first | apply qA | apply qN | apply qD)); exact HE.out)); (case aS => exact (below_size (wHR_spec_voSorted))); (case aL => have h1_ := LM.out; have h2_ := HYN.out; simp only [List.length_append, List.length_take, List.length_nil, List.length_cons]; omega); intro v35 w35 ho hb hg hat; replace HR := Aside0.mk hb; replace HE := Aside0.mk ho; clear ho hb hg hat) | ((with_reducible refine gate_builtin (b := .append) (xs := #[.tmp 36, .tmp 39]) rfl ?_); at_builtin; refine Kd.R_append_rows (Kd.scalar enc h1) (w0 := wr) wr.heap.size rfl (.tmp 36) (.tmp 39) 45 24 (.slice none 0 0) 24 rfl Tryz.underlying45 info24 rfl Nat.zero_lt_one (by omega) v35 ([] ++ ys.take y.toNat ++ [p]) (ys.drop y.toNat) _ _ _ (fun _ => True) (fun _ => False) rfl rfl ?aO ?aR (fun _ _ h => h) (fun _ h => h.elim) ?aF ?aB ?aS ?aL ?_; (case aR => exact (by have h_ : (Kd.scalar enc h1).C _ (if co = y.toNat then Ao else Ao.map (·.add (y.toNat * 1))) (ys.drop y.toNat).length (ys.drop y.toNat) := Kd.C_drop (m := y.toNat) (Kd.C_below HCo.out (wHR_spec_voSorted)) HYN.out HCO.out; rw [List.length_drop, Nat.mul_one, ← HAF.out] at h_; exact h_)); (case aB => exact (wHR_spec_voSorted)); (case aF => exact (fun _ _ => trivial)); (case aO => exact (by (with_reducible repeat (first | apply qA | apply qN | apply qD)); exact HE.out)); (case aS => exact (below_size (wHR_spec_voSorted))); (case aL => have h1_ := LM.out; have h2_ := HYN.out; simp only [List.length_append, List.length_take, List.length_nil, List.length_cons]; omega); intro v40 w40 ho hb hg hat; replace HR := Aside0.mk hb; replace HE := Aside0.mk ho; clear ho hb hg hat))
      go_roundg k2
      case measure => have := HK1.out; have := HK2.out; omega
      case rel => exact ⟨[] ++ ys.take y.toNat ++ [p] ++ ys.drop y.toNat, wrap64 (x + 1), gR, ⟨spec_voSorted.next HX0.out HXL.out HNL.out HPX.out HZ.out H⟩, ⟨by have := HK1.out; have := HK2.out; omega⟩, ⟨by have := HX0.out; have := HXL.out; have := HNL.out; unfold wrap64; omega⟩, ⟨by (with_reducible repeat (first | apply qA | apply qN | apply qD)); exact Kd.R_lower HE.out (below_size HB.out)⟩, ⟨spec_voSorted.perm HX0.out HXL.out HNL.out HPX.out HYN.out HP.out⟩, ⟨HB.out.trans (HR.out.mono (below_size HB.out))⟩⟩
     rw [if_pos c2] at H
     obtain ⟨t, A7, H⟩ := oB H
     rw [List.length_map] at c2
     have hy0 := HY0.out
     have hyl : y.toNat < ys.length := by omega
     obtain ⟨q, hq⟩ : ∃ q : Fin l0.length, q = ys[y.toNat] := ⟨_, rfl⟩
     obtain ⟨zq, hzq⟩ : ∃ z : List Int, z = l0[q]'(q.2) := ⟨_, rfl⟩
     have hzr : rdOf [] (ys.map fun i => l0[i]) y = zq := by rw [hzq, hq]; simp [rdOf, hyl]
     rw [hzr] at A7
     have A8 := Aside0.mk A7
     obtain ⟨ad2, cc2, e2, _, hKy, hcell⟩ := Kd.C_get HCo.out q y hy0 c2
     have hKy' : cc2 = [enc q] := by
      have h_ : cc2 = [enc (ys.getD y.toNat q)] := hKy
      rw [h_, hq]
      simp [hyl]
     have hy1 : wr.cell? (ad2.add (y.toNat * 1 + 0)) = some (enc q) := hcell 0 _ (by rw [hKy']; rfl)
     rw [Nat.mul_one, Nat.add_zero] at hy1
     obtain ⟨Aq, cq, eq, hleq, hCq⟩ := HK.out q
     rw [← hzq] at eq hleq hCq
     rw [(List.cons.inj eq).1] at hy1
     have HCQ := Aside0.mk hCq
     have HLQ := Aside0.mk hleq
     cases e2
     clear hq hzq hzr A7 hKy hKy' hcell eq hleq hCq hyl
     have c2b0 : decide (y < (ys.length : Int)) = true := decide_eq_true c2
     replace c2 := eq_true c2
     replace hy0 := eq_true hy0
     cases t with
     | true =>
      rw [if_pos rfl] at H
      have H' := Aside0.mk H
      clear H
      go_wp2_with (go_at_call 212; refine (spec_voBefore.calls k2 _ _ zq _ _ z true _ (Kd.C_below HCQ.out HB.out) HLQ.out (Kd.C_below HC5.out HB.out) HL5.out A8.out).mono ?_; rintro e w' ⟨rfl, ⟨nd, rfl⟩⟩)
      go_roundg k2
      case measure => have := HK2.out; omega
      case rel => exact ⟨wrap64 (y + 1), gR, H', ⟨by have := HK2.out; omega⟩, ⟨by have h1_ : y < (ys.length : Int) := of_eq_true c2; have h2_ := HYB.out; have := HY0.out; unfold wrap64; omega⟩, ⟨by have h1_ : y < (ys.length : Int) := of_eq_true c2; have h2_ := HYB.out; have := HY0.out; unfold wrap64; omega⟩, ⟨by (with_reducible repeat (first | apply qA | apply qN | apply qD)); exact HO.out⟩, ⟨wB⟩⟩
     | false =>
      rw [if_neg (by decide)] at H
      by_cases c9 : (ys.map fun i => l0[i]).length < 5000000000000
      rotate_left
      ·rw [if_neg c9] at H
       exact absurd H (by simp)
      rw [if_pos c9] at H
      rw [List.length_map] at c9
      have LM := Aside0.mk c9
      have hyl : y ≤ (ys.length : Int) := HYL.out
      obtain ⟨i0, hi0, _, hsz0, _⟩ := info_parts info24
      have hcutT := cut_to (P := Tryz.prog) 45 24 .i64 Tryz.underlying45 hi0 (some ad2) ys.length co y HY0.out hyl HCO.out
      have hcutF := cut_from (P := Tryz.prog) 45 24 .i64 Tryz.underlying45 hi0 1 hsz0 (some ad2) ys.length co y HY0.out hyl
      rw [Nat.mul_one] at hcutF
      obtain ⟨AF, hAF⟩ : ∃ AF : Option Addr, AF = (if co = y.toNat then (some ad2) else (some ad2 : Option Addr).map (·.add y.toNat)) := ⟨_, rfl⟩
      rw [← hAF] at hcutF
      have HAF := Aside0.mk hAF
      clear hAF
      have hyn : y.toNat ≤ ys.length := by omega
      have HYN := Aside0.mk hyn
      clear c9 hyl hyn hi0 hsz0
      go_wp2_with (first | (go_at_call 212; refine (spec_voBefore.calls k2 _ _ zq _ _ z false _ (Kd.C_below HCQ.out HB.out) HLQ.out (Kd.C_below HC5.out HB.out) HL5.out A8.out).mono ?_; rintro e w' ⟨rfl, ⟨nd, rfl⟩⟩) | ((with_reducible refine gate_dst (N := 28) rfl ?_); refine Kd.R_lit (Kd.scalar enc h1) _ 24 ?hg (N := 28) ?hd (xs := []) (inner := []) (ok := fun _ => True) (okp := fun _ => True) ?hr ?hp (fun _ hk => hk) trivial (Below.refl _ _) (Nat.le_refl _) (by simp) ?_; (case hd => rfl); (case hg => rfl); (case hr => first | (go_simp; done) | (go_simp; rfl)); (case hp => exact (Reps.none _ _)); intro v28 w28 ho hb hg_ hnew_; clear hg_ hnew_; have HE := Aside0.mk (Kd.R_lower ho (below_size (wHR_spec_voSorted))); replace HR := Aside0.mk (below_step (wHR_spec_voSorted) hb); clear hb ho) | ((with_reducible refine gate_builtin (b := .append) (xs := #[.tmp 28, .tmp 31]) rfl ?_); at_builtin; refine Kd.R_append_rows (Kd.scalar enc h1) (w0 := wr) wr.heap.size rfl (.tmp 28) (.tmp 31) 45 24 (.slice none 0 0) 24 rfl Tryz.underlying45 info24 rfl Nat.zero_lt_one (by omega) v28 [] (ys.take y.toNat) (some ad2) y.toNat co (fun _ => True) (fun _ => False) rfl rfl ?aO ?aR (fun _ _ h => h) (fun _ h => h.elim) ?aF ?aB ?aS ?aL ?_; (case aR => exact (by have h_ := Kd.C_take (m := y.toNat) (Kd.C_below HCo.out (wHR_spec_voSorted)) HYN.out; rw [show (ys.take y.toNat).length = y.toNat from by rw [List.length_take]; exact Nat.min_eq_left HYN.out] at h_; exact h_)); (case aB => exact (wHR_spec_voSorted)); (case aF => exact (fun _ _ => trivial)); (case aO => exact (by (with_reducible repeat (first | apply qA | apply qN | apply qD)); exact HE.out)); (case aS => exact (below_size (wHR_spec_voSorted))); (case aL => have h1_ := LM.out; have h2_ := HYN.out; simp only [List.length_append, List.length_take, List.length_nil, List.length_cons]; omega); intro v32 w32 ho hb hg hat; replace HR := Aside0.mk hb; replace HE := Aside0.mk ho; clear ho hb hg hat) | ((with_reducible refine gate_builtin (b := .append) (xs := #[.tmp 32, .tmp 34]) rfl ?_); at_builtin; refine Kd.R_append (Kd.scalar enc h1) (w0 := wr) wr.heap.size rfl (.tmp 32) (.tmp 34) 45 24 (.slice none 0 0) 24 rfl Tryz.underlying45 info24 rfl Nat.zero_lt_one (by omega) v32 ([] ++ ys.take y.toNat) p [.slice A5 z.length c5] (fun _ => True) (fun _ => False) rfl rfl ?aP (fun _ hk => hk.elim) ?aF ?aO ?aB ?aS ?aL ?_; (case aP => exact (show [Value.slice A5 z.length c5] = [enc p] from by rw [HEP.out])); (case aB => exact (wHR_spec_voSorted)); (case aF => exact (fun _ _ => trivial)); (case aO => exact (by (with_reducible repeat (first | apply qA | apply qN | apply qD)); exact HE.out)); (case aS => exact (below_size (wHR_spec_voSorted))); (case aL => have h1_ := LM.out; have h2_ := HYN.out; simp only [List.length_append, List.length_take, List.length_nil, List.length_cons]; omega); intro v35 w35 ho hb hg hat; replace HR := Aside0.mk hb; replace HE := Aside0.mk ho; clear ho hb hg hat) | ((with_reducible refine gate_builtin (b := .append) (xs := #[.tmp 36, .tmp 39]) rfl ?_); at_builtin; refine Kd.R_append_rows (Kd.scalar enc h1) (w0 := wr) wr.heap.size rfl (.tmp 36) (.tmp 39) 45 24 (.slice none 0 0) 24 rfl Tryz.underlying45 info24 rfl Nat.zero_lt_one (by omega) v35 ([] ++ ys.take y.toNat ++ [p]) (ys.drop y.toNat) _ _ _ (fun _ => True) (fun _ => False) rfl rfl ?aO ?aR (fun _ _ h => h) (fun _ h => h.elim) ?aF ?aB ?aS ?aL ?_; (case aR => exact (by have h_ : (Kd.scalar enc h1).C _ (if co = y.toNat then (some ad2) else (some ad2 : Option Addr).map (·.add (y.toNat * 1))) (ys.drop y.toNat).length (ys.drop y.toNat) := Kd.C_drop (m := y.toNat) (Kd.C_below HCo.out (wHR_spec_voSorted)) HYN.out HCO.out; rw [List.length_drop, Nat.mul_one, ← HAF.out] at h_; exact h_)); (case aB => exact (wHR_spec_voSorted)); (case aF => exact (fun _ _ => trivial)); (case aO => exact (by (with_reducible repeat (first | apply qA | apply qN | apply qD)); exact HE.out)); (case aS => exact (below_size (wHR_spec_voSorted))); (case aL => have h1_ := LM.out; have h2_ := HYN.out; simp only [List.length_append, List.length_take, List.length_nil, List.length_cons]; omega); intro v40 w40 ho hb hg hat; replace HR := Aside0.mk hb; replace HE := Aside0.mk ho; clear ho hb hg hat))
      go_roundg k2
      case measure => have := HK1.out; have := HK2.out; omega
      case rel => exact ⟨[] ++ ys.take y.toNat ++ [p] ++ ys.drop y.toNat, wrap64 (x + 1), gR, ⟨spec_voSorted.next HX0.out HXL.out HNL.out HPX.out HZ.out H⟩, ⟨by have := HK1.out; have := HK2.out; omega⟩, ⟨by have := HX0.out; have := HXL.out; have := HNL.out; unfold wrap64; omega⟩, ⟨by (with_reducible repeat (first | apply qA | apply qN | apply qD)); exact Kd.R_lower HE.out (below_size HB.out)⟩, ⟨spec_voSorted.perm HX0.out HXL.out HNL.out HPX.out HYN.out HP.out⟩, ⟨HB.out.trans (HR.out.mono (below_size HB.out))⟩⟩
def spec_pwMember.f (k : Nat) (a0_0 : Int) (l0_1 : List Int) (a1 : Int) : Option (Bool) := (spec_voGood.f k a0_0 l0_1).bind fun t102 => (if t102 = true then ((spec_l1In.f a1 0 (wrap64 ((l0_1.length : Int) - 1))).bind fun t103 => (some t103)) else (some false))
theorem spec_pwMember.calls (k : Nat) (a0_0 : Int) (A0_1 : Option Addr) (c0_1 : Nat) (l0_1 : List Int) (a1 : Int) (r : Bool) (w : World) (hr0_1 : Kd.C (Kd.int .i64) w A0_1 l0_1.length l0_1) (hc0_1 : l0_1.length ≤ c0_1) (h : spec_pwMember.f k a0_0 l0_1 a1 = some r) :
  Calls Tryz.prog 168 #[.agg #[.int .i64 a0_0, .slice A0_1 l0_1.length c0_1], .int .i64 a1] w fun e w' => e = .returned (.bool r) ∧ Below w.heap.size w w' := by
 have hu26 := Tryz.underlying26
 have HR0_1 := Aside0.mk hr0_1
 have HC0_1 := Aside0.mk hc0_1
 clear hr0_1 hc0_1
 have HB := Aside0.mk (Below.refl w.heap.size w)
 have H := h
 unfold spec_pwMember.f at H
 clear h
 replace H := oA H
 obtain ⟨t102, A3, H⟩ := H
 (try dsimp only at H)
 by_cases c4 : t102 = true
 rotate_left
 ·replace c4 := Bool.eq_false_iff.mpr c4
  subst c4
  replace H := iF H
  obtain rfl := Option.some.inj H
  go_enter Tryz.func168, Tryz.ntmps168
  go_wp2_with (first | ((with_reducible refine gate_dst (N := 2) rfl ?_); (try (refine gate_guard (by rfl) ?_; dsimp only)); refine xE (N := 2) (cs := #[.int .i64 a0_0, .slice A0_1 l0_1.length c0_1]) (t := 26) ?_; intro gb101 hg w10 BK101 hb; have GW101 : Aside0 (w.heap.size ≤ gb101) := gT hg; have GE101 : Aside0 (w.heap.size ≤ gb101) := gT hg; replace HB := sQ hb; clear hb hg; (try clear hcz9_0 hcz9_1 hfz9_0 hfz9_1); obtain ⟨hcz11_0, hcz11_1, hfz11_0, hfz11_1⟩ := zZ BK101) | ((with_reducible refine gate_callee (f := 129) rfl ?_); refine gL 6 Tryz.func129 #[.agg #[.int .i64 a0_0, .slice A0_1 l0_1.length c0_1]] ?_; (with_reducible refine (spec_voGood.calls k a0_0 _ _ l0_1 false _ ?side1 ?side2 A3.out).mono ?_); (case side1 => have hx_ := (Kd.C_below HR0_1.out HB.out); exact cC); (case side2 => exact HC0_1.out); rintro e w12 ⟨rfl, hb⟩; refine ⟨_, rfl, ?_⟩; replace BK101 := bP BK101 hb; replace HB := sQ hb; (try clear hb)))
  go_ret
  exact ⟨fR, wB⟩
 subst c4
 replace H := iT H
 replace H := oA H
 obtain ⟨t103, A5, H⟩ := H
 (try dsimp only at H)
 obtain rfl := Option.some.inj H
 go_enter Tryz.func168, Tryz.ntmps168
 go_wp2_with (first | ((with_reducible refine gate_dst (N := 2) rfl ?_); (try (refine gate_guard (by rfl) ?_; dsimp only)); refine xE (N := 2) (cs := #[.int .i64 a0_0, .slice A0_1 l0_1.length c0_1]) (t := 26) ?_; intro gb101 hg w6 BK101 hb; have GW101 := gS hg HB; have GE101 := gS hg HB; replace HB := sB HB hb; clear hb hg; obtain ⟨hcz7_0, hcz7_1, hfz7_0, hfz7_1⟩ := zZ BK101) | ((with_reducible refine gate_callee (f := 129) rfl ?_); refine gL 6 Tryz.func129 #[.agg #[.int .i64 a0_0, .slice A0_1 l0_1.length c0_1]] ?_; (with_reducible refine (spec_voGood.calls k a0_0 _ _ l0_1 true _ (Kd.C_below HR0_1.out HB.out) HC0_1.out A3.out).mono ?_); rintro e w8 ⟨rfl, hb⟩; refine ⟨_, rfl, ?_⟩; replace BK101 := bB BK101 hb; replace HB := sB HB hb; (try clear hb); (try clear hcz7_0 hcz7_1 hfz7_0 hfz7_1); obtain ⟨hcz9_0, hcz9_1, hfz9_0, hfz9_1⟩ := zZ BK101) | (go_at_call 156; (with_reducible refine (spec_l1In.calls a1 0 (wrap64 ((l0_1.length : Int) - 1)) t103 _ A5.out).mono ?_); rintro e w' ⟨rfl, ⟨nd, rfl⟩⟩))
 go_ret
 exact ⟨fR, wB⟩
def spec_SwingSets.l0 : Nat → List (List Int) → List Int → Int → Int → Option ((List (List Int)) × Bool)
 | 0, _, _, _, _ => none
 | k + 1, x6, x16, x17, x18 => if x18 < x17 then (if 0 ≤ x18 then (if x18 < (x16.length : Int) then ((spec_voList.f k (rd x16 x18)).bind fun t110 => (if x6.length < 5864062014805 then (spec_SwingSets.l0 k (x6 ++ [t110]) x16 x17 (wrap64 (x18 + 1))) else (none))) else (none)) else (none)) else ((spec_voSorted.f k x6).bind fun t116 => (some (t116, true)))
def spec_SwingSets.f (k : Nat) (a0_0 : Int) (l0_1 : List Int) (a1 : Int) : Option ((List (List Int)) × Bool) := (spec_pwMember.f k a0_0 l0_1 a1).bind fun t102 => (if t102 = true then ((spec_voWins.f k a0_0 l0_1).bind fun t103 => ((spec_pwSwings.f k t103 a1).bind fun t106 => (spec_SwingSets.l0 k ([] : List (List Int)) t106 (t106.length : Int) 0))) else (some (([] : List (List Int)), false)))
theorem spec_SwingSets.calls (k : Nat) (a0_0 : Int) (A0_1 : Option Addr) (c0_1 : Nat) (l0_1 : List Int) (a1 : Int) (r1 : List (List Int)) (r2 : Bool) (w : World) (hr0_1 : Kd.C (Kd.int .i64) w A0_1 l0_1.length l0_1) (hc0_1 : l0_1.length ≤ c0_1) (h : spec_SwingSets.f k a0_0 l0_1 a1 = some (r1, r2)) :
  Calls Tryz.prog 78 #[.agg #[.int .i64 a0_0, .slice A0_1 l0_1.length c0_1], .int .i64 a1] w fun e w' => ∃ v0_ : Value, e = .returned (.tuple #[v0_, .bool r2]) ∧ Kd.S (Kd.slice 3 (Kd.int .i64)) 24 w' w.heap.size (fun _ => True) v0_ r1 ∧ Below w.heap.size w w' := by
 have hu26 := Tryz.underlying26
 have HR0_1 := Aside0.mk hr0_1
 have HC0_1 := Aside0.mk hc0_1
 clear hr0_1 hc0_1
 have HB := Aside0.mk (Below.refl w.heap.size w)
 have H := h
 unfold spec_SwingSets.f at H
 clear h
 replace H := oA H
 obtain ⟨t102, A3, H⟩ := H
 (try dsimp only at H)
 by_cases c4 : t102 = true
 rotate_left
 ·replace c4 := Bool.eq_false_iff.mpr c4
  subst c4
  replace H := iF H
  simp only [Option.some.injEq, Prod.mk.injEq] at H
  obtain ⟨rfl, rfl⟩ := H
  go_enter Tryz.func78, Tryz.ntmps78
  go_wp2_with (first | ((with_reducible refine gate_dst (N := 2) rfl ?_); refine xE (N := 2) (cs := #[.int .i64 a0_0, .slice A0_1 l0_1.length c0_1]) (t := 26) ?_; intro gb101 hg w26 BK101 hb; have GW101 := gS hg HB; have GE101 := gS hg HB; replace HB := sB HB hb; clear hb hg; obtain ⟨hcz27_0, hcz27_1, hfz27_0, hfz27_1⟩ := zZ BK101) | ((with_reducible refine gate_callee (f := 168) rfl ?_); refine gL 11 Tryz.func168 #[.agg #[.int .i64 a0_0, .slice A0_1 l0_1.length c0_1], .int .i64 a1] ?_; (with_reducible refine (spec_pwMember.calls k a0_0 _ _ l0_1 a1 false _ (Kd.C_below HR0_1.out HB.out) HC0_1.out A3.out).mono ?_); rintro e w28 ⟨rfl, hb⟩; refine ⟨_, rfl, ?_⟩; replace BK101 := bB BK101 hb; replace HB := sB HB hb; (try clear hb)))
  go_ret2
  exact ⟨_, fR, by first | exact Kd.S_nil _ _ _ _ _ | exact Kd.N_nil _ _ _ _ _ | exact Kd.V_nil _ _ _ _ _ | exact Kd.Q_nil _ _ _ _ _ | exact Kd.R_nil _ _ _ _ _, wB⟩
 subst c4
 replace H := iT H
 replace H := oA H
 obtain ⟨t103, A5, H⟩ := H
 (try dsimp only at H)
 replace H := oA H
 obtain ⟨t106, A6, H⟩ := H
 (try dsimp only at H)
 have H' := Aside0.mk H
 clear H
 go_enter Tryz.func78, Tryz.ntmps78
 go_wp2_with (first | ((with_reducible refine gate_dst (N := 2) rfl ?_); refine xE (N := 2) (cs := #[.int .i64 a0_0, .slice A0_1 l0_1.length c0_1]) (t := 26) ?_; intro gb101 hg w7 BK101 hb; have GW101 := gS hg HB; have GE101 := gS hg HB; replace HB := sB HB hb; clear hb hg; obtain ⟨hcz8_0, hcz8_1, hfz8_0, hfz8_1⟩ := zZ BK101) | ((with_reducible refine gate_callee (f := 168) rfl ?_); refine gL 11 Tryz.func168 #[.agg #[.int .i64 a0_0, .slice A0_1 l0_1.length c0_1], .int .i64 a1] ?_; (with_reducible refine (spec_pwMember.calls k a0_0 _ _ l0_1 a1 true _ (Kd.C_below HR0_1.out HB.out) HC0_1.out A3.out).mono ?_); rintro e w9 ⟨rfl, hb⟩; refine ⟨_, rfl, ?_⟩; replace BK101 := bB BK101 hb; replace HB := sB HB hb; (try clear hb); (try clear hcz8_0 hcz8_1 hfz8_0 hfz8_1); obtain ⟨hcz10_0, hcz10_1, hfz10_0, hfz10_1⟩ := zZ BK101) | ((with_reducible refine gate_callee (f := 141) rfl ?_); refine gL 14 Tryz.func141 #[.agg #[.int .i64 a0_0, .slice A0_1 l0_1.length c0_1]] ?_; (with_reducible refine (spec_voWins.calls k a0_0 _ _ l0_1 t103 _ (Kd.C_below HR0_1.out HB.out) HC0_1.out A5.out).mono ?_); rintro e w11 ⟨v104, rfl, ho0, hb⟩; refine ⟨_, rfl, ?_⟩; have HO105 := Aside0.mk (Kd.R_lower ho0 (below_size HB.out)); replace BK101 := bB BK101 hb; replace HB := sB HB hb; (try clear hb); (try clear ho0); obtain ⟨Ao12, co12, eo12⟩ := Kd.R_slice HO105.out; subst eo12) | ((with_reducible refine gate_callee (f := 169) rfl ?_); refine gL 16 Tryz.func169 #[.slice Ao12 t103.length co12, .int .i64 a1] ?_; (with_reducible refine (spec_pwSwings.calls k _ _ t103 a1 t106 _ ?side1 ?side2 A6.out).mono ?_); (case side1 => have hx_ := (Kd.R_reads' HO105.out).2.2; exact cC); (case side2 => exact (Kd.R_reads' HO105.out).2.1); rintro e w13 ⟨v107, rfl, ho0, hb⟩; refine ⟨_, rfl, ?_⟩; have HO108 := Aside0.mk (Kd.R_lower ho0 (below_size HB.out)); replace HO105 := rB HO105 hb; replace BK101 := bB BK101 hb; replace HB := sB HB hb; (try clear hb); (try clear ho0); obtain ⟨Ao14, co14, eo14⟩ := Kd.R_slice HO108.out; subst eo14))
 go_loopg [6, 18] k (fun kq v6 v18 w' => ∃ (x6_1 : List (List Int)) (x18_1 : Int), v18 = .int .i64 x18_1 ∧ Aside0 (spec_SwingSets.l0 kq x6_1 t106 (t106.length : Int) x18_1 = some (r1, r2)) ∧ Aside0 (kq ≤ k) ∧ Aside0 (Kd.S (Kd.slice 3 (Kd.int .i64)) 24 w' w.heap.size (fun k_ => nb (.slice Ao14 t106.length co14) k_) v6 x6_1) ∧ Aside0 (Kd.R (Kd.int .i64) 3 w' w.heap.size (fun _ => True) (.slice Ao14 t106.length co14) t106) ∧ Aside0 (w'.heap[gb101]? = some (.cells #[.int .i64 a0_0, (.slice A0_1 l0_1.length c0_1)] 26 (0, 0))) ∧ Aside0 (Below w.heap.size w w'))
 case atStart => exact ⟨(([] : List (List Int))), (0), gR, H', ⟨Nat.le_refl _⟩, ⟨by first | exact Kd.S_nil _ _ _ _ _ | exact Kd.N_nil _ _ _ _ _ | exact Kd.V_nil _ _ _ _ _ | exact Kd.Q_nil _ _ _ _ _ | exact Kd.R_nil _ _ _ _ _⟩, ⟨by exact HO108.out⟩, ⟨by exact BK101.out⟩, ⟨wB⟩⟩
 case round =>
  clear H'
  (try clear c1); (try clear p2); (try clear c4); (try clear c7); (try clear c14); (try clear hcz10_0); (try clear hcz10_1); (try clear hfz10_0); (try clear hfz10_1)
  obtain ⟨x6_1, x18_1, rfl, HA, HK1, HO_6, HO_16, BK101, HB⟩ := hrel
  cases gk with
  | zero => exact absurd HA.out (by simp [spec_SwingSets.l0])
  | succ k1 =>
   have H := HA.out
   clear HA
   simp only [spec_SwingSets.l0] at H
   by_cases c15 : x18_1 < (t106.length : Int)
   rotate_left
   ·rw [if_neg c15] at H
    have c15b0 : decide (x18_1 < (t106.length : Int)) = false := decide_eq_false c15
    clear c15
    replace H := oA H
    obtain ⟨t116, A23, H⟩ := H
    (try dsimp only at H)
    simp only [Option.some.injEq, Prod.mk.injEq] at H
    obtain ⟨rfl, rfl⟩ := H
    obtain ⟨Ao24, co24, eo24⟩ := Kd.S_slice HO_6.out
    subst eo24
    go_wp2_with (first | ((with_reducible refine gate_callee (f := 147) rfl ?_); refine gL 29 Tryz.func147 #[.slice Ao24 x6_1.length co24] ?_; (with_reducible refine (spec_voSorted.calls k1 w.heap.size _ _ x6_1 t116 _ (by exact Kd.S_mono HO_6.out (fun _ _ => trivial)) (below_size HB.out) A23.out).mono ?_); rintro e w25 ⟨v117, rfl, ho0, hb⟩; refine ⟨_, rfl, ?_⟩; have n1_ := rB HO_16 hb; have n2_ := Aside0.mk ho0; have n3_ := bB BK101 hb; have n4_ := sB HB hb; clear HO_6; clear HO_16; clear BK101; clear HB; have HO_16 := n1_; have HO118 := n2_; have BK101 := n3_; have HB := n4_; clear n1_ n2_ n3_ n4_; (try clear hb); (try clear ho0)))
    go_ret2
    exact ⟨_, fR, by exact Kd.S_mono HO118.out (fun _ hk => trivial), wB⟩
   rw [if_pos c15] at H
   have c15b0 := decide_eq_true c15
   clear c15
   by_cases c16 : 0 ≤ x18_1
   rotate_left
   ·rw [if_neg c16] at H
    exact absurd H (by simp)
   rw [if_pos c16] at H
   have c16b0 := decide_eq_true c16
   clear c16
   by_cases c17 : x18_1 < (t106.length : Int)
   rotate_left
   ·rw [if_neg c17] at H
    exact absurd H (by simp)
   rw [if_pos c17] at H
   have c17b0 := decide_eq_true c17
   clear c17
   replace H := oA H
   obtain ⟨t110, A18, H⟩ := H
   (try dsimp only at H)
   by_cases c19 : x6_1.length < 5864062014805
   rotate_left
   ·rw [if_neg c19] at H
    exact absurd H (by simp)
   rw [if_pos c19] at H
   have LMc19 := Aside0.mk c19
   clear c19
   obtain ⟨y113, hy113⟩ : ∃ y_ : List (List Int), y_ = (x6_1 ++ [t110]) := ⟨_, rfl⟩
   replace H : (spec_SwingSets.l0 k1 y113 t106 (t106.length : Int) (wrap64 (x18_1 + 1))) = some (r1, r2) := by first | (rw [hy113]; with_reducible exact H) | (have H2_ := (Option.bind_some _ _).symm.trans H; rw [hy113]; with_reducible exact H2_) | (have H2_ := (Option.bind_some _ _).symm.trans H; with_reducible exact H2_) | with_reducible exact H | (rw [hy113]; exact H) | exact H
   have Ny113 := Aside0.mk hy113
   clear hy113
   have H' := Aside0.mk H
   clear H
   have p109 : 0 ≤ (x18_1 : Int) := oD
   have q109 : x18_1 < (t106.length : Int) := oD
   obtain ⟨ad109, e109, hx109_0⟩ := Kd.at_int (Kd.R_reads' HO_16.out).2.2 x18_1 p109 q109
   cases e109
   replace p109 := eq_true p109
   replace q109 := eq_true q109
   go_wp2_with (first | ((with_reducible refine gate_callee (f := 146) rfl ?_); refine gL 24 Tryz.func146 #[.int .i64 (rd t106 x18_1)] ?_; (with_reducible refine (spec_voList.calls k1 (rd t106 x18_1) t110 _ A18.out).mono ?_); rintro e w20 ⟨v111, rfl, ho0, hb⟩; refine ⟨_, rfl, ?_⟩; have HO112 := Aside0.mk (Kd.R_lower (Kd.R_new' ho0 (Kd.R_lt HO_16.out)) (below_size HB.out)); replace HO_6 := tE HO_6 (Kd.R_base ho0) hb; replace HO_16 := rE HO_16 (Kd.R_base ho0) hb; replace BK101 := bB BK101 hb; replace HB := sB HB hb; (try clear hb); (try clear ho0); obtain ⟨Ao22, co22, eo22⟩ := Kd.R_slice HO112.out; subst eo22) | ((with_reducible refine gate_builtin (b := .append) (xs := #[.tmp 22, .tmp 25]) rfl ?_); at_builtin; refine Kd.S_append (Kd.slice 3 (Kd.int .i64)) (w0 := w) w.heap.size rfl (.tmp 22) (.tmp 25) 45 24 (.slice none 0 0) 24 rfl Tryz.underlying45 info24 rfl (by decide) (by omega) u6 x6_1 t110 [.slice Ao22 t110.length co22] (fun k_ => nb (.slice (some ad109) t106.length co14) k_) (fun k_ => some k_ = (.slice Ao22 t110.length co22 : Value).ownBlock) rfl rfl ?aP (fun k_ hk_ => ((Kd.R_mono (ok' := fun k_ => ((fun k_ => nb (.slice (some ad109) t106.length co14) k_)) k_ ∧ nb u6 k_) (Kd.R_apart' (HO112.out) (Kd.S_typed HO_6.out) (by decide)) (fun k_ hk => ⟨hk.1.2, hk.2⟩))).1 k_ hk_.symm) ?aF ?aO ?aB ?aS ?aL ?_; (case aP => exact Kd.M_row (Kd.R_mono (Kd.R_tight rfl (Kd.R_mono (ok' := fun k_ => ((fun k_ => nb (.slice (some ad109) t106.length co14) k_)) k_ ∧ nb u6 k_) (Kd.R_apart' (HO112.out) (Kd.S_typed HO_6.out) (by decide)) (fun k_ hk => ⟨hk.1.2, hk.2⟩))) (fun _ h_ => h_))); (case aB => exact HB.out); (case aF => exact (fun k_ hk => Kd.fresh' (Kd.R_lt HO_16.out) k_ hk)); (case aO => exact (by exact Kd.S_mono HO_6.out (fun k_ hk => ⟨hk.1, fun e_ => hk.2 e_⟩))); (case aS => exact (below_size HB.out)); (case aL => have := LMc19.out; omega); intro v114 w21 ho hb hg hat; rw [← Ny113.out] at ho; have HO115 := Aside0.mk (ho); replace HO_16 := Aside0.mk (Kd.R_over' HO_16.out (Kd.S_typed HO_6.out) (by decide) hg); replace BK101 := Aside0.mk (blk_grown (g := gb101) (o := .cells #[.int .i64 a0_0, .slice A0_1 l0_1.length c0_1] 26 (0, 0)) BK101.out hg (Kd.S_ne HO_6.out BK101.out (by decide))); replace HB := Aside0.mk (hb); clear ho hb hg hat))
   go_roundg k1
   case measure => have := HK1.out; omega
   case rel => exact ⟨(y113), (wrap64 (x18_1 + 1)), gR, H', ⟨by have := HK1.out; omega⟩, ⟨by exact HO115.out⟩, ⟨by exact Kd.R_mono HO_16.out (fun _ hk => trivial)⟩, ⟨by exact BK101.out⟩, ⟨wB⟩⟩
def spec_SwingsBySize.l0 : Nat → List Int → List Int → Int → Int → Option (List Int × Bool)
 | 0, _, _, _, _ => none
 | k + 1, x6, x20, x21, x22 => if x22 < x21 then (if 0 ≤ x22 then (if x22 < (x20.length : Int) then ((spec_voList.f k (rd x20 x22)).bind fun t113 => (if 0 ≤ (t113.length : Int) then (if (t113.length : Int) < (x6.length : Int) then (spec_SwingsBySize.l0 k (x6.set ((t113.length : Int) : Int).toNat (wrap64 ((rd x6 (t113.length : Int)) + 1))) x20 x21 (wrap64 (x22 + 1))) else (none)) else (none))) else (none)) else (none)) else (some (x6, true))
def spec_SwingsBySize.f (k : Nat) (a0_0 : Int) (l0_1 : List Int) (a1 : Int) : Option (List Int × Bool) := (spec_pwMember.f k a0_0 l0_1 a1).bind fun t102 => (if t102 = true then (if 0 ≤ (l0_1.length : Int) then (if ((l0_1.length : Int) : Int).toNat ≤ 35184372088832 then ((spec_voWins.f k a0_0 l0_1).bind fun t106 => ((spec_pwSwings.f k t106 a1).bind fun t109 => (spec_SwingsBySize.l0 k (List.replicate ((l0_1.length : Int) : Int).toNat 0) t109 (t109.length : Int) 0))) else (none)) else (none)) else (some (([] : List Int), false)))
theorem spec_SwingsBySize.calls (k : Nat) (a0_0 : Int) (A0_1 : Option Addr) (c0_1 : Nat) (l0_1 : List Int) (a1 : Int) (r1 : List Int) (r2 : Bool) (w : World) (hr0_1 : Kd.C (Kd.int .i64) w A0_1 l0_1.length l0_1) (hc0_1 : l0_1.length ≤ c0_1) (h : spec_SwingsBySize.f k a0_0 l0_1 a1 = some (r1, r2)) :
  Calls Tryz.prog 79 #[.agg #[.int .i64 a0_0, .slice A0_1 l0_1.length c0_1], .int .i64 a1] w fun e w' => ∃ v0_ : Value, e = .returned (.tuple #[v0_, .bool r2]) ∧ Kd.R (Kd.int .i64) 3 w' w.heap.size (fun _ => True) v0_ r1 ∧ Below w.heap.size w w' := by
 have hu26 := Tryz.underlying26
 have HR0_1 := Aside0.mk hr0_1
 have HC0_1 := Aside0.mk hc0_1
 clear hr0_1 hc0_1
 have HB := Aside0.mk (Below.refl w.heap.size w)
 have H := h
 unfold spec_SwingsBySize.f at H
 clear h
 replace H := oA H
 obtain ⟨t102, A3, H⟩ := H
 (try dsimp only at H)
 by_cases c4 : t102 = true
 rotate_left
 ·replace c4 := Bool.eq_false_iff.mpr c4
  subst c4
  replace H := iF H
  simp only [Option.some.injEq, Prod.mk.injEq] at H
  obtain ⟨rfl, rfl⟩ := H
  go_enter Tryz.func79, Tryz.ntmps79
  go_wp2_with (first | ((with_reducible refine gate_dst (N := 2) rfl ?_); refine xE (N := 2) (cs := #[.int .i64 a0_0, .slice A0_1 l0_1.length c0_1]) (t := 26) ?_; intro gb101 hg w32 BK101 hb; have GW101 := gS hg HB; have GE101 := gS hg HB; replace HB := sB HB hb; clear hb hg; obtain ⟨hcz33_0, hcz33_1, hfz33_0, hfz33_1⟩ := zZ BK101) | ((with_reducible refine gate_callee (f := 168) rfl ?_); refine gL 11 Tryz.func168 #[.agg #[.int .i64 a0_0, .slice A0_1 l0_1.length c0_1], .int .i64 a1] ?_; (with_reducible refine (spec_pwMember.calls k a0_0 _ _ l0_1 a1 false _ (Kd.C_below HR0_1.out HB.out) HC0_1.out A3.out).mono ?_); rintro e w34 ⟨rfl, hb⟩; refine ⟨_, rfl, ?_⟩; replace BK101 := bB BK101 hb; replace HB := sB HB hb; (try clear hb)))
  go_ret2
  exact ⟨_, fR, by first | exact Kd.R_nil _ _ _ _ _ | exact Kd.N_nil _ _ _ _ _ | exact Kd.V_nil _ _ _ _ _ | exact Kd.Q_nil _ _ _ _ _ | exact Kd.S_nil _ _ _ _ _, wB⟩
 subst c4
 replace H := iT H
 by_cases c5 : 0 ≤ (l0_1.length : Int)
 rotate_left
 ·rw [if_neg c5] at H
  exact absurd H (by simp)
 rw [if_pos c5] at H
 have c5b0 := eq_true c5
 have c5b1 := decide_eq_true c5
 clear c5
 by_cases c6 : ((l0_1.length : Int) : Int).toNat ≤ 35184372088832
 rotate_left
 ·rw [if_neg c6] at H
  exact absurd H (by simp)
 rw [if_pos c6] at H
 have c6b0 := eq_true c6
 have c6b1 := decide_eq_true c6
 clear c6
 obtain ⟨y103, hy103⟩ : ∃ y_ : List Int, y_ = (List.replicate ((l0_1.length : Int) : Int).toNat 0) := ⟨_, rfl⟩
 replace H : ((spec_voWins.f k a0_0 l0_1).bind fun t106 => ((spec_pwSwings.f k t106 a1).bind fun t109 => (spec_SwingsBySize.l0 k y103 t109 (t109.length : Int) 0))) = some (r1, r2) := by first | (rw [hy103]; with_reducible exact H) | (have H2_ := (Option.bind_some _ _).symm.trans H; rw [hy103]; with_reducible exact H2_) | (have H2_ := (Option.bind_some _ _).symm.trans H; with_reducible exact H2_) | with_reducible exact H | (rw [hy103]; exact H) | exact H
 have Ny103 := Aside0.mk hy103
 clear hy103
 replace H := oA H
 obtain ⟨t106, A7, H⟩ := H
 (try dsimp only at H)
 replace H := oA H
 obtain ⟨t109, A8, H⟩ := H
 (try dsimp only at H)
 have H' := Aside0.mk H
 clear H
 go_enter Tryz.func79, Tryz.ntmps79
 go_wp2_with (first | ((with_reducible refine gate_dst (N := 2) rfl ?_); refine xE (N := 2) (cs := #[.int .i64 a0_0, .slice A0_1 l0_1.length c0_1]) (t := 26) ?_; intro gb101 hg w9 BK101 hb; have GW101 := gS hg HB; have GE101 := gS hg HB; replace HB := sB HB hb; clear hb hg; obtain ⟨hcz10_0, hcz10_1, hfz10_0, hfz10_1⟩ := zZ BK101) | ((with_reducible refine gate_callee (f := 168) rfl ?_); refine gL 11 Tryz.func168 #[.agg #[.int .i64 a0_0, .slice A0_1 l0_1.length c0_1], .int .i64 a1] ?_; (with_reducible refine (spec_pwMember.calls k a0_0 _ _ l0_1 a1 true _ (Kd.C_below HR0_1.out HB.out) HC0_1.out A3.out).mono ?_); rintro e w11 ⟨rfl, hb⟩; refine ⟨_, rfl, ?_⟩; replace BK101 := bB BK101 hb; replace HB := sB HB hb; (try clear hb); (try clear hcz10_0 hcz10_1 hfz10_0 hfz10_1); obtain ⟨hcz12_0, hcz12_1, hfz12_0, hfz12_1⟩ := zZ BK101) | ((with_reducible refine gate_dst (N := 16) rfl ?_); refine Kd.R_make (Kd.int .i64) _ 3 rfl (N := 16) rfl 24 _ _ rfl (l0_1.length : Int) rfl rfl Tryz.underlying24 (.int .i64 0) 8 info3 rfl (by decide) (by omega) 0 (ok := fun _ => True) (okp := fun _ => True) rfl (fun _ hk => hk) trivial (oD) (Nat.le_trans (Nat.mul_le_mul_right _ (oD : (l0_1.length : Int).toNat ≤ 35184372088832)) (by omega)) (Below.refl _ _) (Nat.le_refl _) ?_; intro v104 w13 ho14 hb hg_ hnew_; clear hg_ hnew_; (first | rw [← Ny103.out] at ho14 | (simp only [Int.reduceToNat] at ho14; rw [← Ny103.out] at ho14)); have HO105 := Aside0.mk (Kd.R_lower ho14 (below_size HB.out)); replace BK101 := bB BK101 hb; replace HB := sB HB hb; clear hb ho14; (try clear hcz12_0 hcz12_1 hfz12_0 hfz12_1); obtain ⟨hcz15_0, hcz15_1, hfz15_0, hfz15_1⟩ := zZ BK101) | ((with_reducible refine gate_callee (f := 141) rfl ?_); refine gL 18 Tryz.func141 #[.agg #[.int .i64 a0_0, .slice A0_1 l0_1.length c0_1]] ?_; (with_reducible refine (spec_voWins.calls k a0_0 _ _ l0_1 t106 _ (Kd.C_below HR0_1.out HB.out) HC0_1.out A7.out).mono ?_); rintro e w16 ⟨v107, rfl, ho0, hb⟩; refine ⟨_, rfl, ?_⟩; have HO108 := Aside0.mk (Kd.R_lower ho0 (below_size HB.out)); replace HO105 := rB HO105 hb; replace BK101 := bB BK101 hb; replace HB := sB HB hb; (try clear hb); (try clear ho0); obtain ⟨Ao17, co17, eo17⟩ := Kd.R_slice HO108.out; subst eo17) | ((with_reducible refine gate_callee (f := 169) rfl ?_); refine gL 20 Tryz.func169 #[.slice Ao17 t106.length co17, .int .i64 a1] ?_; (with_reducible refine (spec_pwSwings.calls k _ _ t106 a1 t109 _ ?side1 ?side2 A8.out).mono ?_); (case side1 => have hx_ := (Kd.R_reads' HO108.out).2.2; exact cC); (case side2 => exact (Kd.R_reads' HO108.out).2.1); rintro e w18 ⟨v110, rfl, ho0, hb⟩; refine ⟨_, rfl, ?_⟩; have HO111 := Aside0.mk (Kd.R_lower (Kd.R_new' ho0 (Kd.R_lt HO105.out)) (below_size HB.out)); replace HO105 := rE HO105 (Kd.R_base ho0) hb; replace HO108 := rB HO108 hb; replace BK101 := bB BK101 hb; replace HB := sB HB hb; (try clear hb); (try clear ho0); obtain ⟨Ao19, co19, eo19⟩ := Kd.R_slice HO111.out; subst eo19))
 go_loopg [22] k (fun kq v22 w' => ∃ (x6_1 : List Int) (x22_1 : Int), v22 = .int .i64 x22_1 ∧ Aside0 (spec_SwingsBySize.l0 kq x6_1 t109 (t109.length : Int) x22_1 = some (r1, r2)) ∧ Aside0 (kq ≤ k) ∧ Aside0 (Kd.R (Kd.int .i64) 3 w' w.heap.size (fun k_ => nb (.slice Ao19 t109.length co19) k_) v104 x6_1) ∧ Aside0 (Kd.R (Kd.int .i64) 3 w' w.heap.size (fun k_ => nb v104 k_) (.slice Ao19 t109.length co19) t109) ∧ Aside0 (w'.heap[gb101]? = some (.cells #[.int .i64 a0_0, (.slice A0_1 l0_1.length c0_1)] 26 (0, 0))) ∧ Aside0 (Below w.heap.size w w'))
 case atStart => exact ⟨(y103), (0), gR, H', ⟨Nat.le_refl _⟩, ⟨by exact Kd.R_mono HO105.out (fun _ hk => hk.2)⟩, ⟨by exact Kd.R_mono HO111.out (fun _ hk => hk.2)⟩, ⟨by exact BK101.out⟩, ⟨wB⟩⟩
 case round =>
  clear H'
  (try clear c1); (try clear p2); (try clear c4); (try clear c5); (try clear c5b0); (try clear c5b1); (try clear c6); (try clear c6b0); (try clear c6b1); (try clear c7); (try clear c14); (try clear c16); (try clear hcz15_0); (try clear hcz15_1); (try clear hfz15_0); (try clear hfz15_1)
  obtain ⟨x6_1, x22_1, rfl, HA, HK1, HO_6, HO_20, BK101, HB⟩ := hrel
  cases gk with
  | zero => exact absurd HA.out (by simp [spec_SwingsBySize.l0])
  | succ k1 =>
   have H := HA.out
   clear HA
   simp only [spec_SwingsBySize.l0] at H
   by_cases c20 : x22_1 < (t109.length : Int)
   rotate_left
   ·rw [if_neg c20] at H
    have c20b0 : decide (x22_1 < (t109.length : Int)) = false := decide_eq_false c20
    clear c20
    simp only [Option.some.injEq, Prod.mk.injEq] at H
    obtain ⟨rfl, rfl⟩ := H
    go_wp2
    go_ret2
    exact ⟨_, fR, by exact Kd.R_mono HO_6.out (fun _ hk => trivial), wB⟩
   rw [if_pos c20] at H
   have c20b0 := decide_eq_true c20
   clear c20
   by_cases c21 : 0 ≤ x22_1
   rotate_left
   ·rw [if_neg c21] at H
    exact absurd H (by simp)
   rw [if_pos c21] at H
   have c21b0 := decide_eq_true c21
   clear c21
   by_cases c22 : x22_1 < (t109.length : Int)
   rotate_left
   ·rw [if_neg c22] at H
    exact absurd H (by simp)
   rw [if_pos c22] at H
   have c22b0 := decide_eq_true c22
   clear c22
   replace H := oA H
   obtain ⟨t113, A23, H⟩ := H
   (try dsimp only at H)
   by_cases c24 : 0 ≤ (t113.length : Int)
   rotate_left
   ·rw [if_neg c24] at H
    exact absurd H (by simp)
   rw [if_pos c24] at H
   have c24b0 := decide_eq_true c24
   have c24b1 : decide (0 ≤ t113.length) = true := decide_eq_true (by omega)
   clear c24
   by_cases c25 : (t113.length : Int) < (x6_1.length : Int)
   rotate_left
   ·rw [if_neg c25] at H
    exact absurd H (by simp)
   rw [if_pos c25] at H
   have c25b0 := decide_eq_true c25
   have c25b1 : decide (t113.length < x6_1.length) = true := decide_eq_true (Int.ofNat_lt.mp c25)
   clear c25
   obtain ⟨y117, hy117⟩ : ∃ y_ : List Int, y_ = (x6_1.set ((t113.length : Int) : Int).toNat (wrap64 ((rd x6_1 (t113.length : Int)) + 1))) := ⟨_, rfl⟩
   replace H : (spec_SwingsBySize.l0 k1 y117 t109 (t109.length : Int) (wrap64 (x22_1 + 1))) = some (r1, r2) := by first | (rw [hy117]; with_reducible exact H) | (have H2_ := (Option.bind_some _ _).symm.trans H; rw [hy117]; with_reducible exact H2_) | (have H2_ := (Option.bind_some _ _).symm.trans H; with_reducible exact H2_) | with_reducible exact H | (rw [hy117]; exact H) | exact H
   have Ny117 := Aside0.mk hy117
   clear hy117
   have H' := Aside0.mk H
   clear H
   have p112 : 0 ≤ (x22_1 : Int) := oD
   have q112 : x22_1 < (t109.length : Int) := oD
   obtain ⟨ad112, e112, hx112_0⟩ := Kd.at_int (Kd.R_reads' HO_20.out).2.2 x22_1 p112 q112
   cases e112
   replace p112 := eq_true p112
   replace q112 := eq_true q112
   go_wp2_with (first | ((with_reducible refine gate_callee (f := 146) rfl ?_); refine gL 28 Tryz.func146 #[.int .i64 (rd t109 x22_1)] ?_; (with_reducible refine (spec_voList.calls k1 (rd t109 x22_1) t113 _ A23.out).mono ?_); rintro e w27 ⟨v114, rfl, ho0, hb⟩; refine ⟨_, rfl, ?_⟩; have HO115 := Aside0.mk (Kd.R_lower (Kd.R_new' (Kd.R_new' ho0 (Kd.R_lt HO_6.out)) (Kd.R_lt HO_20.out)) (below_size HB.out)); replace HO_6 := rE HO_6 (Kd.R_base ho0) hb; replace HO_20 := rE HO_20 (Kd.R_base ho0) hb; replace BK101 := bB BK101 hb; replace HB := sB HB hb; (try clear hb); (try clear ho0); obtain ⟨Ao28, co28, eo28⟩ := Kd.R_slice HO115.out; subst eo28; obtain ⟨Ao29, co29, eo29⟩ := Kd.R_slice HO_6.out; subst eo29; have p116 : 0 ≤ ((t113.length : Int) : Int) := oD; have q116 : (t113.length : Int) < (x6_1.length : Int) := oD; obtain ⟨ad116, e116, hx116_0⟩ := Kd.at_int (Kd.R_reads' HO_6.out).2.2 (t113.length : Int) p116 q116; cases e116; (try simp only [Go.IntWalk.toNatUp] at hx116_0); replace p116 := eq_true p116; replace q116 := eq_true q116; have p26 : 0 ≤ ((t113.length : Int) : Int) := oD; have q26 : ((t113.length : Int) : Int) < ((x6_1.length : Int) : Int) := oD; obtain ⟨go26, co26, eo26, gb26, gl26, cl26, HG26⟩ := Kd.R_form HO_6.out (by omega); (first | cases eo26 | (injection eo26 with ea_ en_ ec_; (first | subst ea_ | (injection ea_ with ea_; subst ea_)); subst ec_; clear en_)); have GB26 := Aside0.mk gb26; have GG26 := Aside0.mk HG26; clear gb26 gl26 HG26; (first | simp only [add_plain] at hx116_0 | skip); obtain ⟨hx26_0, hf26_0⟩ := Kd.R_celln 0 HO_6.out ((t113.length : Int) : Int) p26 q26; replace p26 := eq_true p26; replace q26 := eq_true q26; obtain ⟨hy30_, hz30_⟩ := Kd.R_celln 0 HO_6.out ((t113.length : Int) : Int) (oD) (oD); (try simp only [Go.IntWalk.toNatUp] at hy30_ hz30_); have HP30 := Kd.R_putg HO_6.out ((t113.length : Int) : Int) (wrap64 ((rd x6_1 (t113.length : Int)) + 1))) | ((with_reducible refine gate_store (t := 3) (p := 33) rfl ?_); refine sE (t := 3) (p := 33) (w1 := (w27.setCell ⟨go26, ((t113.length : Int) : Int).toNat, none⟩ (.int .i64 (wrap64 ((rd x6_1 (t113.length : Int)) + 1))))) ?_; intro w31 hw; have hg : w27.grownBy w31 (some go26) := (by rw [hw]; exact HP30.2); have hp_ : Kd.R (Kd.int .i64) 3 w31 w.heap.size (fun k_ => nb (.slice (some ad112) t109.length co19) k_ ∧ nb (.slice Ao28 t113.length co28) k_) (.slice (some ⟨go26, 0, none⟩) x6_1.length co29) y117 := (by rw [hw, Ny117.out]; exact HP30.1); clear HP30; replace HO_20 := Aside0.mk (Kd.R_after (v := (.slice (some ⟨go26, 0, none⟩) x6_1.length co29)) (v1 := (.slice (some ⟨go26, 0, none⟩) x6_1.length co29)) (ok := (fun k_ => nb (.slice Ao28 t113.length co28) k_)) (by exact Kd.R_mono HO_20.out (fun _ hk => ⟨hk.2, hk.1⟩)) hg (.inl rfl)); replace BK101 := Aside0.mk (blk_grown (g := gb101) (o := .cells #[.int .i64 a0_0, .slice A0_1 l0_1.length c0_1] 26 (0, 0)) BK101.out hg (Kd.R_ne HO_6.out BK101.out (by decide))); replace HO_6 := Aside0.mk (hp_); replace HO115 := Aside0.mk (Kd.R_after (v := (.slice (some ⟨go26, 0, none⟩) x6_1.length co29)) (v1 := (.slice (some ⟨go26, 0, none⟩) x6_1.length co29)) (ok := (fun k_ => nb (.slice (some ad112) t109.length co19) k_)) (by exact Kd.R_mono HO115.out (fun _ hk => ⟨hk.2, hk.1.2⟩)) hg (.inl rfl)); replace HB := Aside0.mk ((by rw [hw]; exact below_set (HB.out) GB26.out : Below w.heap.size w w31)); clear hg hw hp_))
   go_roundg k1
   case measure => have := HK1.out; omega
   case rel => exact ⟨(y117), (wrap64 (x22_1 + 1)), gR, H', ⟨by have := HK1.out; omega⟩, ⟨by exact Kd.R_mono HO_6.out (fun _ hk => hk.1)⟩, ⟨by exact Kd.R_mono HO_20.out (fun _ hk => hk.2)⟩, ⟨by exact BK101.out⟩, ⟨wB⟩⟩
def laws_zRows.l0 : Nat → List (List Int) → List (List Int) → Int → Int → Option (Bool)
 | 0, _, _, _, _ => none
 | k + 1, x0, x1, x12, x13 => if x13 < x12 then (if 0 ≤ x13 then (if x13 < (x0.length : Int) then (if x13 < (x1.length : Int) then ((laws_zSame.f k (rd_L2 x0 x13) (rd_L2 x1 x13)).bind fun t103 => (if t103 = true then (laws_zRows.l0 k x0 x1 x12 (wrap64 (x13 + 1))) else (some false))) else (none)) else (none)) else (none)) else (some true)
def laws_zRows.f (k : Nat) (l0 : List (List Int)) (l1 : List (List Int)) : Option (Bool) := if (l0.length : Int) = (l1.length : Int) then (laws_zRows.l0 k l0 l1 (l0.length : Int) 0) else (some false)
theorem laws_zRows.calls (k : Nat) (A0 : Option Addr) (c0 : Nat) (l0 : List (List Int)) (A1 : Option Addr) (c1 : Nat) (l1 : List (List Int)) (r : Bool) (w : World) (hr0 : Kd.C (Kd.slice 3 (Kd.int .i64)) w A0 l0.length l0) (hc0 : l0.length ≤ c0) (hr1 : Kd.C (Kd.slice 3 (Kd.int .i64)) w A1 l1.length l1) (hc1 : l1.length ≤ c1) (h : laws_zRows.f k l0 l1 = some r) :
  Calls Tryz.prog 80 #[.slice A0 l0.length c0, .slice A1 l1.length c1] w fun e w' => e = .returned (.bool r) ∧ Drawn0 w w' := by
 have HR0 := Aside0.mk hr0
 have HC0 := Aside0.mk hc0
 clear hr0 hc0
 have HR1 := Aside0.mk hr1
 have HC1 := Aside0.mk hc1
 clear hr1 hc1
 have H := h
 unfold laws_zRows.f at H
 clear h
 by_cases c3 : (l0.length : Int) = (l1.length : Int)
 rotate_left
 ·rw [if_neg c3] at H
  have c3b0 : ((l0.length : Int) == (l1.length : Int)) = false := beq_eq_false_iff_ne.mpr c3
  have c3b1 : ((l0.length : Int) != (l1.length : Int)) = true := bne_iff_ne.mpr c3
  have c3b2 : (l0.length == l1.length) = false := by first | simpa using c3 | (simp at c3 ⊢; omega)
  obtain rfl := Option.some.inj H
  go_enter Tryz.func80, Tryz.ntmps80
  go_wp2
  repeat (go_quiet (fail); try go_wp2)
  go_ret
  exact ⟨by first | rfl | (simp; done) | (simp [*]; done), dS⟩
 rw [if_pos c3] at H
 have c3b0 : ((l0.length : Int) == (l1.length : Int)) = true := beq_iff_eq.mpr c3
 have c3b1 : ((l0.length : Int) != (l1.length : Int)) = false := bne_eq_false_iff_eq.mpr c3
 have c3b2 : (l0.length == l1.length) = true := by first | simpa using c3 | (simp at c3 ⊢; omega)
 clear c3
 have H' := Aside0.mk H
 clear H
 go_enter Tryz.func80, Tryz.ntmps80
 go_wp2
 repeat (go_quiet (fail); try go_wp2)
 go_loopg [13] k (fun kq v13 w' => ∃ (x13_1 : Int), v13 = .int .i64 x13_1 ∧ Aside0 (laws_zRows.l0 kq l0 l1 (l0.length : Int) x13_1 = some r) ∧ Aside0 (kq ≤ k) ∧ Drawn0 w w')
 case atStart => exact ⟨(0), gR, H', ⟨Nat.le_refl _⟩, dS⟩
 case round =>
  clear H'
  (try clear c1); (try clear p2); (try clear c3); (try clear c3b0); (try clear c3b1); (try clear c3b2)
  obtain ⟨x13_1, rfl, HA, HK1, ⟨m1, rfl⟩⟩ := hrel
  cases gk with
  | zero => exact absurd HA.out (by simp [laws_zRows.l0])
  | succ k1 =>
   have H := HA.out
   clear HA
   simp only [laws_zRows.l0] at H
   by_cases c4 : x13_1 < (l0.length : Int)
   rotate_left
   ·rw [if_neg c4] at H
    have c4b0 : decide (x13_1 < (l0.length : Int)) = false := decide_eq_false c4
    clear c4
    obtain rfl := Option.some.inj H
    go_wp2
    repeat (go_quiet (fail); try go_wp2)
    go_ret
    exact ⟨by first | rfl | (simp; done) | (simp [*]; done), dS⟩
   rw [if_pos c4] at H
   have c4b0 := decide_eq_true c4
   clear c4
   by_cases c5 : 0 ≤ x13_1
   rotate_left
   ·rw [if_neg c5] at H
    exact absurd H (by simp)
   rw [if_pos c5] at H
   have c5b0 := decide_eq_true c5
   clear c5
   by_cases c6 : x13_1 < (l0.length : Int)
   rotate_left
   ·rw [if_neg c6] at H
    exact absurd H (by simp)
   rw [if_pos c6] at H
   have c6b0 := decide_eq_true c6
   clear c6
   by_cases c7 : x13_1 < (l1.length : Int)
   rotate_left
   ·rw [if_neg c7] at H
    exact absurd H (by simp)
   rw [if_pos c7] at H
   have c7b0 := decide_eq_true c7
   clear c7
   replace H := oA H
   obtain ⟨t103, A8, H⟩ := H
   (try dsimp only at H)
   by_cases c9 : t103 = true
   ·subst c9
    replace H := iT H
    have H' := Aside0.mk H
    clear H
    have p101 : 0 ≤ (x13_1 : Int) := oD
    have q101 : x13_1 < (l0.length : Int) := oD
    obtain ⟨ad101, A101_0, c101_0, e101, hx101_0, hl101_0, hi101_0⟩ := at_L2 HR0.out x13_1 p101 q101
    cases e101
    have HR101_0 := Aside0.mk hi101_0
    have HC101_0 := Aside0.mk hl101_0
    clear hi101_0 hl101_0
    replace p101 := eq_true p101
    replace q101 := eq_true q101
    have p102 : 0 ≤ (x13_1 : Int) := oD
    have q102 : x13_1 < (l1.length : Int) := oD
    obtain ⟨ad102, A102_0, c102_0, e102, hx102_0, hl102_0, hi102_0⟩ := at_L2 HR1.out x13_1 p102 q102
    cases e102
    have HR102_0 := Aside0.mk hi102_0
    have HC102_0 := Aside0.mk hl102_0
    clear hi102_0 hl102_0
    replace p102 := eq_true p102
    replace q102 := eq_true q102
    go_wp2_with (first | (go_at_call 70; (with_reducible refine (laws_zSame.calls k1 _ _ (rd_L2 l0 x13_1) _ _ (rd_L2 l1 x13_1) true _ HR101_0.out HC101_0.out HR102_0.out HC102_0.out A8.out).mono ?_); rintro e w' ⟨rfl, ⟨nd, rfl⟩⟩; (try exact dR)))
    repeat (go_quiet (first | (go_at_call 70; (with_reducible refine (laws_zSame.calls k1 _ _ (rd_L2 l0 x13_1) _ _ (rd_L2 l1 x13_1) true _ ?side1 ?side2 ?side3 ?side4 A8.out).mono ?_); (case side1 => have hx_ := HR101_0.out; exact cC); (case side2 => exact HC101_0.out); (case side3 => have hx_ := HR102_0.out; exact cC); (case side4 => exact HC102_0.out); rintro e w' ⟨rfl, ⟨nd, rfl⟩⟩; (try exact dR))); try go_wp2_with (first | (go_at_call 70; (with_reducible refine (laws_zSame.calls k1 _ _ (rd_L2 l0 x13_1) _ _ (rd_L2 l1 x13_1) true _ ?side1 ?side2 ?side3 ?side4 A8.out).mono ?_); (case side1 => have hx_ := HR101_0.out; exact cC); (case side2 => exact HC101_0.out); (case side3 => have hx_ := HR102_0.out; exact cC); (case side4 => exact HC102_0.out); rintro e w' ⟨rfl, ⟨nd, rfl⟩⟩; (try exact dR))))
    go_roundg k1
    case measure => have := HK1.out; omega
    case rel => exact ⟨(wrap64 (x13_1 + 1)), gR, H', ⟨by have := HK1.out; omega⟩, dS⟩
   replace c9 := Bool.eq_false_iff.mpr c9
   subst c9
   replace H := iF H
   obtain rfl := Option.some.inj H
   have p101 : 0 ≤ (x13_1 : Int) := oD
   have q101 : x13_1 < (l0.length : Int) := oD
   obtain ⟨ad101, A101_0, c101_0, e101, hx101_0, hl101_0, hi101_0⟩ := at_L2 HR0.out x13_1 p101 q101
   cases e101
   have HR101_0 := Aside0.mk hi101_0
   have HC101_0 := Aside0.mk hl101_0
   clear hi101_0 hl101_0
   replace p101 := eq_true p101
   replace q101 := eq_true q101
   have p102 : 0 ≤ (x13_1 : Int) := oD
   have q102 : x13_1 < (l1.length : Int) := oD
   obtain ⟨ad102, A102_0, c102_0, e102, hx102_0, hl102_0, hi102_0⟩ := at_L2 HR1.out x13_1 p102 q102
   cases e102
   have HR102_0 := Aside0.mk hi102_0
   have HC102_0 := Aside0.mk hl102_0
   clear hi102_0 hl102_0
   replace p102 := eq_true p102
   replace q102 := eq_true q102
   go_wp2_with (first | (go_at_call 70; (with_reducible refine (laws_zSame.calls k1 _ _ (rd_L2 l0 x13_1) _ _ (rd_L2 l1 x13_1) false _ ?side1 ?side2 ?side3 ?side4 A8.out).mono ?_); (case side1 => have hx_ := HR101_0.out; exact cC); (case side2 => exact HC101_0.out); (case side3 => have hx_ := HR102_0.out; exact cC); (case side4 => exact HC102_0.out); rintro e w' ⟨rfl, ⟨nd, rfl⟩⟩; (try exact dR)))
   repeat (go_quiet (first | (go_at_call 70; (with_reducible refine (laws_zSame.calls k1 _ _ (rd_L2 l0 x13_1) _ _ (rd_L2 l1 x13_1) false _ ?side1 ?side2 ?side3 ?side4 A8.out).mono ?_); (case side1 => have hx_ := HR101_0.out; exact cC); (case side2 => exact HC101_0.out); (case side3 => have hx_ := HR102_0.out; exact cC); (case side4 => exact HC102_0.out); rintro e w' ⟨rfl, ⟨nd, rfl⟩⟩; (try exact dR))); try go_wp2_with (first | (go_at_call 70; (with_reducible refine (laws_zSame.calls k1 _ _ (rd_L2 l0 x13_1) _ _ (rd_L2 l1 x13_1) false _ ?side1 ?side2 ?side3 ?side4 A8.out).mono ?_); (case side1 => have hx_ := HR101_0.out; exact cC); (case side2 => exact HC101_0.out); (case side3 => have hx_ := HR102_0.out; exact cC); (case side4 => exact HC102_0.out); rintro e w' ⟨rfl, ⟨nd, rfl⟩⟩; (try exact dR))))
   go_ret
   exact ⟨by first | rfl | (simp; done) | (simp [*]; done), dS⟩
end Go.Proofs.YtamfpkefnhcngaaGreat.Q
namespace Go.Proofs.YtamfpkefnhcngaaGreat.Q
open Go.RowKit Go.Proofs.YtamfpkefnhcngaaGreatX Go.Proofs.YtamfpkefnhcngaaGreatY Go.Proofs.YtamfpkefnhcngaaGreatX Go.Proofs.YtamfpkefnhcngaaGreatW.PrintWords Go.Proofs.YtamfpkefnhcngaaGreatW.PrintLast Go.Proofs.YtamfpkefnhcngaaGreatW.PrintMore
attribute [local go_sem] max2_int min2_int max_two min_two max_three min_three max_four min_four   -- for this text's walks alone
set_option linter.unusedVariables false
set_option linter.unusedSimpArgs false
attribute [local go_sem high] eqA60
mutual
def laws_FnSwingsToldOfAll.j5 : Nat → Int → Int → List Int → Option (Bool)
 | 0, _, _, _ => none
 | k + 1, x2, x103000, x103001 => (impl_SwingSets.f k x103000 x103001 x2).bind fun bt229 => ((spec_SwingSets.f k x103000 x103001 x2).bind fun bt233 => ((impl_SwingsBySize.f k x103000 x103001 x2).bind fun bt237 => ((spec_SwingsBySize.f k x103000 x103001 x2).bind fun bt241 => (if (bt229.2 == bt233.2) = true then ((laws_zRows.f k bt229.1 bt233.1).bind fun t245 => (if t245 = true then (if (bt237.2 == bt241.2) = true then ((laws_zSame.f k bt237.1 bt241.1).bind fun t246 => (if t246 = true then (some (bt237.2 == bt229.2)) else (none))) else (none)) else (none))) else (none)))))
def laws_FnSwingsToldOfAll.l0 : Nat → Int → List Int → List (S60) → List (S60) → List (S60) → List (S60) → List (S60) → Int → Int → Int → List Int → List Int → Int → Int → Int → List Int → Int → List Int → Option (Bool)
 | 0, _, _, _, _, _, _, _, _, _, _, _, _, _, _, _, _, _, _ => none
 | k + 1, x2, x7, x11, x15, x23, x27, x31, x35, x36, x37, x39, x313, x314, x315, x102000, x102001, x103000, x103001 => if x315 < x314 then (if 0 ≤ x315 then (if x315 < (x313.length : Int) then (if x315 < (x11.length : Int) then ((laws_zIs.f ((rd_T60 x11 x315).f0) ((rd_T60 x11 x315).f1) (rd x313 x315) (wrap64 (Int.tdiv x36 2))).bind fun t176 => (if t176 = true then (if x315 < (x15.length : Int) then ((laws_zSum.f k x7).bind fun t178 => ((laws_zIs.f ((rd_T60 x15 x315).f0) ((rd_T60 x15 x315).f1) (rd x313 x315) t178).bind fun t179 => (if t179 = true then (if x315 < (x23.length : Int) then ((laws_zIs.f ((rd_T60 x23 x315).f0) ((rd_T60 x23 x315).f1) (rd x313 x315) x37).bind fun t181 => (if t181 = true then (if x315 < (x27.length : Int) then ((laws_zIs.f ((rd_T60 x27 x315).f0) ((rd_T60 x27 x315).f1) (rd x313 x315) (wrap64 (x36 - x37))).bind fun t183 => (if t183 = true then (if x315 < (x31.length : Int) then ((laws_zIs.f ((rd_T60 x31 x315).f0) ((rd_T60 x31 x315).f1) (wrap64 ((wrap64 (Int.tdiv x36 2)) + (rd x313 x315))) x36).bind fun t185 => (if t185 = true then ((laws_zHas.f k x39 x315).bind fun t186 => (if (((rd x313 x315) == 0) != t186) = true then (none) else ((impl_SwingSets.f k x102000 x102001 x315).bind fun bt187 => ((impl_SwingsBySize.f k x102000 x102001 x315).bind fun bt191 => (if bt187.2 = true then (if (bt187.1.length : Int) = (rd x313 x315) then (if bt191.2 = true then (if (bt191.1.length : Int) = x35 then ((laws_zSum.f k bt191.1).bind fun t195 => (if t195 = (rd x313 x315) then (laws_FnSwingsToldOfAll.l1 k x2 x7 x11 x15 x23 x27 x31 x35 x36 x37 x39 x315 bt187.1 bt191.1 x313 x314 x315 bt187.1 (bt187.1.length : Int) 0 x102000 x102001 x103000 x103001) else (none))) else (none)) else (none)) else (none)) else (none)))))) else (none))) else (none)) else (none))) else (none)) else (none))) else (none)) else (none)))) else (none)) else (none))) else (none)) else (none)) else (none)) else (laws_FnSwingsToldOfAll.j5 k x2 x103000 x103001)
def laws_FnSwingsToldOfAll.l1 : Nat → Int → List Int → List (S60) → List (S60) → List (S60) → List (S60) → List (S60) → Int → Int → Int → List Int → Int → List (List Int) → List Int → List Int → Int → Int → List (List Int) → Int → Int → Int → List Int → Int → List Int → Option (Bool)
 | 0, _, _, _, _, _, _, _, _, _, _, _, _, _, _, _, _, _, _, _, _, _, _, _, _ => none
 | k + 1, x2, x7, x11, x15, x23, x27, x31, x35, x36, x37, x39, x41, x43, x45, x313, x314, x315, x419, x420, x421, x102000, x102001, x103000, x103001 => if x421 < x420 then (if 0 ≤ x421 then (if x421 < (x419.length : Int) then ((impl_IsWinning.f k x102000 x102001 (rd_L2 x419 x421)).bind fun bt197 => ((some (([] : List Int) : List Int)).bind fun y199 => (if y199.length + (rd_L2 x419 x421).length < 17592186044416 then (laws_FnSwingsToldOfAll.l2 k x2 x7 x11 x15 x23 x27 x31 x35 x36 x37 x39 x41 x43 x45 x421 (rd_L2 x419 x421) bt197.1 bt197.2 (y199 ++ (rd_L2 x419 x421)) 0 x313 x314 x315 x419 x420 x421 x102000 x102001 x103000 x103001) else (none)))) else (none)) else (none)) else (laws_FnSwingsToldOfAll.l0 k x2 x7 x11 x15 x23 x27 x31 x35 x36 x37 x39 x313 x314 (wrap64 (x315 + 1)) x102000 x102001 x103000 x103001)
def laws_FnSwingsToldOfAll.l2 : Nat → Int → List Int → List (S60) → List (S60) → List (S60) → List (S60) → List (S60) → Int → Int → Int → List Int → Int → List (List Int) → List Int → Int → List Int → Bool → Bool → List Int → Int → List Int → Int → Int → List (List Int) → Int → Int → Int → List Int → Int → List Int → Option (Bool)
 | 0, _, _, _, _, _, _, _, _, _, _, _, _, _, _, _, _, _, _, _, _, _, _, _, _, _, _, _, _, _, _ => none
 | k + 1, x2, x7, x11, x15, x23, x27, x31, x35, x36, x37, x39, x41, x43, x45, x47, x48, x49, x50, x51, x52, x313, x314, x315, x419, x420, x421, x102000, x102001, x103000, x103001 => if x52 < (x51.length : Int) then (if 0 ≤ x52 then (laws_FnSwingsToldOfAll.j3 k x2 x7 x11 x15 x23 x27 x31 x35 x36 x37 x39 x41 x43 x45 x47 x48 x49 x50 x51 x52 x313 x314 x315 x419 x420 x421 (decide ((rd x51 x52) < x41)) x102000 x102001 x103000 x103001) else (none)) else (laws_FnSwingsToldOfAll.j3 k x2 x7 x11 x15 x23 x27 x31 x35 x36 x37 x39 x41 x43 x45 x47 x48 x49 x50 x51 x52 x313 x314 x315 x419 x420 x421 false x102000 x102001 x103000 x103001)
def laws_FnSwingsToldOfAll.j3 : Nat → Int → List Int → List (S60) → List (S60) → List (S60) → List (S60) → List (S60) → Int → Int → Int → List Int → Int → List (List Int) → List Int → Int → List Int → Bool → Bool → List Int → Int → List Int → Int → Int → List (List Int) → Int → Int → Bool → Int → List Int → Int → List Int → Option (Bool)
 | 0, _, _, _, _, _, _, _, _, _, _, _, _, _, _, _, _, _, _, _, _, _, _, _, _, _, _, _, _, _, _, _ => none
 | k + 1, x2, x7, x11, x15, x23, x27, x31, x35, x36, x37, x39, x41, x43, x45, x47, x48, x49, x50, x51, x52, x313, x314, x315, x419, x420, x421, x446, x102000, x102001, x103000, x103001 => if x446 = true then (laws_FnSwingsToldOfAll.l2 k x2 x7 x11 x15 x23 x27 x31 x35 x36 x37 x39 x41 x43 x45 x47 x48 x49 x50 x51 (wrap64 (x52 + 1)) x313 x314 x315 x419 x420 x421 x102000 x102001 x103000 x103001) else ((some (([] : List Int) : List Int)).bind fun y206 => (if 0 ≤ x52 then (if x52 ≤ (x48.length : Int) then (if y206.length + (x48.take (x52 : Int).toNat).length < 17592186044416 then ((some (y206 ++ (x48.take (x52 : Int).toNat) : List Int)).bind fun y210 => ((some (([x41] : List Int) : List Int)).bind fun y213 => (if y210.length + y213.length < 17592186044416 then ((some (y210 ++ y213 : List Int)).bind fun y216 => (if y216.length + (x48.drop (x52 : Int).toNat).length < 17592186044416 then ((impl_IsWinning.f k x102000 x102001 (y216 ++ (x48.drop (x52 : Int).toNat))).bind fun bt223 => (if x50 = true then (if x49 = true then (none) else ((laws_zHas.f k x48 x41).bind fun t225 => (if t225 = true then (none) else (if bt223.2 = true then (if bt223.1 = true then (if 0 ≤ (x48.length : Int) then (if (x48.length : Int) < (x45.length : Int) then (if (rd x45 (x48.length : Int)) < 1 then (none) else (if x47 > 0 then (if 0 ≤ (wrap64 (x47 - 1)) then (if (wrap64 (x47 - 1)) < (x43.length : Int) then ((laws_zLess.f k (rd_L2 x43 (wrap64 (x47 - 1))) x48).bind fun t228 => (laws_FnSwingsToldOfAll.j4 k x2 x7 x11 x15 x23 x27 x31 x35 x36 x37 x39 x41 x43 x45 x313 x314 x315 x419 x420 x421 (!t228) x102000 x102001 x103000 x103001)) else (none)) else (none)) else (laws_FnSwingsToldOfAll.j4 k x2 x7 x11 x15 x23 x27 x31 x35 x36 x37 x39 x41 x43 x45 x313 x314 x315 x419 x420 x421 false x102000 x102001 x103000 x103001))) else (none)) else (none)) else (none)) else (none))))) else (none))) else (none))) else (none)))) else (none)) else (none)) else (none)))
def laws_FnSwingsToldOfAll.j4 : Nat → Int → List Int → List (S60) → List (S60) → List (S60) → List (S60) → List (S60) → Int → Int → Int → List Int → Int → List (List Int) → List Int → List Int → Int → Int → List (List Int) → Int → Int → Bool → Int → List Int → Int → List Int → Option (Bool)
 | 0, _, _, _, _, _, _, _, _, _, _, _, _, _, _, _, _, _, _, _, _, _, _, _, _, _ => none
 | k + 1, x2, x7, x11, x15, x23, x27, x31, x35, x36, x37, x39, x41, x43, x45, x313, x314, x315, x419, x420, x421, x506, x102000, x102001, x103000, x103001 => if x506 = true then (none) else (laws_FnSwingsToldOfAll.l1 k x2 x7 x11 x15 x23 x27 x31 x35 x36 x37 x39 x41 x43 x45 x313 x314 x315 x419 x420 (wrap64 (x421 + 1)) x102000 x102001 x103000 x103001)
end
def laws_FnSwingsToldOfAll.f (k : Nat) (a0_0 : Int) (l0_1 : List Int) (a1_0 : Int) (l1_1 : List Int) (a2 : Int) : Option (Bool) := (impl_SwingsOf.f k a0_0 l0_1).bind fun bt103 => ((spec_SwingsOf.f k a0_0 l0_1).bind fun bt107 => ((impl_SwingPowers.f k a0_0 l0_1).bind fun bt111 => ((spec_SwingPowers.f k a0_0 l0_1).bind fun bt115 => ((impl_SwingShares.f k a0_0 l0_1).bind fun bt119 => ((spec_SwingShares.f k a0_0 l0_1).bind fun bt123 => ((impl_DecidePower.f k a0_0 l0_1).bind fun bt127 => ((spec_DecidePower.f k a0_0 l0_1).bind fun bt131 => ((impl_BlockPowers.f k a0_0 l0_1).bind fun bt135 => ((spec_BlockPowers.f k a0_0 l0_1).bind fun bt139 => ((impl_StartPowers.f k a0_0 l0_1).bind fun bt143 => ((spec_StartPowers.f k a0_0 l0_1).bind fun bt147 => ((impl_AgreeChances.f k a0_0 l0_1).bind fun bt151 => ((spec_AgreeChances.f k a0_0 l0_1).bind fun bt155 => (if (bt103.2 != bt107.2) = true then (none) else ((laws_zSame.f k bt103.1 bt107.1).bind fun t159 => (if t159 = true then (if (bt111.2 != bt115.2) = true then (none) else ((laws_zShares.f k bt111.1 bt115.1).bind fun t160 => (if t160 = true then (if (bt119.2 != bt123.2) = true then (none) else ((laws_zShares.f k bt119.1 bt123.1).bind fun t161 => (if t161 = true then (if (bt127.2.2 != bt131.2.2) = true then (none) else (if (!(bt127.1 == bt131.1) || (!(bt127.2.1 == bt131.2.1))) = true then (none) else (if (bt135.2 != bt139.2) = true then (none) else ((laws_zShares.f k bt135.1 bt139.1).bind fun t162 => (if t162 = true then (if (bt143.2 != bt147.2) = true then (none) else ((laws_zShares.f k bt143.1 bt147.1).bind fun t163 => (if t163 = true then (if (bt151.2 != bt155.2) = true then (none) else ((laws_zShares.f k bt151.1 bt155.1).bind fun t164 => (if t164 = true then ((impl_IsCommittee.f k a0_0 l0_1).bind fun t165 => (if (bt103.2 != t165) = true then (none) else (if (bt111.2 != bt103.2) = true then (none) else (if (bt119.2 != bt103.2) = true then (none) else (if (bt127.2.2 != bt103.2) = true then (none) else (if (bt135.2 != bt103.2) = true then (none) else (if (bt143.2 != bt103.2) = true then (none) else (if (bt151.2 != bt103.2) = true then (none) else (if bt103.2 = true then ((impl_CountWinning.f k a0_0 l0_1).bind fun bt166 => ((impl_DummiesOf.f k a0_0 l0_1).bind fun bt168 => (if (bt103.1.length : Int) = (l0_1.length : Int) then (if (bt111.1.length : Int) = (l0_1.length : Int) then (if (bt119.1.length : Int) = (l0_1.length : Int) then (if (bt135.1.length : Int) = (l0_1.length : Int) then (if (bt143.1.length : Int) = (l0_1.length : Int) then (if (bt151.1.length : Int) = (l0_1.length : Int) then (if bt166.2 = true then ((laws_zIs.f bt127.1 bt127.2.1 bt166.1 (shl .i64 1 (l0_1.length : Int))).bind fun t172 => (if t172 = true then (if bt168.2 = true then ((laws_zSum.f k bt103.1).bind fun t173 => (if t173 < 1 then (none) else (laws_FnSwingsToldOfAll.l0 k a2 bt103.1 bt111.1 bt119.1 bt135.1 bt143.1 bt151.1 (l0_1.length : Int) (shl .i64 1 (l0_1.length : Int)) bt166.1 bt168.1 bt103.1 (bt103.1.length : Int) 0 a0_0 l0_1 a1_0 l1_1))) else (none)) else (none))) else (none)) else (none)) else (none)) else (none)) else (none)) else (none)) else (none)))) else (laws_FnSwingsToldOfAll.j5 k a2 a1_0 l1_1)))))))))) else (none)))) else (none)))) else (none)))))) else (none)))) else (none)))) else (none)))))))))))))))))
def laws_FnSwingsToldOfAll.T27 : Bool × List (List Nat × List Nat) := (true, [([], []), ([], []), ([0, 1], [0, 1]), ([2], [2]), ([], []), ([], []), ([5], [5]), ([3, 4, 6], [3, 4, 6]), ([7], [7]), ([8, 7], [8]), ([9], [9]), ([9], [9]), ([10, 11, 9], [9, 10, 11]), ([12, 9], [9, 12]), ([9], [9]), ([9], [9]), ([15, 9, 9], [9, 15]), ([13, 14, 16, 16, 9], [9, 13, 14, 16]), ([17, 9], [9, 17]), ([9, 18], [9, 18]), ([19, 17], [19]), ([20], [20]), ([20], [20]), ([21, 22, 20], [20, 21, 22]), ([23, 20], [20, 23]), ([20], [20]), ([20], [20]), ([24, 25, 26, 20, 20], [20, 24, 25, 26]), ([27, 20], [20, 27]), ([20, 28], [20, 28]), ([29, 27], [29]), ([30], [30]), ([30], [30]), ([31, 32, 30], [30, 31, 32]), ([33, 30], [30, 33]), ([30], [30]), ([30], [30]), ([30], [30]), ([36, 37, 30], [30, 36, 37]), ([34, 35, 38, 30, 30], [30, 34, 35, 38]), ([39, 30], [30, 39]), ([30, 40], [30, 40]), ([41, 39], [41]), ([42], [42]), ([42], [42]), ([43, 44, 42], [42, 43, 44]), ([45, 42], [42, 45]), ([42], [42]), ([47, 42], [42, 47]), ([42], [42]), ([48, 49, 42], [42, 48, 49]), ([42], [42]), ([46, 50, 51, 42, 42], [42, 46, 50, 51]), ([52, 42], [42, 52]), ([42, 53], [42, 53]), ([54, 52], [54]), ([55], [55]), ([56, 55], [55, 56]), ([55], [55]), ([55], [55]), ([58, 59, 55, 55], [55, 58, 59]), ([57, 60, 55], [55, 57, 60]), ([55, 61], [55, 61])])
def laws_FnSwingsToldOfAll.B27 : List Nat := [0, 0, 3, 7, 0, 0, 32, 127, 255, 511, 1023, 1023, 4095, 8191, 1023, 1023, 33791, 131071, 262143, 524287, 1048575, 2097151, 2097151, 8388607, 16777215, 2097151, 2097151, 134217727, 268435455, 536870911, 1073741823, 2147483647, 2147483647, 8589934591, 17179869183, 2147483647, 2147483647, 2147483647, 208305913855, 549755813887, 1099511627775, 2199023255551, 4398046511103, 8796093022207, 8796093022207, 35184372088831, 70368744177663, 8796093022207, 149533581377535, 8796093022207, 993958511509503, 8796093022207, 4503599627370495, 9007199254740991, 18014398509481983, 36028797018963967, 72057594037927935, 144115188075855871, 72057594037927935, 72057594037927935, 936748722493063167, 2305843009213693951, 4611686018427387903]
theorem laws_FnSwingsToldOfAll.tab27 : rtab .any (opsOf Tryz.f5 27) = laws_FnSwingsToldOfAll.T27 := by kernel_rfl
theorem laws_FnSwingsToldOfAll.bits27 : waitsOk laws_FnSwingsToldOfAll.T27.2 laws_FnSwingsToldOfAll.B27 = true := by kernel_rfl
def laws_FnSwingsToldOfAll.T41 : Bool × List (List Nat × List Nat) := (true, [([], []), ([], []), ([], []), ([1, 2], [1, 2]), ([0, 3], [0, 3]), ([], []), ([5], [5]), ([4, 6, 4], [4, 6]), ([], []), ([], []), ([8, 9], [8, 9]), ([7, 10, 7], [7, 10]), ([11, 11, 0, 1, 2, 3, 4, 5, 6, 7, 8, 9, 10, 11], [11])])
def laws_FnSwingsToldOfAll.B41 : List Nat := [0, 0, 0, 6, 15, 0, 32, 127, 0, 0, 768, 2047, 4095]
theorem laws_FnSwingsToldOfAll.tab41 : rtab .any (opsOf Tryz.f5 41) = laws_FnSwingsToldOfAll.T41 := by kernel_rfl
theorem laws_FnSwingsToldOfAll.bits41 : waitsOk laws_FnSwingsToldOfAll.T41.2 laws_FnSwingsToldOfAll.B41 = true := by kernel_rfl
end Go.Proofs.YtamfpkefnhcngaaGreat.Q
