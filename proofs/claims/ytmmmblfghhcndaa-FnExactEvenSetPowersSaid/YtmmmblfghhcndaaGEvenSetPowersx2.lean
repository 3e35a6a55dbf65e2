/- Printed functions, their contracts and plain facts on them: QImplSharesOf; QImplEvenSetPowers; QLawsFnExactEvenSetPowers; QLawsHeldIntS; QLawsHeldIntSS; QLawsMarkIntSS; PVotesOf; PHas; PWeight; PCommitteeVotes; PSumOf; PWithin; PIsCommittee; PLawInts; PRdL2; PLawSets; PSperner; PSetFacts; PSetN; PMasks; PLeastEx; PGcd; PPwCommon; PShares; PL1In; PVoSum; PVoGood; PVoList; PVoBefore; PVoSorted; PVoLeast; PVoAll; PVoWeight; PVoWins; PAndNot; PSetOf; PVotesLeast; PEvenSetPowers; PLawCommittee; PLawShares; PLFnExactEvenSetPowers. Conditions: as each theorem states. -/
import Derived.Test.YtmmmblfghhcndaaGEvenSetPowersx0
import Derived.Test.YtmmmblfghhcndaaGEvenSetPowersx1
namespace Go.Proofs.Ytmmmblfghhcndaa.Q
open Go.RowKit Go.Proofs.YtmmmblfghhcndaaX Go.Proofs.YtmmmblfghhcndaaW.PrintWords Go.Proofs.YtmmmblfghhcndaaW.PrintLast Go.Proofs.YtmmmblfghhcndaaW.PrintMore
attribute [local go_sem] max2_int min2_int max_two min_two max_three min_three max_four min_four   -- for this text's walks alone
set_option linter.unusedVariables false
set_option linter.unusedSimpArgs false
def impl_sharesOf.l0 : Nat → Int → List (S88) → List Int → Int → Int → Option ((List (S88)))
 | 0, _, _, _, _, _ => none
 | k + 1, x1, x5, x9, x10, x11 => if x11 < x10 then (if 0 ≤ x11 then (if x11 < (x9.length : Int) then ((impl_shareOf.f k (rd x9 x11) x1).bind fun bt105 => (if x5.length < 8796093022208 then (impl_sharesOf.l0 k x1 (x5 ++ [(⟨bt105.1, bt105.2⟩ : S88)]) x9 x10 (wrap64 (x11 + 1))) else (none))) else (none)) else (none)) else (some x5)
def impl_sharesOf.f (k : Nat) (l0 : List Int) (a1 : Int) : Option ((List (S88))) := impl_sharesOf.l0 k a1 (([] : List (S88))) l0 (l0.length : Int) 0
set_option maxHeartbeats 8000000 in
set_option maxRecDepth 100000 in
theorem impl_sharesOf.calls (k : Nat) (A0 : Option Addr) (c0 : Nat) (l0 : List Int) (a1 : Int) (r : List (S88)) (w : World) (hr0 : Kd.C (Kd.int .i64) w A0 l0.length l0) (hc0 : l0.length ≤ c0) (h : impl_sharesOf.f k l0 a1 = some r) :
  Calls Try.prog 84 #[.slice A0 l0.length c0, .int .i64 a1] w fun e w' => ∃ v0_ : Value, e = .returned (v0_) ∧ Kd.R k88 88 w' w.heap.size (fun _ => True) v0_ r ∧ Below w.heap.size w w' := by
 have HR0 := Aside0.mk hr0
 have HC0 := Aside0.mk hc0
 clear hr0 hc0
 have HB := Aside0.mk (Below.refl w.heap.size w)
 have H : (impl_sharesOf.l0 k a1 (([] : List (S88))) l0 (l0.length : Int) 0) = some r := h
 clear h
 obtain ⟨y101, hy101⟩ : ∃ y_ : List (S88), y_ = (([] : List (S88))) := ⟨_, rfl⟩
 replace H : (impl_sharesOf.l0 k a1 y101 l0 (l0.length : Int) 0) = some r := by first | (rw [hy101]; with_reducible exact H) | (have H2_ := (Option.bind_some _ _).symm.trans H; rw [hy101]; with_reducible exact H2_) | (have H2_ := (Option.bind_some _ _).symm.trans H; with_reducible exact H2_) | with_reducible exact H | (rw [hy101]; exact H) | exact H
 have Ny101 := Aside0.mk hy101
 clear hy101
 have H' := Aside0.mk H
 clear H
 go_enter Try.func84, Try.ntmps84
 go_wp2_with (first | ((with_reducible refine gate_dst (N := 8) rfl ?_); refine Kd.R_lit k88 _ 88 ?hg (N := 8) ?hd (xs := ([] : List (S88))) (inner := []) (ok := fun _ => True) (okp := fun _ => True) ?hr ?hp (fun _ hk => hk) trivial (Below.refl _ _) (Nat.le_refl _) (by simp) ?_; (case hd => rfl); (case hg => rfl); (case hr => first | (go_simp; done) | (go_simp; rfl)); (case hp => exact (Reps.none _ _)); intro v102 w3 ho4 hb hg_ hnew_; clear hg_ hnew_; (first | rw [← Ny101.out] at ho4 | (simp only [Int.reduceToNat] at ho4; rw [← Ny101.out] at ho4)); have n0_ := Aside0.mk (Kd.R_lower ho4 (below_size (by repeat (first | (with_reducible first | exact HB.out | apply ba | apply bd | apply be) | exact HB.out)))); have n1_ := Aside0.mk (below_step (by repeat (first | (with_reducible first | exact HB.out | apply ba | apply bd | apply be) | exact HB.out)) hb); clear HB; have HO103 := n0_; have HB := n1_; clear n0_ n1_; clear hb ho4))
 go_loopg [5, 11] k (fun kq v5 v11 w' => ∃ (x5_1 : List (S88)) (x11_1 : Int), v11 = .int .i64 x11_1 ∧ Aside0 (impl_sharesOf.l0 kq a1 x5_1 l0 (l0.length : Int) x11_1 = some r) ∧ Aside0 (kq ≤ k) ∧ Aside0 (Kd.R k88 88 w' w.heap.size (fun _ => True) v5 x5_1) ∧ Aside0 (Below w.heap.size w w'))
 case atStart => exact ⟨(y101), (0), (by first | rfl | (simp; done) | (simp [*]; done)), H', ⟨Nat.le_refl _⟩, ⟨by (first | exact rp HO103.out | exact HO103.out)⟩, ⟨by repeat (first | (with_reducible first | exact HB.out | apply ba | apply bd | apply be) | exact HB.out)⟩⟩
 case round =>
  clear H'
  try clear p2
  obtain ⟨x5_1, x11_1, rfl, HA, HK1, HO_5, HB⟩ := hrel
  cases gk with
  | zero => exact absurd HA.out (by simp [impl_sharesOf.l0])
  | succ k1 =>
   have H := HA.out
   clear HA
   simp only [impl_sharesOf.l0] at H
   by_cases c5 : x11_1 < (l0.length : Int)
   ·rw [if_pos c5] at H
    have c5b0 : decide (x11_1 < (l0.length : Int)) = true := decide_eq_true c5
    clear c5
    by_cases c6 : 0 ≤ x11_1
    ·rw [if_pos c6] at H
     have c6b0 : decide (0 ≤ x11_1) = true := decide_eq_true c6
     clear c6
     by_cases c7 : x11_1 < (l0.length : Int)
     ·rw [if_pos c7] at H
      have c7b0 : decide (x11_1 < (l0.length : Int)) = true := decide_eq_true c7
      clear c7
      replace H := oB H
      obtain ⟨⟨t105, t106⟩, A80, H⟩ := H
      replace H : (if x5_1.length < 8796093022208 then (impl_sharesOf.l0 k1 a1 (x5_1 ++ [(⟨t105, t106⟩ : S88)]) l0 (l0.length : Int) (wrap64 (x11_1 + 1))) else (none)) = some r := H
      have A8 := Aside0.mk A80
      clear A80
      by_cases c9 : x5_1.length < 8796093022208
      ·rw [if_pos c9] at H
       have LMc9 := Aside0.mk c9
       clear c9
       obtain ⟨y107, hy107⟩ : ∃ y_ : List (S88), y_ = (x5_1 ++ [(⟨t105, t106⟩ : S88)]) := ⟨_, rfl⟩
       replace H : (impl_sharesOf.l0 k1 a1 y107 l0 (l0.length : Int) (wrap64 (x11_1 + 1))) = some r := by first | (rw [hy107]; with_reducible exact H) | (have H2_ := (Option.bind_some _ _).symm.trans H; rw [hy107]; with_reducible exact H2_) | (have H2_ := (Option.bind_some _ _).symm.trans H; with_reducible exact H2_) | with_reducible exact H | (rw [hy107]; exact H) | exact H
       have Ny107 := Aside0.mk hy107
       clear hy107
       have H' := Aside0.mk H
       clear H
       have p104 : 0 ≤ (x11_1 : Int) := of_decide_eq_true (by first | (with_reducible assumption) | assumption)
       have q104 : x11_1 < (l0.length : Int) := of_decide_eq_true (by first | (with_reducible assumption) | assumption)
       obtain ⟨ad104, e104, hx104_0⟩ := Kd.at_int HR0.out x11_1 p104 q104
       cases e104
       replace hx104_0 := (HB.out.cell (World.block_lt_of_cell? w _ hx104_0)).trans hx104_0
       replace p104 := eq_true p104
       replace q104 := eq_true q104
       go_wp2_with (first | ((with_reducible refine gate_callee (f := 126) rfl ?_); refine goesL_ (some 18) rfl rfl Try.func126 (by kernel_rfl) rfl #[.int .i64 (rd l0 x11_1), .int .i64 a1] rfl (by (try simp only [mA, mC, mN]); first | done | rfl | (simp only [List.length_drop, List.length_take]; rfl)) ?_; (with_reducible refine (impl_shareOf.calls k1 (rd l0 x11_1) a1 t105 t106 _ A8.out).mono ?_); rintro e w10 ⟨rfl, hb⟩; refine ⟨_, rfl, ?_⟩; have n0_ := Aside0.mk (Kd.R_below (by (first | exact rp HO_5.out | exact HO_5.out)) hb); have n1_ := Aside0.mk (below_step (by repeat (first | (with_reducible first | exact HB.out | apply ba | apply bd | apply be) | exact HB.out)) hb); clear HO_5; clear HB; have HO_5 := n0_; have HB := n1_; clear n0_ n1_; (try clear hb); (try clear hb2); (try clear hk); (try clear hi)) | ((with_reducible refine gate_builtin (b := .append) (xs := #[.tmp 15, .tmp 19]) rfl ?_); at_builtin; refine Kd.R_append k88 (w0 := w) w.heap.size rfl (.tmp 15) (.tmp 19) 54 88 (.agg #[(.int .i64 0), (.int .i64 0)]) 16 rfl Try.underlying54 info88 rfl (by decide) (by omega) u5 x5_1 (⟨t105, t106⟩ : S88) [.int .i64 t105, .int .i64 t106] (fun _ => True) (fun _ => False) rfl rfl ?aP (fun _ hk => hk.elim) ?aF ?aO ?aB ?aS ?aL ?_; (case aP => exact k88_mkM _ _ _ (⟨t105, t106⟩ : S88)); (case aB => exact (by repeat (first | (with_reducible first | exact HB.out | apply ba | apply bd | apply be) | exact HB.out))); (case aF => exact (fun _ _ => trivial)); (case aO => exact (by (first | exact rp HO_5.out | exact HO_5.out))); (case aS => exact (below_size (by repeat (first | (with_reducible first | exact HB.out | apply ba | apply bd | apply be) | exact HB.out)))); (case aL => have := LMc9.out; omega); intro v108 w11 ho hb hg hat; rw [← Ny107.out] at ho; have n0_ := Aside0.mk (hb); have n1_ := Aside0.mk (ho); clear HB; clear HO_5; have HB := n0_; have HO109 := n1_; clear n0_ n1_; clear ho hb hg hat))
       go_roundg k1
       case measure => have := HK1.out; omega
       case rel => exact ⟨(y107), (wrap64 (x11_1 + 1)), (by first | rfl | (simp; done) | (simp [*]; done)), H', ⟨by have := HK1.out; omega⟩, ⟨by (first | exact rp HO109.out | exact HO109.out)⟩, ⟨by repeat (first | (with_reducible first | exact HB.out | apply ba | apply bd | apply be) | exact HB.out)⟩⟩
      ·rw [if_neg c9] at H
       exact absurd H (by simp)
     ·rw [if_neg c7] at H
      exact absurd H (by simp)
    ·rw [if_neg c6] at H
     exact absurd H (by simp)
   ·rw [if_neg c5] at H
    have c5b0 : decide (x11_1 < (l0.length : Int)) = false := decide_eq_false c5
    clear c5
    obtain rfl := Option.some.inj H
    go_wp2
    go_ret
    exact ⟨_, by first | rfl | (simp <;> rfl) | (simp [*] <;> rfl), by (first | exact rp HO_5.out | exact HO_5.out), by repeat (first | (with_reducible first | exact HB.out | apply ba | apply bd | apply be) | exact HB.out)⟩
mutual
def impl_EvenSetPowers.l0 : Nat → List (List Int) → List Int → List (List Int) → Int → Int → Option ((List (S88)) × Bool)
 | 0, _, _, _, _, _ => none
 | k + 1, x4, x5, x20, x21, x22 => if x22 < x21 then (if 0 ≤ x22 then (if x22 < (x20.length : Int) then (impl_EvenSetPowers.l1 k x4 x5 x20 x21 x22 (rd_L2 x20 x22) ((rd_L2 x20 x22).length : Int) 0) else (none)) else (none)) else ((impl_sharesOf.f k x5 (wrap64 (2520 * (x4.length : Int)))).bind fun t113 => (some (t113, true)))
def impl_EvenSetPowers.l1 : Nat → List (List Int) → List Int → List (List Int) → Int → Int → List Int → Int → Int → Option ((List (S88)) × Bool)
 | 0, _, _, _, _, _, _, _, _ => none
 | k + 1, x4, x5, x20, x21, x22, x26, x27, x28 => if x28 < x27 then (if 0 ≤ x28 then (if x28 < (x26.length : Int) then (if 0 ≤ (rd x26 x28) then (if (rd x26 x28) < (x5.length : Int) then (impl_EvenSetPowers.l1 k x4 (x5.set ((rd x26 x28) : Int).toNat (wrap64 ((rd x5 (rd x26 x28)) + (wrap64 (Int.tdiv 2520 (x26.length : Int)))))) x20 x21 x22 x26 x27 (wrap64 (x28 + 1))) else (none)) else (none)) else (none)) else (none)) else (impl_EvenSetPowers.l0 k x4 x5 x20 x21 (wrap64 (x22 + 1)))
end
def impl_EvenSetPowers.f (k : Nat) (a0_0 : Int) (l0_1 : List Int) : Option ((List (S88)) × Bool) := (impl_IsCommittee.f k a0_0 l0_1).bind fun t102 => (if t102 = true then ((impl_Committee_votes.f k a0_0 l0_1).bind fun bt103 => ((impl_votes_least.f k bt103.1 bt103.2).bind fun t107 => (if 0 ≤ (l0_1.length : Int) then (if ((l0_1.length : Int) : Int).toNat ≤ 35184372088832 then (impl_EvenSetPowers.l0 k t107 (List.replicate ((l0_1.length : Int) : Int).toNat 0) t107 (t107.length : Int) 0) else (none)) else (none)))) else (some (([] : List (S88)), false)))
set_option maxHeartbeats 8000000 in
set_option maxRecDepth 100000 in
theorem impl_EvenSetPowers.calls (k : Nat) (a0_0 : Int) (A0_1 : Option Addr) (c0_1 : Nat) (l0_1 : List Int) (r1 : List (S88)) (r2 : Bool) (w : World) (hr0_1 : Kd.C (Kd.int .i64) w A0_1 l0_1.length l0_1) (hc0_1 : l0_1.length ≤ c0_1) (h : impl_EvenSetPowers.f k a0_0 l0_1 = some (r1, r2)) :
  Calls Try.prog 39 #[.agg #[.int .i64 a0_0, .slice A0_1 l0_1.length c0_1]] w fun e w' => ∃ v0_ : Value, e = .returned (.tuple #[v0_, .bool r2]) ∧ Kd.R k88 88 w' w.heap.size (fun _ => True) v0_ r1 ∧ Below w.heap.size w w' := by
 have hu41 := Try.underlying41
 have HR0_1 := Aside0.mk hr0_1
 have HC0_1 := Aside0.mk hc0_1
 clear hr0_1 hc0_1
 have HB := Aside0.mk (Below.refl w.heap.size w)
 have H : ((impl_IsCommittee.f k a0_0 l0_1).bind fun t102 => (if t102 = true then ((impl_Committee_votes.f k a0_0 l0_1).bind fun bt103 => ((impl_votes_least.f k bt103.1 bt103.2).bind fun t107 => (if 0 ≤ (l0_1.length : Int) then (if ((l0_1.length : Int) : Int).toNat ≤ 35184372088832 then (impl_EvenSetPowers.l0 k t107 (List.replicate ((l0_1.length : Int) : Int).toNat 0) t107 (t107.length : Int) 0) else (none)) else (none)))) else (some (([] : List (S88)), false)))) = some (r1, r2) := h
 clear h
 replace H := oB H
 obtain ⟨t102, A20, H⟩ := H
 replace H : (if t102 = true then ((impl_Committee_votes.f k a0_0 l0_1).bind fun bt103 => ((impl_votes_least.f k bt103.1 bt103.2).bind fun t107 => (if 0 ≤ (l0_1.length : Int) then (if ((l0_1.length : Int) : Int).toNat ≤ 35184372088832 then (impl_EvenSetPowers.l0 k t107 (List.replicate ((l0_1.length : Int) : Int).toNat 0) t107 (t107.length : Int) 0) else (none)) else (none)))) else (some (([] : List (S88)), false))) = some (r1, r2) := H
 have A2 := Aside0.mk A20
 clear A20
 by_cases c3 : t102 = true
 ·subst c3
  have H1 : ((impl_Committee_votes.f k a0_0 l0_1).bind fun bt103 => ((impl_votes_least.f k bt103.1 bt103.2).bind fun t107 => (if 0 ≤ (l0_1.length : Int) then (if ((l0_1.length : Int) : Int).toNat ≤ 35184372088832 then (impl_EvenSetPowers.l0 k t107 (List.replicate ((l0_1.length : Int) : Int).toNat 0) t107 (t107.length : Int) 0) else (none)) else (none)))) = some (r1, r2) := by rw [if_pos rfl] at H; exact H
  clear H
  have H := H1
  clear H1
  replace H := oB H
  obtain ⟨⟨t103, t104⟩, A40, H⟩ := H
  replace H : ((impl_votes_least.f k t103 t104).bind fun t107 => (if 0 ≤ (l0_1.length : Int) then (if ((l0_1.length : Int) : Int).toNat ≤ 35184372088832 then (impl_EvenSetPowers.l0 k t107 (List.replicate ((l0_1.length : Int) : Int).toNat 0) t107 (t107.length : Int) 0) else (none)) else (none))) = some (r1, r2) := H
  have A4 := Aside0.mk A40
  clear A40
  replace H := oB H
  obtain ⟨t107, A50, H⟩ := H
  replace H : (if 0 ≤ (l0_1.length : Int) then (if ((l0_1.length : Int) : Int).toNat ≤ 35184372088832 then (impl_EvenSetPowers.l0 k t107 (List.replicate ((l0_1.length : Int) : Int).toNat 0) t107 (t107.length : Int) 0) else (none)) else (none)) = some (r1, r2) := H
  have A5 := Aside0.mk A50
  clear A50
  by_cases c6 : 0 ≤ (l0_1.length : Int)
  ·rw [if_pos c6] at H
   have c6b0 := eq_true c6
   have c6b1 : decide (0 ≤ (l0_1.length : Int)) = true := decide_eq_true c6
   clear c6
   by_cases c7 : ((l0_1.length : Int) : Int).toNat ≤ 35184372088832
   ·rw [if_pos c7] at H
    have c7b0 := eq_true c7
    have c7b1 : decide (((l0_1.length : Int) : Int).toNat ≤ 35184372088832) = true := decide_eq_true c7
    clear c7
    obtain ⟨y110, hy110⟩ : ∃ y_ : List Int, y_ = (List.replicate ((l0_1.length : Int) : Int).toNat 0) := ⟨_, rfl⟩
    replace H : (impl_EvenSetPowers.l0 k t107 y110 t107 (t107.length : Int) 0) = some (r1, r2) := by first | (rw [hy110]; with_reducible exact H) | (have H2_ := (Option.bind_some _ _).symm.trans H; rw [hy110]; with_reducible exact H2_) | (have H2_ := (Option.bind_some _ _).symm.trans H; with_reducible exact H2_) | with_reducible exact H | (rw [hy110]; exact H) | exact H
    have Ny110 := Aside0.mk hy110
    clear hy110
    have H' := Aside0.mk H
    clear H
    go_enter Try.func39, Try.ntmps39
    go_wp2_with (first | ((with_reducible refine gate_dst (N := 1) rfl ?_); refine box_event ?hg (N := 1) ?hd (cs := #[.int .i64 a0_0, .slice A0_1 l0_1.length c0_1]) (t := 41) ?hr ?_; (case hd => rfl); (case hg => rfl); (case hr => first | (go_simp; done) | (go_simp; rfl)); intro gb101 hg w8 hbox hb; have n0_ := Aside0.mk (below_step (by repeat (first | (with_reducible first | exact HB.out | apply ba | apply bd | apply be) | exact HB.out)) hb); have n1_ := Aside0.mk (hbox); have n2_ := Aside0.mk ((by rw [hg]; exact (below_size (by repeat (first | (with_reducible first | exact HB.out | apply ba | apply bd | apply be) | exact HB.out))) : w.heap.size ≤ gb101)); have n3_ := Aside0.mk ((by rw [hg]; exact (below_size (by repeat (first | (with_reducible first | exact HB.out | apply ba | apply bd | apply be) | exact HB.out))) : w.heap.size ≤ gb101)); clear HB; have HB := n0_; have BK101 := n1_; have GW101 := n2_; have GE101 := n3_; clear n0_ n1_ n2_ n3_; clear hb hbox hg; have hcz9_0 : w8.cell? ⟨gb101, 0, none⟩ = some (.int .i64 a0_0) := (blk_cell BK101.out 0).trans rfl; have hcz9_1 : w8.cell? ⟨gb101, 1, none⟩ = some (.slice A0_1 l0_1.length c0_1) := (blk_cell BK101.out 1).trans rfl; have hfz9_0 := blk_frozen BK101.out 0; have hfz9_1 := blk_frozen BK101.out 1) | ((with_reducible refine gate_callee (f := 73) rfl ?_); refine goesL_ (some 11) rfl rfl Try.func73 (by kernel_rfl) rfl #[.agg #[.int .i64 a0_0, .slice A0_1 l0_1.length c0_1]] rfl (by (try simp only [mA, mC, mN]); first | done | rfl | (simp only [List.length_drop, List.length_take]; rfl)) ?_; (with_reducible refine (impl_IsCommittee.calls k a0_0 _ _ l0_1 true _ ?side1 ?side2 A2.out).mono ?_); (case side1 => repeat (first | exact (Kd.C_below HR0_1.out HB.out) | (with_reducible refine Kd.C_alloc ?_ _) | (with_reducible refine Kd.C_drewN ?_ _) | (with_reducible refine Kd.C_drew ?_))); (case side2 => exact HC0_1.out); rintro e w10 ⟨rfl, hb⟩; refine ⟨_, rfl, ?_⟩; have n0_ := Aside0.mk (blk_below (g := gb101) (o := .cells #[.int .i64 a0_0, .slice A0_1 l0_1.length c0_1] 41 (0, 0)) (by (first | exact bp BK101.out | exact BK101.out)) hb); have n1_ := Aside0.mk (below_step (by repeat (first | (with_reducible first | exact HB.out | apply ba | apply bd | apply be | refine bs ?_ GE101.out) | exact HB.out)) hb); clear BK101; clear HB; have BK101 := n0_; have HB := n1_; clear n0_ n1_; (try clear hb); (try clear hb2); (try clear hk); (try clear hi); have hcz11_0 : w10.cell? ⟨gb101, 0, none⟩ = some (.int .i64 a0_0) := (blk_cell BK101.out 0).trans rfl; have hcz11_1 : w10.cell? ⟨gb101, 1, none⟩ = some (.slice A0_1 l0_1.length c0_1) := (blk_cell BK101.out 1).trans rfl; have hfz11_0 := blk_frozen BK101.out 0; have hfz11_1 := blk_frozen BK101.out 1) | ((with_reducible refine gate_callee (f := 74) rfl ?_); refine goesL_ (some 14) rfl rfl Try.func74 (by kernel_rfl) rfl #[.agg #[.int .i64 a0_0, .slice A0_1 l0_1.length c0_1]] rfl (by (try simp only [mA, mC, mN]); first | done | rfl | (simp only [List.length_drop, List.length_take]; rfl)) ?_; (with_reducible refine (impl_Committee_votes.calls k a0_0 _ _ l0_1 t103 t104 _ ?side1 ?side2 A4.out).mono ?_); (case side1 => repeat (first | exact (Kd.C_below HR0_1.out HB.out) | (with_reducible refine Kd.C_alloc ?_ _) | (with_reducible refine Kd.C_drewN ?_ _) | (with_reducible refine Kd.C_drew ?_))); (case side2 => exact HC0_1.out); rintro e w12 ⟨v105, rfl, ho0, hb⟩; refine ⟨_, rfl, ?_⟩; have n0_ := Aside0.mk (Kd.R_lower ho0 (below_size (by repeat (first | (with_reducible first | exact HB.out | apply ba | apply bd | apply be | refine bs ?_ GE101.out) | exact HB.out)))); have n1_ := Aside0.mk (blk_below (g := gb101) (o := .cells #[.int .i64 a0_0, .slice A0_1 l0_1.length c0_1] 41 (0, 0)) (by (first | exact bp BK101.out | exact BK101.out)) hb); have n2_ := Aside0.mk (below_step (by repeat (first | (with_reducible first | exact HB.out | apply ba | apply bd | apply be | refine bs ?_ GE101.out) | exact HB.out)) hb); clear BK101; clear HB; have HO106 := n0_; have BK101 := n1_; have HB := n2_; clear n0_ n1_ n2_; (try clear hb); (try clear hb2); (try clear hk); (try clear hi); (try clear ho0); obtain ⟨Ao13, co13, eo13⟩ := Kd.R_slice HO106.out; subst eo13) | ((with_reducible refine gate_callee (f := 83) rfl ?_); refine goesL_ (some 15) rfl rfl Try.func83 (by kernel_rfl) rfl #[.agg #[.int .i64 t103, .slice Ao13 t104.length co13]] rfl (by (try simp only [mA, mC, mN]); first | done | rfl | (simp only [List.length_drop, List.length_take]; rfl)) ?_; (with_reducible refine (impl_votes_least.calls k t103 _ _ t104 t107 _ ?side1 ?side2 A5.out).mono ?_); (case side1 => repeat (first | exact (Kd.R_reads' HO106.out).2.2 | (with_reducible refine Kd.C_alloc ?_ _) | (with_reducible refine Kd.C_drewN ?_ _) | (with_reducible refine Kd.C_drew ?_))); (case side2 => exact (Kd.R_reads' HO106.out).2.1); rintro e w14 ⟨v108, rfl, ho0, hb⟩; refine ⟨_, rfl, ?_⟩; have n0_ := Aside0.mk (Kd.R_below (by (first | exact rp HO106.out | exact HO106.out)) hb); have n1_ := Aside0.mk (Kd.S_lower ho0 (below_size (by repeat (first | (with_reducible first | exact HB.out | apply ba | apply bd | apply be | refine bs ?_ GE101.out) | exact HB.out)))); have n2_ := Aside0.mk (blk_below (g := gb101) (o := .cells #[.int .i64 a0_0, .slice A0_1 l0_1.length c0_1] 41 (0, 0)) (by (first | exact bp BK101.out | exact BK101.out)) hb); have n3_ := Aside0.mk (below_step (by repeat (first | (with_reducible first | exact HB.out | apply ba | apply bd | apply be | refine bs ?_ GE101.out) | exact HB.out)) hb); clear HO106; clear BK101; clear HB; have HO106 := n0_; have HO109 := n1_; have BK101 := n2_; have HB := n3_; clear n0_ n1_ n2_ n3_; (try clear hb); (try clear hb2); (try clear hk); (try clear hi); (try clear ho0); have hcz15_0 : w14.cell? ⟨gb101, 0, none⟩ = some (.int .i64 a0_0) := (blk_cell BK101.out 0).trans rfl; have hcz15_1 : w14.cell? ⟨gb101, 1, none⟩ = some (.slice A0_1 l0_1.length c0_1) := (blk_cell BK101.out 1).trans rfl; have hfz15_0 := blk_frozen BK101.out 0; have hfz15_1 := blk_frozen BK101.out 1) | ((with_reducible refine gate_dst (N := 19) rfl ?_); refine Kd.R_make (Kd.int .i64) _ 3 rfl (N := 19) rfl 36 _ _ rfl (l0_1.length : Int) rfl rfl Try.underlying36 (.int .i64 0) 8 info3 rfl (by decide) (by omega) 0 (ok := fun _ => True) (okp := fun _ => True) rfl (fun _ hk => hk) trivial (of_decide_eq_true (by first | (with_reducible assumption) | assumption)) (Nat.le_trans (Nat.mul_le_mul_right _ (of_decide_eq_true (by first | (with_reducible assumption) | assumption) : (l0_1.length : Int).toNat ≤ 35184372088832)) (by omega)) (Below.refl _ _) (Nat.le_refl _) ?_; intro v111 w16 ho17 hb hg_ hnew_; clear hg_ hnew_; (first | rw [← Ny110.out] at ho17 | (simp only [Int.reduceToNat] at ho17; rw [← Ny110.out] at ho17)); have n0_ := Aside0.mk (Kd.R_below (by (first | exact rp HO106.out | exact HO106.out)) hb); have n1_ := Aside0.mk (Kd.S_elder' (by (with_reducible repeat (first | apply Kd.S_alloc | apply Kd.S_drewN | apply Kd.S_drew)); exact HO109.out) (Kd.R_base ho17) hb); have n2_ := Aside0.mk (Kd.R_lower ho17 (below_size (by repeat (first | (with_reducible first | exact HB.out | apply ba | apply bd | apply be | refine bs ?_ GE101.out) | exact HB.out)))); have n3_ := Aside0.mk (blk_below (g := gb101) (o := .cells #[.int .i64 a0_0, .slice A0_1 l0_1.length c0_1] 41 (0, 0)) (by (first | exact bp BK101.out | exact BK101.out)) hb); have n4_ := Aside0.mk (below_step (by repeat (first | (with_reducible first | exact HB.out | apply ba | apply bd | apply be | refine bs ?_ GE101.out) | exact HB.out)) hb); clear HO106; clear HO109; clear BK101; clear HB; have HO106 := n0_; have HO109 := n1_; have HO112 := n2_; have BK101 := n3_; have HB := n4_; clear n0_ n1_ n2_ n3_ n4_; clear hb ho17; obtain ⟨Ao18, co18, eo18⟩ := Kd.S_slice HO109.out; subst eo18))
    go_loopg [22] k (fun kq v22 w' => ∃ (x5_1 : List Int) (x22_1 : Int), v22 = .int .i64 x22_1 ∧ Aside0 (impl_EvenSetPowers.l0 kq t107 x5_1 t107 (t107.length : Int) x22_1 = some (r1, r2)) ∧ Aside0 (kq ≤ k) ∧ Aside0 (Kd.S (Kd.slice 3 (Kd.int .i64)) 36 w' w.heap.size (fun k_ => some k_ ≠ (v111 : Value).ownBlock) (.slice Ao18 t107.length co18) t107) ∧ Aside0 (Kd.R (Kd.int .i64) 3 w' w.heap.size (fun _ => True) v111 x5_1) ∧ Aside0 (Kd.S (Kd.slice 3 (Kd.int .i64)) 36 w' w.heap.size (fun k_ => some k_ ≠ (v111 : Value).ownBlock) (.slice Ao18 t107.length co18) t107) ∧ Aside0 (w'.heap[gb101]? = some (.cells #[.int .i64 a0_0, (.slice A0_1 l0_1.length c0_1)] 41 (0, 0))) ∧ Aside0 (Below w.heap.size w w'))
    case atStart => exact ⟨(y110), (0), (by first | rfl | (simp; done) | (simp [*]; done)), H', ⟨Nat.le_refl _⟩, ⟨by (with_reducible repeat (first | apply Kd.S_alloc | apply Kd.S_drewN | apply Kd.S_drew)); exact Kd.S_mono HO109.out (fun _ hk => hk.2)⟩, ⟨by (first | exact rp HO112.out | exact HO112.out)⟩, ⟨by (with_reducible repeat (first | apply Kd.S_alloc | apply Kd.S_drewN | apply Kd.S_drew)); exact Kd.S_mono HO109.out (fun _ hk => hk.2)⟩, ⟨by (first | exact bp BK101.out | exact BK101.out)⟩, ⟨by repeat (first | (with_reducible first | exact HB.out | apply ba | apply bd | apply be | refine bs ?_ GE101.out) | exact HB.out)⟩⟩
    case round =>
     clear H'
     try clear p2
     try clear c3
     try clear c6
     try clear c6b0
     try clear c6b1
     try clear c7
     try clear c7b0
     try clear c7b1
     try clear c8
     try clear hcz11_0
     try clear hcz11_1
     try clear hcz15_0
     try clear hcz15_1
     try clear hcz9_0
     try clear hcz9_1
     try clear hfz11_0
     try clear hfz11_1
     try clear hfz15_0
     try clear hfz15_1
     try clear hfz9_0
     try clear hfz9_1
     obtain ⟨x5_1, x22_1, rfl, HA, HK1, HO_4, HO_5, HO_20, BK101, HB⟩ := hrel
     cases gk with
     | zero => exact absurd HA.out (by simp [impl_EvenSetPowers.l0])
     | succ k1 =>
      have H := HA.out
      clear HA
      simp only [impl_EvenSetPowers.l0] at H
      by_cases c19 : x22_1 < (t107.length : Int)
      ·rw [if_pos c19] at H
       have c19b0 : decide (x22_1 < (t107.length : Int)) = true := decide_eq_true c19
       clear c19
       by_cases c20 : 0 ≤ x22_1
       ·rw [if_pos c20] at H
        have c20b0 : decide (0 ≤ x22_1) = true := decide_eq_true c20
        clear c20
        by_cases c21 : x22_1 < (t107.length : Int)
        ·rw [if_pos c21] at H
         have c21b0 : decide (x22_1 < (t107.length : Int)) = true := decide_eq_true c21
         clear c21
         have H' := Aside0.mk H
         clear H
         have p116 : 0 ≤ (x22_1 : Int) := of_decide_eq_true (by first | (with_reducible assumption) | assumption)
         have q116 : x22_1 < (t107.length : Int) := of_decide_eq_true (by first | (with_reducible assumption) | assumption)
         obtain ⟨ad116, A116_0, c116_0, e116, hx116_0, hl116_0, hi116_0⟩ := at_L2 (Kd.S_reads' HO_20.out).2.2 x22_1 p116 q116
         cases e116
         obtain ⟨ce116, hce116, hMe116, hcc116⟩ := Kd.S_get HO_20.out [] x22_1 p116 (by first | exact q116 | exact of_decide_eq_true (by first | (with_reducible assumption) | assumption) | (have e_ := (Kd.S_reads' HO_20.out).1; omega))
         obtain ⟨ve116_0, rfl, ge116_0⟩ := hMe116
         have hv116_0 := hcc116 0 _ rfl
         rw [Nat.add_zero, show ((Kd.slice 3 (Kd.int .i64))).sz = 1 from rfl, Nat.mul_one] at hv116_0
         replace hv116_0 := Option.some.inj (hv116_0.symm.trans hx116_0)
         rw [hv116_0] at ge116_0
         have HL116_0 := Aside0.mk (show Kd.R (Kd.int .i64) 3 _ _ _ _ (rd_L2 t107 x22_1) from ge116_0)
         clear hv116_0 ge116_0
         clear hcc116 hce116
         have HR116_0 := Aside0.mk hi116_0
         have HC116_0 := Aside0.mk hl116_0
         clear hi116_0 hl116_0
         replace p116 := eq_true p116
         replace q116 := eq_true q116
         go_wp2
         go_loopg [28] k1 (fun kq v28 w' => ∃ (x5_2 : List Int) (x28_2 : Int), v28 = .int .i64 x28_2 ∧ Aside0 (impl_EvenSetPowers.l1 kq t107 x5_2 t107 (t107.length : Int) x22_1 (rd_L2 t107 x22_1) ((rd_L2 t107 x22_1).length : Int) x28_2 = some (r1, r2)) ∧ Aside0 (kq ≤ k1) ∧ Aside0 (Kd.S (Kd.slice 3 (Kd.int .i64)) 36 w' w.heap.size (fun k_ => some k_ ≠ (v111 : Value).ownBlock) (.slice (some ad116) t107.length co18) t107) ∧ Aside0 (Kd.R (Kd.int .i64) 3 w' w.heap.size (fun _ => True) v111 x5_2) ∧ Aside0 (Kd.S (Kd.slice 3 (Kd.int .i64)) 36 w' w.heap.size (fun k_ => some k_ ≠ (v111 : Value).ownBlock) (.slice (some ad116) t107.length co18) t107) ∧ Aside0 (Kd.R (Kd.int .i64) 3 w' w.heap.size (fun k_ => some k_ ≠ (v111 : Value).ownBlock) (.slice A116_0 (rd_L2 t107 x22_1).length c116_0) (rd_L2 t107 x22_1)) ∧ Aside0 (w'.heap[gb101]? = some (.cells #[.int .i64 a0_0, (.slice A0_1 l0_1.length c0_1)] 41 (0, 0))) ∧ Aside0 (Below w.heap.size w w'))
         case atStart => exact ⟨(x5_1), (0), (by first | rfl | (simp; done) | (simp [*]; done)), H', ⟨Nat.le_refl _⟩, ⟨by (with_reducible repeat (first | apply Kd.S_alloc | apply Kd.S_drewN | apply Kd.S_drew)); exact HO_4.out⟩, ⟨by (first | exact rp HO_5.out | exact HO_5.out)⟩, ⟨by (with_reducible repeat (first | apply Kd.S_alloc | apply Kd.S_drewN | apply Kd.S_drew)); exact HO_20.out⟩, ⟨by (try refine rp ?_); exact Kd.R_mono HL116_0.out (fun _ hk => hk.1)⟩, ⟨by (first | exact bp BK101.out | exact BK101.out)⟩, ⟨by repeat (first | (with_reducible first | exact HB.out | apply ba | apply bd | apply be | refine bs ?_ GE101.out) | exact HB.out)⟩⟩
         case round =>
          clear H'
          try clear c1
          try clear p1
          try clear q1
          try clear hx1
          try clear c2
          try clear p2
          try clear c3
          try clear c6
          try clear c6b0
          try clear c6b1
          try clear c7
          try clear c7b0
          try clear c7b1
          try clear c8
          try clear c11
          try clear p11
          try clear q11
          try clear hx11
          try clear c19
          try clear c19b0
          try clear c20
          try clear c20b0
          try clear c21
          try clear c21b0
          try clear hcz11_0
          try clear hcz11_1
          try clear hcz15_0
          try clear hcz15_1
          try clear hcz9_0
          try clear hcz9_1
          try clear hfz11_0
          try clear hfz11_1
          try clear hfz15_0
          try clear hfz15_1
          try clear hfz9_0
          try clear hfz9_1
          try clear hx116_0
          try clear p116
          try clear p2
          try clear q116
          obtain ⟨x5_2, x28_2, rfl, HA, HK2, HO_4, HO_5, HO_20, HLI, BK101, HB⟩ := hrel
          cases gk with
          | zero => exact absurd HA.out (by simp [impl_EvenSetPowers.l1])
          | succ k2 =>
           have H := HA.out
           clear HA
           simp only [impl_EvenSetPowers.l1] at H
           by_cases c22 : x28_2 < ((rd_L2 t107 x22_1).length : Int)
           ·rw [if_pos c22] at H
            have c22b0 : decide (x28_2 < ((rd_L2 t107 x22_1).length : Int)) = true := decide_eq_true c22
            clear c22
            by_cases c23 : 0 ≤ x28_2
            ·rw [if_pos c23] at H
             have c23b0 : decide (0 ≤ x28_2) = true := decide_eq_true c23
             clear c23
             by_cases c24 : x28_2 < ((rd_L2 t107 x22_1).length : Int)
             ·rw [if_pos c24] at H
              have c24b0 : decide (x28_2 < ((rd_L2 t107 x22_1).length : Int)) = true := decide_eq_true c24
              clear c24
              by_cases c25 : 0 ≤ (rd (rd_L2 t107 x22_1) x28_2)
              ·rw [if_pos c25] at H
               have c25b0 : decide (0 ≤ (rd (rd_L2 t107 x22_1) x28_2)) = true := decide_eq_true c25
               clear c25
               by_cases c26 : (rd (rd_L2 t107 x22_1) x28_2) < (x5_2.length : Int)
               ·rw [if_pos c26] at H
                have c26b0 : decide ((rd (rd_L2 t107 x22_1) x28_2) < (x5_2.length : Int)) = true := decide_eq_true c26
                clear c26
                obtain ⟨y119, hy119⟩ : ∃ y_ : List Int, y_ = (x5_2.set ((rd (rd_L2 t107 x22_1) x28_2) : Int).toNat (wrap64 ((rd x5_2 (rd (rd_L2 t107 x22_1) x28_2)) + (wrap64 (Int.tdiv 2520 ((rd_L2 t107 x22_1).length : Int)))))) := ⟨_, rfl⟩
                replace H : (impl_EvenSetPowers.l1 k2 t107 y119 t107 (t107.length : Int) x22_1 (rd_L2 t107 x22_1) ((rd_L2 t107 x22_1).length : Int) (wrap64 (x28_2 + 1))) = some (r1, r2) := by first | (rw [hy119]; with_reducible exact H) | (have H2_ := (Option.bind_some _ _).symm.trans H; rw [hy119]; with_reducible exact H2_) | (have H2_ := (Option.bind_some _ _).symm.trans H; with_reducible exact H2_) | with_reducible exact H | (rw [hy119]; exact H) | exact H
                have Ny119 := Aside0.mk hy119
                clear hy119
                have H' := Aside0.mk H
                clear H
                have p117 : 0 ≤ (x28_2 : Int) := of_decide_eq_true (by first | (with_reducible assumption) | assumption)
                have q117 : x28_2 < ((rd_L2 t107 x22_1).length : Int) := of_decide_eq_true (by first | (with_reducible assumption) | assumption)
                obtain ⟨ad117, e117, hx117_0⟩ := Kd.at_int (Kd.R_reads' HLI.out).2.2 x28_2 p117 q117
                cases e117
                skip
                replace p117 := eq_true p117
                replace q117 := eq_true q117
                obtain ⟨Ao28, co28, eo28⟩ := Kd.R_slice HO_5.out
                subst eo28
                have p118 : 0 ≤ ((rd (rd_L2 t107 x22_1) x28_2) : Int) := of_decide_eq_true (by first | (with_reducible assumption) | assumption)
                have q118 : (rd (rd_L2 t107 x22_1) x28_2) < (x5_2.length : Int) := of_decide_eq_true (by first | (with_reducible assumption) | assumption)
                obtain ⟨ad118, e118, hx118_0⟩ := Kd.at_int (Kd.R_reads' HO_5.out).2.2 (rd (rd_L2 t107 x22_1) x28_2) p118 q118
                cases e118
                replace p118 := eq_true p118
                replace q118 := eq_true q118
                have p27 : 0 ≤ ((rd (rd_L2 t107 x22_1) x28_2) : Int) := of_decide_eq_true (by first | (with_reducible assumption) | assumption)
                have q27 : ((rd (rd_L2 t107 x22_1) x28_2) : Int) < ((x5_2.length : Int) : Int) := of_decide_eq_true (by first | (with_reducible assumption) | assumption)
                obtain ⟨go27, co27, eo27, gb27, gl27, cl27, HG27⟩ := Kd.R_form HO_5.out (by omega)
                (first | cases eo27 | (injection eo27 with ea_ en_ ec_; (first | subst ea_ | (injection ea_ with ea_; subst ea_)); subst ec_; clear en_))
                have GB27 := Aside0.mk gb27
                have GG27 := Aside0.mk HG27
                clear gb27 gl27 HG27
                (first | simp only [add_plain] at hx118_0 | skip)
                obtain ⟨hx27_0, hf27_0⟩ := Kd.R_celln 0 HO_5.out ((rd (rd_L2 t107 x22_1) x28_2) : Int) p27 q27
                replace p27 := eq_true p27
                replace q27 := eq_true q27
                have HP29 := Kd.R_putg HO_5.out ((rd (rd_L2 t107 x22_1) x28_2) : Int) (wrap64 ((rd x5_2 (rd (rd_L2 t107 x22_1) x28_2)) + (wrap64 (Int.tdiv 2520 ((rd_L2 t107 x22_1).length : Int)))))
                have hne_ : ((rd_L2 t107 x22_1) = []) = False := eq_false (by intro e_; have h1_ : 0 ≤ x28_2 := of_decide_eq_true (by assumption); have h2_ : x28_2 < ((rd_L2 t107 x22_1).length : Int) := of_decide_eq_true (by assumption); rw [e_] at h2_; simp only [List.length_nil] at h2_; omega)
                go_wp2
                go_region
                obtain ⟨w30, hw⟩ : ∃ w_ : World, w_ = (wr.setCell ⟨go27, ((rd (rd_L2 t107 x22_1) x28_2) : Int).toNat, none⟩ (.int .i64 (wrap64 ((rd x5_2 (rd (rd_L2 t107 x22_1) x28_2)) + (wrap64 (Int.tdiv 2520 ((rd_L2 t107 x22_1).length : Int))))))) := ⟨_, rfl⟩
                rw [← hw]
                have hg : wr.grownBy w30 (some go27) := (by rw [hw]; exact HP29.2)
                have hp_ : Kd.R (Kd.int .i64) 3 w30 w.heap.size (fun _ => True) (.slice (some ⟨go27, 0, none⟩) x5_2.length co28) y119 := (by rw [hw, Ny119.out]; exact HP29.1)
                clear HP29
                have n0_ := Aside0.mk (Kd.S_after (v := (.slice (some ⟨go27, 0, none⟩) x5_2.length co28)) (v1 := (.slice (some ⟨go27, 0, none⟩) x5_2.length co28)) (ok := (fun _ => True)) (by (with_reducible repeat (first | apply Kd.S_alloc | apply Kd.S_drewN | apply Kd.S_drew)); exact Kd.S_mono HO_4.out (fun _ hk => ⟨trivial, hk⟩)) hg (.inl rfl))
                have n1_ := Aside0.mk (hp_)
                have n2_ := Aside0.mk (Kd.S_after (v := (.slice (some ⟨go27, 0, none⟩) x5_2.length co28)) (v1 := (.slice (some ⟨go27, 0, none⟩) x5_2.length co28)) (ok := (fun _ => True)) (by (with_reducible repeat (first | apply Kd.S_alloc | apply Kd.S_drewN | apply Kd.S_drew)); exact Kd.S_mono HO_20.out (fun _ hk => ⟨trivial, hk⟩)) hg (.inl rfl))
                have n3_ := Aside0.mk (blk_grown (g := gb101) (o := .cells #[.int .i64 a0_0, .slice A0_1 l0_1.length c0_1] 41 (0, 0)) (by (first | exact bp BK101.out | exact BK101.out)) hg (Kd.R_ne HO_5.out BK101.out (by decide)))
                have n4_ := Aside0.mk ((by rw [hw]; exact below_set (HB.out) GB27.out : Below w.heap.size w w30))
                have nL_ := Aside0.mk (Kd.R_after (v := (.slice (some ⟨go27, 0, none⟩) x5_2.length co28)) (v1 := (.slice (some ⟨go27, 0, none⟩) x5_2.length co28)) (ok := (fun _ => True)) (by (try refine rp ?_); exact Kd.R_mono HLI.out (fun _ hk => ⟨trivial, hk⟩)) hg (.inl rfl))
                clear HLI; have HLI := nL_
                clear nL_
                clear HO_4
                clear HO_5
                clear HO_20
                clear BK101
                clear HB; have HO_4 := n0_; have HO_5 := n1_; have HO_20 := n2_; have BK101 := n3_; have HB := n4_
                clear n0_ n1_ n2_ n3_ n4_
                clear hg hw hp_
                go_wp2
                go_roundg k2
                case measure => have := HK1.out; have := HK2.out; omega
                case rel => exact ⟨(y119), (wrap64 (x28_2 + 1)), (by first | rfl | (simp; done) | (simp [*]; done)), H', ⟨by have := HK1.out; have := HK2.out; omega⟩, ⟨by (with_reducible repeat (first | apply Kd.S_alloc | apply Kd.S_drewN | apply Kd.S_drew)); exact Kd.S_mono HO_4.out (fun _ hk => hk.2)⟩, ⟨by (first | exact rp HO_5.out | exact HO_5.out)⟩, ⟨by (with_reducible repeat (first | apply Kd.S_alloc | apply Kd.S_drewN | apply Kd.S_drew)); exact Kd.S_mono HO_20.out (fun _ hk => hk.2)⟩, ⟨Kd.R_mono HLI.out (fun _ hk => hk.2)⟩, ⟨by (first | exact bp BK101.out | exact BK101.out)⟩, ⟨by repeat (first | (with_reducible first | exact HB.out | apply ba | apply bd | apply be | refine bs ?_ GE101.out) | exact HB.out)⟩⟩
               ·rw [if_neg c26] at H
                exact absurd H (by simp)
              ·rw [if_neg c25] at H
               exact absurd H (by simp)
             ·rw [if_neg c24] at H
              exact absurd H (by simp)
            ·rw [if_neg c23] at H
             exact absurd H (by simp)
           ·rw [if_neg c22] at H
            have c22b0 : decide (x28_2 < ((rd_L2 t107 x22_1).length : Int)) = false := decide_eq_false c22
            clear c22
            have H' := Aside0.mk H
            clear H
            go_wp2
            go_roundg k2
            case measure => have := HK1.out; have := HK2.out; omega
            case rel => exact ⟨(x5_2), (wrap64 (x22_1 + 1)), (by first | rfl | (simp; done) | (simp [*]; done)), H', ⟨by have := HK1.out; have := HK2.out; omega⟩, ⟨by (with_reducible repeat (first | apply Kd.S_alloc | apply Kd.S_drewN | apply Kd.S_drew)); exact HO_4.out⟩, ⟨by (first | exact rp HO_5.out | exact HO_5.out)⟩, ⟨by (with_reducible repeat (first | apply Kd.S_alloc | apply Kd.S_drewN | apply Kd.S_drew)); exact HO_20.out⟩, ⟨by (first | exact bp BK101.out | exact BK101.out)⟩, ⟨by repeat (first | (with_reducible first | exact HB.out | apply ba | apply bd | apply be | refine bs ?_ GE101.out) | exact HB.out)⟩⟩
        ·rw [if_neg c21] at H
         exact absurd H (by simp)
       ·rw [if_neg c20] at H
        exact absurd H (by simp)
      ·rw [if_neg c19] at H
       have c19b0 : decide (x22_1 < (t107.length : Int)) = false := decide_eq_false c19
       clear c19
       replace H := oB H
       obtain ⟨t113, A310, H⟩ := H
       replace H : (some (t113, true)) = some (r1, r2) := H
       have A31 := Aside0.mk A310
       clear A310
       simp only [Option.some.injEq, Prod.mk.injEq] at H
       obtain ⟨rfl, rfl⟩ := H
       obtain ⟨Ao32, co32, eo32⟩ := Kd.R_slice HO_5.out
       subst eo32
       go_wp2_with (first | ((with_reducible refine gate_callee (f := 84) rfl ?_); refine goesL_ (some 47) rfl rfl Try.func84 (by kernel_rfl) rfl #[.slice Ao32 x5_1.length co32, .int .i64 (wrap64 (2520 * (t107.length : Int)))] rfl (by (try simp only [mA, mC, mN]); first | done | rfl | (simp only [List.length_drop, List.length_take]; rfl)) ?_; (with_reducible refine (impl_sharesOf.calls k1 _ _ x5_1 (wrap64 (2520 * (t107.length : Int))) t113 _ ?side1 ?side2 A31.out).mono ?_); (case side1 => repeat (first | exact (Kd.R_reads' HO_5.out).2.2 | (with_reducible refine Kd.C_alloc ?_ _) | (with_reducible refine Kd.C_drewN ?_ _) | (with_reducible refine Kd.C_drew ?_))); (case side2 => exact (Kd.R_reads' HO_5.out).2.1); rintro e w33 ⟨v114, rfl, ho0, hb⟩; refine ⟨_, rfl, ?_⟩; have n0_ := Aside0.mk (Kd.S_below (by (with_reducible repeat (first | apply Kd.S_alloc | apply Kd.S_drewN | apply Kd.S_drew)); exact HO_4.out) hb); have n1_ := Aside0.mk (Kd.R_below (by (first | exact rp HO_5.out | exact HO_5.out)) hb); have n2_ := Aside0.mk (Kd.S_below (by (with_reducible repeat (first | apply Kd.S_alloc | apply Kd.S_drewN | apply Kd.S_drew)); exact HO_20.out) hb); have n3_ := Aside0.mk (Kd.R_lower ho0 (below_size (by repeat (first | (with_reducible first | exact HB.out | apply ba | apply bd | apply be | refine bs ?_ GE101.out) | exact HB.out)))); have n4_ := Aside0.mk (blk_below (g := gb101) (o := .cells #[.int .i64 a0_0, .slice A0_1 l0_1.length c0_1] 41 (0, 0)) (by (first | exact bp BK101.out | exact BK101.out)) hb); have n5_ := Aside0.mk (below_step (by repeat (first | (with_reducible first | exact HB.out | apply ba | apply bd | apply be | refine bs ?_ GE101.out) | exact HB.out)) hb); clear HO_4; clear HO_5; clear HO_20; clear BK101; clear HB; have HO_4 := n0_; have HO_5 := n1_; have HO_20 := n2_; have HO115 := n3_; have BK101 := n4_; have HB := n5_; clear n0_ n1_ n2_ n3_ n4_ n5_; (try clear hb); (try clear hb2); (try clear hk); (try clear hi); (try clear ho0)))
       go_ret2
       exact ⟨_, by first | rfl | (simp <;> rfl) | (simp [*] <;> rfl), by (first | exact rp HO115.out | exact HO115.out), by repeat (first | (with_reducible first | exact HB.out | apply ba | apply bd | apply be | refine bs ?_ GE101.out) | exact HB.out)⟩
   ·rw [if_neg c7] at H
    exact absurd H (by simp)
  ·rw [if_neg c6] at H
   exact absurd H (by simp)
 ·replace c3 := Bool.eq_false_iff.mpr c3
  subst c3
  have H1 : (some (([] : List (S88)), false)) = some (r1, r2) := by rw [if_neg (show ¬ (false = true) by decide)] at H; exact H
  clear H
  have H := H1
  clear H1
  simp only [Option.some.injEq, Prod.mk.injEq] at H
  obtain ⟨rfl, rfl⟩ := H
  go_enter Try.func39, Try.ntmps39
  go_wp2_with (first | ((with_reducible refine gate_dst (N := 1) rfl ?_); refine box_event ?hg (N := 1) ?hd (cs := #[.int .i64 a0_0, .slice A0_1 l0_1.length c0_1]) (t := 41) ?hr ?_; (case hd => rfl); (case hg => rfl); (case hr => first | (go_simp; done) | (go_simp; rfl)); intro gb101 hg w34 hbox hb; have n0_ := Aside0.mk (below_step (by repeat (first | (with_reducible first | exact HB.out | apply ba | apply bd | apply be) | exact HB.out)) hb); have n1_ := Aside0.mk (hbox); have n2_ := Aside0.mk ((by rw [hg]; exact (below_size (by repeat (first | (with_reducible first | exact HB.out | apply ba | apply bd | apply be) | exact HB.out))) : w.heap.size ≤ gb101)); have n3_ := Aside0.mk ((by rw [hg]; exact (below_size (by repeat (first | (with_reducible first | exact HB.out | apply ba | apply bd | apply be) | exact HB.out))) : w.heap.size ≤ gb101)); clear HB; have HB := n0_; have BK101 := n1_; have GW101 := n2_; have GE101 := n3_; clear n0_ n1_ n2_ n3_; clear hb hbox hg; have hcz35_0 : w34.cell? ⟨gb101, 0, none⟩ = some (.int .i64 a0_0) := (blk_cell BK101.out 0).trans rfl; have hcz35_1 : w34.cell? ⟨gb101, 1, none⟩ = some (.slice A0_1 l0_1.length c0_1) := (blk_cell BK101.out 1).trans rfl; have hfz35_0 := blk_frozen BK101.out 0; have hfz35_1 := blk_frozen BK101.out 1) | ((with_reducible refine gate_callee (f := 73) rfl ?_); refine goesL_ (some 11) rfl rfl Try.func73 (by kernel_rfl) rfl #[.agg #[.int .i64 a0_0, .slice A0_1 l0_1.length c0_1]] rfl (by (try simp only [mA, mC, mN]); first | done | rfl | (simp only [List.length_drop, List.length_take]; rfl)) ?_; (with_reducible refine (impl_IsCommittee.calls k a0_0 _ _ l0_1 false _ ?side1 ?side2 A2.out).mono ?_); (case side1 => repeat (first | exact (Kd.C_below HR0_1.out HB.out) | (with_reducible refine Kd.C_alloc ?_ _) | (with_reducible refine Kd.C_drewN ?_ _) | (with_reducible refine Kd.C_drew ?_))); (case side2 => exact HC0_1.out); rintro e w36 ⟨rfl, hb⟩; refine ⟨_, rfl, ?_⟩; have n0_ := Aside0.mk (blk_below (g := gb101) (o := .cells #[.int .i64 a0_0, .slice A0_1 l0_1.length c0_1] 41 (0, 0)) (by (first | exact bp BK101.out | exact BK101.out)) hb); have n1_ := Aside0.mk (below_step (by repeat (first | (with_reducible first | exact HB.out | apply ba | apply bd | apply be | refine bs ?_ GE101.out) | exact HB.out)) hb); clear BK101; clear HB; have BK101 := n0_; have HB := n1_; clear n0_ n1_; (try clear hb); (try clear hb2); (try clear hk); (try clear hi)))
  go_ret2
  exact ⟨_, by first | rfl | (simp <;> rfl) | (simp [*] <;> rfl), by first | exact Kd.R_nil _ _ _ _ _ | exact Kd.N_nil _ _ _ _ _ | exact Kd.V_nil _ _ _ _ _ | exact Kd.Q_nil _ _ _ _ _ | exact Kd.S_nil _ _ _ _ _, by repeat (first | (with_reducible first | exact HB.out | apply ba | apply bd | apply be | refine bs ?_ GE101.out) | exact HB.out)⟩
def laws_FnExactEvenSetPowers.f (k : Nat) (a0_0 : Int) (l0_1 : List Int) : Option Bool :=
 (laws_szCommittee.f a0_0 l0_1 1048576).bind fun t0 => if t0 < 0 then some true else
 (laws_toCommittee.f k a0_0 l0_1).bind fun x0 => (spec_EvenSetPowers.f k x0.1 x0.2).bind fun s => (impl_EvenSetPowers.f k x0.1 x0.2).bind fun g => (laws_eqShareS.f k g.1 s.1).bind fun e => (laws_eqCommittee.f k x0.1 x0.2 x0.1 x0.2).bind fun e0 => (laws_markCommittee.f k x0.1 x0.2 1).bind fun m0 => (laws_markShareS.f k g.1 1).bind fun mm => (laws_heldShareS.f k mm.2 1).bind fun hh =>
 if e = true ∧ g.2 = s.2 ∧ e0 = true ∧ ¬ m0.1 < 0 ∧ ¬ hh < 0 ∧ hh = mm.1 then some true else none
set_option maxHeartbeats 8000000 in
set_option maxRecDepth 100000 in
theorem laws_FnExactEvenSetPowers.calls (k : Nat) (a0_0 : Int) (A0_1 : Option Addr) (c0_1 : Nat) (l0_1 : List Int) (r : Bool) (w : World) (hr0_1 : Kd.C (Kd.int .i64) w A0_1 l0_1.length l0_1) (hc0_1 : l0_1.length ≤ c0_1) (h : laws_FnExactEvenSetPowers.f k a0_0 l0_1 = some r) :
  Calls Try.prog 7 #[.agg #[.int .i64 a0_0, .slice A0_1 l0_1.length c0_1]] w fun e w' => e = .returned (.bool r) ∧ Below w.heap.size w w' := by
 have huAC := Try.underlying38
 have huIC := Try.underlying41
 have HR0_1 := Aside0.mk hr0_1
 have HC0_1 := Aside0.mk hc0_1
 have HB := Aside0.mk (show Below w.heap.size w (w.alloc (.cells #[.int .i64 a0_0, .slice A0_1 l0_1.length c0_1] 38)) from below_alloc (Below.refl _ _) _)
 have BKA0 := Aside0.mk (blk_new w (.cells #[.int .i64 a0_0, .slice A0_1 l0_1.length c0_1] 38))
 clear hr0_1 hc0_1
 simp only [laws_FnExactEvenSetPowers.f] at h
 obtain ⟨t0, ht0, h⟩ := oB h
 have HT0 := Aside0.mk ht0
 clear ht0
 by_cases z0 : t0 < 0
 ·rw [if_pos z0] at h
  obtain rfl := Option.some.inj h
  have z0b : decide (t0 < 0) = true := decide_eq_true z0
  clear z0 h
  go_enter Try.func7, Try.ntmps7
  go_wp2_with fail
  refine (laws_szCommittee.calls a0_0 A0_1 c0_1 l0_1 1048576 t0 _ (Kd.C_below HR0_1.out HB.out) HC0_1.out HT0.out).mono ?_
  rintro e w1 ⟨rfl, hb⟩
  have OD0 := Aside0.mk (show w.heap.size + 1 ≤ w1.heap.size from by have h_ := hb.size; (try simp at h_); omega)
  replace HB := Aside0.mk (HB.out.trans (hb.mono HB.out.size))
  replace BKA0 := Aside0.mk (blk_below BKA0.out hb)
  clear hb
  go_wp2
  go_ret
  exact ⟨rfl, HB.out⟩
 rw [if_neg z0] at h
 have z0b : decide (t0 < 0) = false := decide_eq_false z0
 clear z0
 obtain ⟨⟨q0, y0⟩, hA0, h⟩ := oB h
 obtain ⟨⟨s, sb⟩, hS, h⟩ := oB h
 obtain ⟨⟨g, gb⟩, hG, h⟩ := oB h
 obtain ⟨e, hE, h⟩ := oB h
 obtain ⟨e0, hE0, h⟩ := oB h
 obtain ⟨⟨k0, u0⟩, hM0, h⟩ := oB h
 obtain ⟨⟨mm, vv⟩, hMM, h⟩ := oB h
 obtain ⟨hh, hH, h⟩ := oB h
 by_cases hc : e = true ∧ gb = sb ∧ e0 = true ∧ ¬ k0 < 0 ∧ ¬ hh < 0 ∧ hh = mm
 case neg => rw [if_neg hc] at h; cases h
 rw [if_pos hc] at h
 obtain rfl := Option.some.inj h
 obtain ⟨rfl, rfl, rfl, d1, d2, rfl⟩ := hc
 have d1b : decide (k0 < 0) = false := decide_eq_false d1
 have d2b : decide (hh < 0) = false := decide_eq_false d2
 have FA0 : Aside0 (laws_toCommittee.f k a0_0 l0_1 = some (q0, y0)) := ⟨hA0⟩
 have FS : Aside0 (spec_EvenSetPowers.f k q0 y0 = some (s, gb)) := ⟨hS⟩
 have FG : Aside0 (impl_EvenSetPowers.f k q0 y0 = some (g, gb)) := ⟨hG⟩
 have FE : Aside0 (laws_eqShareS.f k g s = some true) := ⟨hE⟩
 have FE0 : Aside0 (laws_eqCommittee.f k q0 y0 q0 y0 = some true) := ⟨hE0⟩
 have FM0 : Aside0 (laws_markCommittee.f k q0 y0 1 = some (k0, u0)) := ⟨hM0⟩
 have FMM : Aside0 (laws_markShareS.f k g 1 = some (hh, vv)) := ⟨hMM⟩
 have FH : Aside0 (laws_heldShareS.f k vv 1 = some hh) := ⟨hH⟩
 clear h hS hG hE hMM hH d1 d2 hA0 hE0 hM0
 go_enter Try.func7, Try.ntmps7
 go_wp2_with fail
 refine (laws_szCommittee.calls a0_0 A0_1 c0_1 l0_1 1048576 t0 _ (Kd.C_below HR0_1.out HB.out) HC0_1.out HT0.out).mono ?_
 rintro e w1 ⟨rfl, hb⟩
 have OD0 := Aside0.mk (show w.heap.size + 1 ≤ w1.heap.size from by have h_ := hb.size; (try simp at h_); omega)
 replace HB := Aside0.mk (HB.out.trans (hb.mono HB.out.size))
 replace BKA0 := Aside0.mk (blk_below BKA0.out hb)
 clear hb
 have ha0_0 := (blk_cell BKA0.out 0).trans rfl
 have ha0_1 := (blk_cell BKA0.out 1).trans rfl
 go_wp2_with fail
 refine (laws_toCommittee.calls k a0_0 A0_1 c0_1 l0_1 q0 y0 _ (Kd.C_below HR0_1.out HB.out) HC0_1.out FA0.out).mono ?_
 rintro e w2 ⟨up0, rfl, hO, hb⟩
 clear ha0_0 ha0_1
 have OD1 := Aside0.mk (show w1.heap.size ≤ w2.heap.size from by have h_ := hb.size; (try simp at h_); omega)
 obtain ⟨Ap0, cp0, rfl⟩ := Kd.R_slice hO
 have h0_ := Kd.R_bound hO
 have NEW_ := Aside0.mk (Kd.R_mono (ok' := fun k_ => w1.heap.size ≤ k_ ∧ k_ < w2.heap.size) (Kd.R_lower h0_ HB.out.size) (fun k_ hk_ => ⟨by have h1_ := hk_.2.1; (try simp at h1_); omega, hk_.2.2.1⟩))
 clear h0_
 replace HB := Aside0.mk (HB.out.trans (hb.mono HB.out.size))
 replace BKA0 := Aside0.mk (blk_below BKA0.out hb)
 clear hb hO
 have Op0 := NEW_
 clear NEW_
 go_wp2_with fail
 refine (spec_EvenSetPowers.calls k q0 Ap0 cp0 y0 s gb _ (Kd.R_reads' Op0.out).2.2 (Kd.R_reads' Op0.out).2.1 FS.out).mono ?_
 rintro e w3 ⟨us, rfl, hO, hb⟩
 have OD2 := Aside0.mk (show w2.heap.size ≤ w3.heap.size from by have h_ := hb.size; (try simp at h_); omega)
 obtain ⟨As, cs, rfl⟩ := Kd.R_slice hO
 have h0_ := Kd.R_bound hO
 have NEW_ := Aside0.mk (Kd.R_mono (ok' := fun k_ => w2.heap.size ≤ k_ ∧ k_ < w3.heap.size) (Kd.R_lower h0_ HB.out.size) (fun k_ hk_ => ⟨by have h1_ := hk_.2.1; (try simp at h1_); omega, hk_.2.2.1⟩))
 clear h0_
 replace HB := Aside0.mk (HB.out.trans (hb.mono HB.out.size))
 replace BKA0 := Aside0.mk (blk_below BKA0.out hb)
 replace Op0 := Aside0.mk (Kd.R_below Op0.out hb)
 clear hb hO
 have Os := NEW_
 clear NEW_
 clear Op0
 have ha0_0 := (blk_cell BKA0.out 0).trans rfl
 have ha0_1 := (blk_cell BKA0.out 1).trans rfl
 go_wp2_with fail
 refine (laws_toCommittee.calls k a0_0 A0_1 c0_1 l0_1 q0 y0 _ (Kd.C_below HR0_1.out HB.out) HC0_1.out FA0.out).mono ?_
 rintro e w4 ⟨ux0, rfl, hO, hb⟩
 clear ha0_0 ha0_1
 have OD3 := Aside0.mk (show w3.heap.size ≤ w4.heap.size from by have h_ := hb.size; (try simp at h_); omega)
 obtain ⟨Ax0, cx0, rfl⟩ := Kd.R_slice hO
 have h0_ := Kd.R_bound hO
 have NEW_ := Aside0.mk (Kd.R_mono (ok' := fun k_ => w3.heap.size ≤ k_ ∧ k_ < w4.heap.size) (Kd.R_lower h0_ HB.out.size) (fun k_ hk_ => ⟨by have h1_ := hk_.2.1; (try simp at h1_); omega, hk_.2.2.1⟩))
 clear h0_
 replace HB := Aside0.mk (HB.out.trans (hb.mono HB.out.size))
 replace BKA0 := Aside0.mk (blk_below BKA0.out hb)
 replace Os := Aside0.mk (Kd.R_below Os.out hb)
 clear hb hO
 have Ox0 := NEW_
 clear NEW_
 have NB_ := Aside0.mk (blk_new w4 (.cells #[.int .i64 q0, .slice Ax0 y0.length cx0] 41))
 replace HB := Aside0.mk (below_alloc HB.out (.cells #[.int .i64 q0, .slice Ax0 y0.length cx0] 41))
 replace BKA0 := Aside0.mk (blk_alloc BKA0.out (.cells #[.int .i64 q0, .slice Ax0 y0.length cx0] 41))
 replace Os := Aside0.mk (Kd.R_alloc Os.out (.cells #[.int .i64 q0, .slice Ax0 y0.length cx0] 41))
 replace Ox0 := Aside0.mk (Kd.R_alloc Ox0.out (.cells #[.int .i64 q0, .slice Ax0 y0.length cx0] 41))
 have BKx0 := NB_
 clear NB_
 have hx0_0 := (blk_cell BKx0.out 0).trans rfl
 have hx0_1 := (blk_cell BKx0.out 1).trans rfl
 go_wp2_with fail
 refine (impl_EvenSetPowers.calls k q0 Ax0 cx0 y0 g gb _ (Kd.R_reads' Ox0.out).2.2 (Kd.R_reads' Ox0.out).2.1 FG.out).mono ?_
 rintro e w5 ⟨ug, rfl, hO, hb⟩
 clear hx0_0 hx0_1
 have OD4 := Aside0.mk (show w4.heap.size + 1 ≤ w5.heap.size from by have h_ := hb.size; (try simp at h_); omega)
 obtain ⟨Ag, cg, rfl⟩ := Kd.R_slice hO
 have h0_ := Kd.R_bound hO
 have NEW_ := Aside0.mk (Kd.R_mono (ok' := fun k_ => w4.heap.size + 1 ≤ k_ ∧ k_ < w5.heap.size) (Kd.R_lower h0_ HB.out.size) (fun k_ hk_ => ⟨by have h1_ := hk_.2.1; (try simp at h1_); omega, hk_.2.2.1⟩))
 clear h0_
 replace HB := Aside0.mk (HB.out.trans (hb.mono HB.out.size))
 replace BKA0 := Aside0.mk (blk_below BKA0.out hb)
 replace Os := Aside0.mk (Kd.R_below Os.out hb)
 replace Ox0 := Aside0.mk (Kd.R_below Ox0.out hb)
 replace BKx0 := Aside0.mk (blk_below BKx0.out hb)
 clear hb hO
 have Og := NEW_
 clear NEW_
 go_wp2_with fail
 refine (laws_eqShareS.calls k Ag cg g As cs s true _ (Kd.R_reads' Og.out).2.2 (Kd.R_reads' Og.out).2.1 (Kd.R_reads' Os.out).2.2 (Kd.R_reads' Os.out).2.1 FE.out).mono ?_
 rintro e w6 ⟨rfl, hb⟩
 have OD5 := Aside0.mk (show w5.heap.size ≤ w6.heap.size from by have h_ := hb.size; (try simp at h_); omega)
 replace HB := Aside0.mk (HB.out.trans (hb.mono HB.out.size))
 replace BKA0 := Aside0.mk (blk_below BKA0.out hb)
 replace Os := Aside0.mk (Kd.R_below Os.out hb)
 replace Ox0 := Aside0.mk (Kd.R_below Ox0.out hb)
 replace BKx0 := Aside0.mk (blk_below BKx0.out hb)
 replace Og := Aside0.mk (Kd.R_below Og.out hb)
 clear hb
 go_wp2
 replace HB := Aside0.mk (below_drew1 HB.out)
 replace BKA0 := Aside0.mk (blk_drew BKA0.out)
 replace Os := Aside0.mk (Kd.R_drew Os.out)
 replace Ox0 := Aside0.mk (Kd.R_drew Ox0.out)
 replace BKx0 := Aside0.mk (blk_drew BKx0.out)
 replace Og := Aside0.mk (Kd.R_drew Og.out)
 have K0 := Aside0.mk ((blk_cell BKx0.out 0).trans rfl)
 have K1 := Aside0.mk ((blk_cell BKx0.out 1).trans rfl)
 have K2 := Aside0.mk ((blk_cell BKA0.out 0).trans rfl)
 have K3 := Aside0.mk ((blk_cell BKA0.out 1).trans rfl)
 go_region_held3 (fun w' => w'.cell? ⟨w4.heap.size, 0, none⟩ = some (.int .i64 q0) ∧ w'.cell? ⟨w4.heap.size, 1, none⟩ = some (.slice Ax0 y0.length cx0) ∧ w'.cell? ⟨w.heap.size, 0, none⟩ = some (.int .i64 a0_0) ∧ w'.cell? ⟨w.heap.size, 1, none⟩ = some (.slice A0_1 l0_1.length c0_1)) (first | exact ⟨K0.out, K1.out, K2.out, K3.out⟩ | exact ⟨k0, k1, k2, k3⟩ | go_keep)
  (first | (go_at_call 27; refine (laws_toCommittee.calls k a0_0 A0_1 c0_1 l0_1 q0 y0 _ (Kd.C_below HR0_1.out HB.out) HC0_1.out FA0.out).mono ?_; rintro e w7 ⟨uz0, rfl, hO, hb⟩; obtain ⟨Az0, cz0, rfl⟩ := Kd.R_slice hO; have OZ_ := Aside0.mk hO; have OS1_ := Aside0.mk hb.size; replace HB := Aside0.mk (HB.out.trans (hb.mono HB.out.size)); replace BKA0 := Aside0.mk (blk_below BKA0.out hb); replace Os := Aside0.mk (Kd.R_below Os.out hb); replace Ox0 := Aside0.mk (Kd.R_below Ox0.out hb); replace BKx0 := Aside0.mk (blk_below BKx0.out hb); replace Og := Aside0.mk (Kd.R_below Og.out hb); clear hb hO K0 K1 K2 K3; have k0 := (blk_cell BKx0.out 0).trans rfl; have k1 := (blk_cell BKx0.out 1).trans rfl; have k2 := (blk_cell BKA0.out 0).trans rfl; have k3 := (blk_cell BKA0.out 1).trans rfl) | (go_at_call 29; refine (laws_eqCommittee.calls k q0 Ax0 cx0 y0 q0 Az0 cz0 y0 true _ (Kd.R_reads' Ox0.out).2.2 (Kd.R_reads' Ox0.out).2.1 (Kd.R_reads' OZ_.out).2.2 (Kd.R_reads' OZ_.out).2.1 FE0.out).mono ?_; rintro e w8 ⟨rfl, hb⟩; have OS2_ := Aside0.mk hb.size; clear k0 k1 k2 k3; replace HB := Aside0.mk (HB.out.trans (hb.mono HB.out.size)); replace BKA0 := Aside0.mk (blk_below BKA0.out hb); replace Os := Aside0.mk (Kd.R_below Os.out hb); replace Ox0 := Aside0.mk (Kd.R_below Ox0.out hb); replace BKx0 := Aside0.mk (blk_below BKx0.out hb); replace Og := Aside0.mk (Kd.R_below Og.out hb); replace OZ_ := Aside0.mk (Kd.R_below OZ_.out hb); clear hb; have k0 := (blk_cell BKx0.out 0).trans rfl; have k1 := (blk_cell BKx0.out 1).trans rfl; have k2 := (blk_cell BKA0.out 0).trans rfl; have k3 := (blk_cell BKA0.out 1).trans rfl))
 have OD6 := Aside0.mk (show w6.heap.size ≤ w8.heap.size from by have h1_ := OS1_.out; have h2_ := OS2_.out; (try simp at h1_); (try simp at h2_); omega)
 clear k0 k1 k2 k3 OS1_ OS2_
 clear OZ_
 have hx0 := (blk_cell BKx0.out 0).trans rfl
 have hx1 := (blk_cell BKx0.out 1).trans rfl
 go_wp2_with fail
 refine (laws_markCommittee.calls k q0 (fun k_ => w3.heap.size ≤ k_ ∧ k_ < w4.heap.size) (.slice Ax0 y0.length cx0) y0 1 k0 u0 w _ HB.out Ox0.out FM0.out).mono ?_
 rintro e w9 ⟨rfl, _, hB, hk⟩
 clear hx0 hx1
 have OD7 := Aside0.mk (show w8.heap.size ≤ w9.heap.size from by have h_ := hk.1; (try simp at h_); omega)
 clear Ox0
 clear HB
 replace BKA0 := Aside0.mk (blk_kept BKA0.out hk (fun hh_ => by obtain ⟨h1_, h2_⟩ := hh_; have o0_ := OD0.out; have o1_ := OD1.out; have o2_ := OD2.out; have o3_ := OD3.out; have o4_ := OD4.out; have o5_ := OD5.out; have o6_ := OD6.out; have o7_ := OD7.out; omega))
 replace Os := Aside0.mk (Kd.R_kept Os.out hk (fun k_ hk_ hh_ => by obtain ⟨h1_, h2_⟩ := hh_; obtain ⟨h3_, h4_⟩ := hk_; have o0_ := OD0.out; have o1_ := OD1.out; have o2_ := OD2.out; have o3_ := OD3.out; have o4_ := OD4.out; have o5_ := OD5.out; have o6_ := OD6.out; have o7_ := OD7.out; omega))
 replace BKx0 := Aside0.mk (blk_kept BKx0.out hk (fun hh_ => by obtain ⟨h1_, h2_⟩ := hh_; have o0_ := OD0.out; have o1_ := OD1.out; have o2_ := OD2.out; have o3_ := OD3.out; have o4_ := OD4.out; have o5_ := OD5.out; have o6_ := OD6.out; have o7_ := OD7.out; omega))
 replace Og := Aside0.mk (Kd.R_kept Og.out hk (fun k_ hk_ hh_ => by obtain ⟨h1_, h2_⟩ := hh_; obtain ⟨h3_, h4_⟩ := hk_; have o0_ := OD0.out; have o1_ := OD1.out; have o2_ := OD2.out; have o3_ := OD3.out; have o4_ := OD4.out; have o5_ := OD5.out; have o6_ := OD6.out; have o7_ := OD7.out; omega))
 have HB := Aside0.mk hB
 clear hB hk
 go_wp2_with fail
 refine (laws_eqShareS.calls k Ag cg g As cs s true _ (Kd.R_reads' Og.out).2.2 (Kd.R_reads' Og.out).2.1 (Kd.R_reads' Os.out).2.2 (Kd.R_reads' Os.out).2.1 FE.out).mono ?_
 rintro e w10 ⟨rfl, hb⟩
 have OD8 := Aside0.mk (show w9.heap.size ≤ w10.heap.size from by have h_ := hb.size; (try simp at h_); omega)
 replace HB := Aside0.mk (HB.out.trans (hb.mono HB.out.size))
 replace BKA0 := Aside0.mk (blk_below BKA0.out hb)
 replace Os := Aside0.mk (Kd.R_below Os.out hb)
 replace BKx0 := Aside0.mk (blk_below BKx0.out hb)
 replace Og := Aside0.mk (Kd.R_below Og.out hb)
 clear hb
 go_wp2_with fail
 refine (laws_markShareS.calls k (fun k_ => w4.heap.size + 1 ≤ k_ ∧ k_ < w5.heap.size) (.slice Ag g.length cg) g 1 hh vv w _ HB.out Og.out FMM.out).mono ?_
 rintro e w11 ⟨rfl, hO, hB, hk⟩
 clear Og
 have OD9 := Aside0.mk (show w10.heap.size ≤ w11.heap.size from by have h_ := hk.1; (try simp at h_); omega)
 clear HB
 replace BKA0 := Aside0.mk (blk_kept BKA0.out hk (fun hh_ => by obtain ⟨h1_, h2_⟩ := hh_; have o0_ := OD0.out; have o1_ := OD1.out; have o2_ := OD2.out; have o3_ := OD3.out; have o4_ := OD4.out; have o5_ := OD5.out; have o6_ := OD6.out; have o7_ := OD7.out; have o8_ := OD8.out; have o9_ := OD9.out; omega))
 replace Os := Aside0.mk (Kd.R_kept Os.out hk (fun k_ hk_ hh_ => by obtain ⟨h1_, h2_⟩ := hh_; obtain ⟨h3_, h4_⟩ := hk_; have o0_ := OD0.out; have o1_ := OD1.out; have o2_ := OD2.out; have o3_ := OD3.out; have o4_ := OD4.out; have o5_ := OD5.out; have o6_ := OD6.out; have o7_ := OD7.out; have o8_ := OD8.out; have o9_ := OD9.out; omega))
 replace BKx0 := Aside0.mk (blk_kept BKx0.out hk (fun hh_ => by obtain ⟨h1_, h2_⟩ := hh_; have o0_ := OD0.out; have o1_ := OD1.out; have o2_ := OD2.out; have o3_ := OD3.out; have o4_ := OD4.out; have o5_ := OD5.out; have o6_ := OD6.out; have o7_ := OD7.out; have o8_ := OD8.out; have o9_ := OD9.out; omega))
 have HB := Aside0.mk hB
 have Og := Aside0.mk hO
 have HLM := Aside0.mk (Kd.R_reads' hO).1
 clear hO hB hk
 go_wp2_with fail
 have hheld := laws_heldShareS.calls k Ag cg vv 1 hh _ (Kd.R_reads' Og.out).2.2 (by rw [← HLM.out]; exact (Kd.R_reads' Og.out).2.1) FH.out
 rw [← HLM.out] at hheld
 refine hheld.mono ?_
 clear hheld
 rintro e w12 ⟨rfl, hd⟩
 have hb := hd.below
 have OD10 := Aside0.mk (show w11.heap.size ≤ w12.heap.size from by have h_ := hb.size; (try simp at h_); omega)
 replace HB := Aside0.mk (HB.out.trans (hb.mono HB.out.size))
 replace BKA0 := Aside0.mk (blk_below BKA0.out hb)
 replace Os := Aside0.mk (Kd.R_below Os.out hb)
 replace BKx0 := Aside0.mk (blk_below BKx0.out hb)
 replace Og := Aside0.mk (Kd.R_below Og.out hb)
 clear hb hd
 have ha0_0 := (blk_cell BKA0.out 0).trans rfl
 have ha0_1 := (blk_cell BKA0.out 1).trans rfl
 go_wp2_with fail
 refine (laws_toCommittee.calls k a0_0 A0_1 c0_1 l0_1 q0 y0 _ (Kd.C_below HR0_1.out HB.out) HC0_1.out FA0.out).mono ?_
 rintro e w13 ⟨ur0, rfl, hO, hb⟩
 clear ha0_0 ha0_1
 have OD11 := Aside0.mk (show w12.heap.size ≤ w13.heap.size from by have h_ := hb.size; (try simp at h_); omega)
 obtain ⟨Ar0, cr0, rfl⟩ := Kd.R_slice hO
 have h0_ := Kd.R_bound hO
 have NEW_ := Aside0.mk (Kd.R_mono (ok' := fun k_ => w12.heap.size ≤ k_ ∧ k_ < w13.heap.size) (Kd.R_lower h0_ HB.out.size) (fun k_ hk_ => ⟨by have h1_ := hk_.2.1; (try simp at h1_); omega, hk_.2.2.1⟩))
 clear h0_
 replace HB := Aside0.mk (HB.out.trans (hb.mono HB.out.size))
 replace BKA0 := Aside0.mk (blk_below BKA0.out hb)
 replace Os := Aside0.mk (Kd.R_below Os.out hb)
 replace BKx0 := Aside0.mk (blk_below BKx0.out hb)
 replace Og := Aside0.mk (Kd.R_below Og.out hb)
 clear hb hO
 have Or0 := NEW_
 clear NEW_
 go_wp2_with fail
 refine (impl_EvenSetPowers.calls k q0 Ar0 cr0 y0 g gb _ (Kd.R_reads' Or0.out).2.2 (Kd.R_reads' Or0.out).2.1 FG.out).mono ?_
 rintro e w14 ⟨uh, rfl, hO, hb⟩
 have OD12 := Aside0.mk (show w13.heap.size ≤ w14.heap.size from by have h_ := hb.size; (try simp at h_); omega)
 obtain ⟨Ah, ch, rfl⟩ := Kd.R_slice hO
 have h0_ := Kd.R_bound hO
 have NEW_ := Aside0.mk (Kd.R_mono (ok' := fun k_ => w13.heap.size ≤ k_ ∧ k_ < w14.heap.size) (Kd.R_lower h0_ HB.out.size) (fun k_ hk_ => ⟨by have h1_ := hk_.2.1; (try simp at h1_); omega, hk_.2.2.1⟩))
 clear h0_
 replace HB := Aside0.mk (HB.out.trans (hb.mono HB.out.size))
 replace BKA0 := Aside0.mk (blk_below BKA0.out hb)
 replace Os := Aside0.mk (Kd.R_below Os.out hb)
 replace BKx0 := Aside0.mk (blk_below BKx0.out hb)
 replace Og := Aside0.mk (Kd.R_below Og.out hb)
 replace Or0 := Aside0.mk (Kd.R_below Or0.out hb)
 clear hb hO
 have Oh := NEW_
 clear NEW_
 clear Or0
 go_wp2_with fail
 refine (laws_eqShareS.calls k Ah ch g As cs s true _ (Kd.R_reads' Oh.out).2.2 (Kd.R_reads' Oh.out).2.1 (Kd.R_reads' Os.out).2.2 (Kd.R_reads' Os.out).2.1 FE.out).mono ?_
 rintro e w15 ⟨rfl, hb⟩
 have OD13 := Aside0.mk (show w14.heap.size ≤ w15.heap.size from by have h_ := hb.size; (try simp at h_); omega)
 replace HB := Aside0.mk (HB.out.trans (hb.mono HB.out.size))
 replace BKA0 := Aside0.mk (blk_below BKA0.out hb)
 replace Os := Aside0.mk (Kd.R_below Os.out hb)
 replace BKx0 := Aside0.mk (blk_below BKx0.out hb)
 replace Og := Aside0.mk (Kd.R_below Og.out hb)
 replace Oh := Aside0.mk (Kd.R_below Oh.out hb)
 clear hb
 go_wp2_with fail
 have hheld := laws_heldShareS.calls k Ag cg vv 1 hh _ (Kd.R_reads' Og.out).2.2 (by rw [← HLM.out]; exact (Kd.R_reads' Og.out).2.1) FH.out
 rw [← HLM.out] at hheld
 refine hheld.mono ?_
 clear hheld
 rintro e w16 ⟨rfl, hd⟩
 have hb := hd.below
 have OD14 := Aside0.mk (show w15.heap.size ≤ w16.heap.size from by have h_ := hb.size; (try simp at h_); omega)
 replace HB := Aside0.mk (HB.out.trans (hb.mono HB.out.size))
 replace BKA0 := Aside0.mk (blk_below BKA0.out hb)
 replace Os := Aside0.mk (Kd.R_below Os.out hb)
 replace BKx0 := Aside0.mk (blk_below BKx0.out hb)
 replace Og := Aside0.mk (Kd.R_below Og.out hb)
 replace Oh := Aside0.mk (Kd.R_below Oh.out hb)
 clear hb hd
 go_wp2
 go_ret
 exact ⟨rfl, HB.out⟩
end Go.Proofs.Ytmmmblfghhcndaa.Q
namespace Go.Proofs.Ytmmmblfghhcndaa.Q
open Go.RowKit Go.Proofs.YtmmmblfghhcndaaW.PrintWords Go.Proofs.YtmmmblfghhcndaaW.PrintLast Go.Proofs.YtmmmblfghhcndaaW.PrintMore Go.Proofs.YtmmmblfghhcndaaM
set_option linter.unusedVariables false
set_option linter.unusedSimpArgs false
theorem impl_votesOf.at_l (n N : Nat) (hN : N ≤ 1000000) (P : Int → Option Bool) (p : Nat → Bool) (hP : ∀ m, m < N → P (m : Int) = some (p m)) : ∀ (d m k : Nat) (acc : List Bool), m + d = N → d < k → acc.length = N → acc.take m = ((List.range N).map p).take m → impl_votesOf.l0 k P (N : Int) (m : Int) (n : Int) acc = some ((n : Int), (List.range N).map p) := by
  intro d
  induction d with
  | zero =>
    intro m k acc h hk hlen ht
    obtain ⟨k, rfl⟩ : ∃ j, k = j + 1 := ⟨k - 1, by omega⟩
    simp only [impl_votesOf.l0]
    rw [List.take_of_length_le (by omega), List.take_of_length_le (by simp; omega)] at ht
    rw [if_neg (by omega), ht]
  | succ d ih =>
    intro m k acc h hk hlen ht
    obtain ⟨k, rfl⟩ : ∃ j, k = j + 1 := ⟨k - 1, by omega⟩
    have hm : m < N := by omega
    simp only [impl_votesOf.l0]
    rw [if_pos (by omega), hP m hm, Option.bind_some, if_pos (by omega), if_pos (by omega), w64i (n := N) (by omega) (by omega) (by omega), Int.toNat_natCast]
    refine ih (m + 1) k (acc.set m (p m)) (by omega) (by omega) (by simpa using hlen) ?_
    rw [List.take_succ_eq_append_getElem (by simp; omega), List.take_succ_eq_append_getElem (by simp; omega), List.take_set_of_le (by omega), ht]
    simp
theorem impl_votesOf.ev (n : Nat) (hn : n ≤ 19) (g : Nat → Int → Option Bool) (p : Nat → Bool) (hg : ∀ m : Nat, m < 2 ^ n → Ev (fun k => g k (m : Int)) (p m)) : Ev (fun k => impl_votesOf.f k (n : Int) (g k)) ((n : Int), (List.range (2 ^ n)).map p) := by
  have hp : 2 ^ n ≤ 2 ^ 19 := Nat.pow_le_pow_right (by omega) hn
  have h0 : 0 < 2 ^ n := Nat.two_pow_pos n
  generalize hN : 2 ^ n = N at *
  obtain ⟨K, hK⟩ := ev_all N (fun k m => g k (m : Int)) p hg
  refine ⟨max K (N + 1), fun k hk => ?_⟩
  simp only [impl_votesOf.f]
  rw [if_pos (by omega), shl_one n (by omega), hN, if_pos (by omega), Int.toNat_natCast, if_pos (by omega), Option.bind_some, List.length_replicate]
  exact impl_votesOf.at_l n N (by omega) (g k) p (fun m hm => hK k (by omega) m hm) N 0 k _ (by omega) (by omega) (by simp) (by simp)
theorem impl_has.v (m i : Nat) (hm : m < 2 ^ 62) (hi : i ≤ 62) : impl_has.f (m : Int) (i : Int) = some (decide (m / 2 ^ i % 2 = 1)) := by
  unfold impl_has.f
  have hlt : m / 2 ^ i < 2 ^ 62 := Nat.lt_of_le_of_lt (Nat.div_le_self _ _) hm
  rw [if_pos (by omega), shr_nat m i (by omega), and_one _ hlt]
  congr 1
  by_cases h : m / 2 ^ i % 2 = 1
  · simp [h]
  · have : m / 2 ^ i % 2 = 0 := by omega
    simp [this]
theorem impl_Committee_weight.ev_l (q : Int) (ws : List Int) (m : Nat) (hm : m < 2 ^ 62) (hl : ws.length ≤ 60) (hw : ∀ x ∈ ws, 0 ≤ x ∧ x ≤ 1000000000) : ∀ (d i : Nat) (s : Int), i + d = ws.length → 0 ≤ s → s + wsum (ws.drop i) (m / 2 ^ i) ≤ 1000000000000 → Ev (fun k => impl_Committee_weight.l0 k (m : Int) s ws (ws.length : Int) (i : Int)) (s + wsum (ws.drop i) (m / 2 ^ i)) := by
  intro d
  induction d with
  | zero =>
    intro i s h _ _
    refine ev_step ?_
    simp only [impl_Committee_weight.l0]
    rw [ev_neg (by omega), ev_now, List.drop_of_length_le (by omega)]
    simp [wsum]
  | succ d ih =>
    intro i s h h0 h1
    refine ev_step ?_
    simp only [impl_Committee_weight.l0]
    have hi : i < ws.length := by omega
    have hx := hw ws[i] (List.getElem_mem hi)
    have hd : wsum (ws.drop i) (m / 2 ^ i) = (if m / 2 ^ i % 2 = 1 then ws[i] else 0) + wsum (ws.drop (i + 1)) (m / 2 ^ (i + 1)) := by
      rw [wsum_drop ws i _ hi, Nat.div_div_eq_div_mul, ← Nat.pow_succ]
    have hb := wsum_bounds (ws.drop (i + 1)) (fun x hx => (hw x (List.mem_of_mem_drop hx)).1) (m / 2 ^ (i + 1))
    rw [ev_pos (by omega), ev_pos (by omega), ev_pos (by omega), ev_bind (ev_of (impl_has.v m i hm (by omega))), w64i (n := ws.length) (by omega) (by omega) (by omega), rd_lt ws i hi, hd]
    rw [hd] at h1
    by_cases hbit : m / 2 ^ i % 2 = 1
    · rw [if_pos hbit] at h1 ⊢
      rw [ev_pos (by simpa using hbit), w64 (by omega) (by omega), ← Int.add_assoc]
      exact ih (i + 1) (s + ws[i]) (by omega) (by omega) (by omega)
    · rw [if_neg hbit] at h1 ⊢
      rw [ev_neg (by simpa using hbit), Int.zero_add]
      exact ih (i + 1) s (by omega) h0 (by omega)
theorem impl_Committee_weight.ev (q : Int) (ws : List Int) (m : Nat) (hm : m < 2 ^ 62) (hl : ws.length ≤ 60) (hw : ∀ x ∈ ws, 0 ≤ x ∧ x ≤ 1000000000) : Ev (fun k => impl_Committee_weight.f k q ws (m : Int)) (wsum ws m) := by
  have hb := wsum_bounds ws (fun x hx => (hw x hx).1) m
  have hs := sum_bounds ws 1000000000 hw
  have := impl_Committee_weight.ev_l q ws m hm hl hw ws.length 0 0 (by omega) (by omega) (by simp; omega)
  simpa [impl_Committee_weight.f] using this
theorem impl_Committee_votes.ev (q : Int) (ws : List Int) (hl : ws.length ≤ 9) (hw : ∀ x ∈ ws, 0 ≤ x ∧ x ≤ 1000000000) : Ev (fun k => impl_Committee_votes.f k q ws) ((ws.length : Int), winsL q ws) := by
  have hp : 2 ^ ws.length ≤ 2 ^ 9 := Nat.pow_le_pow_right (by omega) hl
  refine impl_votesOf.ev ws.length (by omega) (fun k => impl_Committee_votes_1.f k q ws) (fun m => decide (q ≤ wsum ws m)) (fun m hm => ?_)
  simp only [impl_Committee_votes_1.f]
  rw [ev_bind (impl_Committee_weight.ev q ws m (by omega) (by omega) hw), ev_now]
theorem impl_sumOf.ev_l (l : List Int) (hl : l.length ≤ 9223372036854775807) : ∀ (d i : Nat) (s : Int), i + d = l.length → Ev (fun k => impl_sumOf.l0 k s l (l.length : Int) (i : Int)) (wfold (l.drop i) s) := by
  intro d
  induction d with
  | zero =>
    intro i s h
    refine ev_step ?_
    simp only [impl_sumOf.l0]
    rw [ev_neg (by omega), ev_now, List.drop_of_length_le (by omega)]
    rfl
  | succ d ih =>
    intro i s h
    refine ev_step ?_
    simp only [impl_sumOf.l0]
    have hi : i < l.length := by omega
    rw [ev_pos (by omega), ev_pos (by omega), ev_pos (by omega), w64i (n := l.length) (by omega) (by omega) hl, rd_lt l i hi, wfold_take l i hi]
    exact ih (i + 1) _ (by omega)
theorem impl_sumOf.ev (l : List Int) (hl : l.length ≤ 9223372036854775807) : Ev (fun k => impl_sumOf.f k l) (wfold l 0) := impl_sumOf.ev_l l hl l.length 0 0 (by omega)
theorem impl_within.v (a b c : Int) : impl_within.f a b c = some (decide (b ≤ a) && decide (a ≤ c)) := by
  unfold impl_within.f
  by_cases h : b ≤ a
  · rw [if_pos h]; simp [h]
  · rw [if_neg h]; simp [h]
theorem impl_IsCommittee.ev (q : Int) (l : List Int) (hl : l.length ≤ 9223372036854775807) : Ev (fun k => impl_IsCommittee.f k q l) (goodB q l) := by
  simp only [impl_IsCommittee.f]
  unfold goodB
  by_cases h1 : 1 ≤ l.length
  · rw [ev_pos (by omega)]
    by_cases h2 : l.length ≤ 9
    · rw [ev_pos (by omega), ev_bind (ev_of (show impl_areIn.f l 0 1000 = some _ from rfl))]
      cases hb : (l.all fun x => decide (0 ≤ x) && decide (x ≤ 1000)) with
      | true =>
        rw [ev_pos rfl, ev_bind (impl_sumOf.ev l hl), ev_bind (ev_of (impl_within.v _ _ _)), ev_now, wfold_w l h2 hb]
        simp [h1, h2]
      | false =>
        rw [ev_neg (by simp), ev_now]
        simp
    · rw [ev_neg (by omega), ev_now]
      simp [h2]
  · rw [ev_neg (by omega), ev_now]
    simp [h1]
theorem laws_toIntS.ev_l (l : List Int) (hl : l.length ≤ 35184372088832) : ∀ (d i : Nat) (acc : List Int), i + d = l.length → acc.length = l.length → acc.take i = l.take i → Ev (fun k => laws_toIntS.l0 k l acc (i : Int)) l := by
  intro d
  induction d with
  | zero =>
    intro i acc h hlen ht
    refine ev_step ?_
    simp only [laws_toIntS.l0]
    rw [ev_neg (by omega), ev_now]
    rwa [List.take_of_length_le (by omega), List.take_of_length_le (by omega)] at ht
  | succ d ih =>
    intro i acc h hlen ht
    refine ev_step ?_
    simp only [laws_toIntS.l0]
    have hi : i < l.length := by omega
    rw [ev_pos (by omega), ev_pos (by omega), ev_pos (by omega), w64i (n := l.length) (by omega) (by omega) (by omega), rd_lt l i hi, Int.toNat_natCast]
    refine ih (i + 1) _ (by omega) (by simpa using hlen) ?_
    rw [List.take_succ_eq_append_getElem (by simp; omega), List.take_succ_eq_append_getElem hi, List.take_set_of_le (by omega), ht]
    simp
theorem laws_toIntS.ev (l : List Int) (hl : l.length ≤ 35184372088832) : Ev (fun k => laws_toIntS.f k l) l := by
  simp only [laws_toIntS.f]
  rw [ev_pos (by omega), ev_pos (by omega)]
  exact laws_toIntS.ev_l l hl l.length 0 _ (by omega) (by simp) (by simp)
theorem laws_eqIntS.ev_l (a b : List Int) (hl : a.length ≤ 9223372036854775807) (hab : a.length = b.length) : ∀ (d i : Nat), i + d = a.length → Ev (fun k => laws_eqIntS.l0 k a b (i : Int)) (decide (a.drop i = b.drop i)) := by
  intro d
  induction d with
  | zero =>
    intro i h
    refine ev_step ?_
    simp only [laws_eqIntS.l0]
    rw [ev_neg (by omega), ev_now, List.drop_of_length_le (by omega), List.drop_of_length_le (by omega)]
    rfl
  | succ d ih =>
    intro i h
    refine ev_step ?_
    simp only [laws_eqIntS.l0]
    have hi : i < a.length := by omega
    have hj : i < b.length := by omega
    rw [ev_pos (by omega), ev_pos (by omega), ev_pos (by omega), rd_lt a i hi, rd_lt b i hj, w64i (n := a.length) (by omega) (by omega) (by omega)]
    have ed : decide (a.drop i = b.drop i) = (decide (a[i] = b[i]) && decide (a.drop (i + 1) = b.drop (i + 1))) := by
      rw [List.drop_eq_getElem_cons hi, List.drop_eq_getElem_cons hj, ← Bool.decide_and]
      simp only [List.cons.injEq]
    rw [ed]
    by_cases e : a[i] = b[i]
    · rw [ev_pos e, decide_eq_true e, Bool.true_and]
      exact ih (i + 1) (by omega)
    · rw [ev_neg e, ev_now, decide_eq_false e, Bool.false_and]
theorem laws_eqIntS.ev (a b : List Int) (hl : a.length ≤ 9223372036854775807) : Ev (fun k => laws_eqIntS.f k a b) (decide (a = b)) := by
  simp only [laws_eqIntS.f]
  by_cases h : a.length = b.length
  · rw [ev_pos (by omega)]
    exact laws_eqIntS.ev_l a b hl h a.length 0 (by omega)
  · rw [ev_neg (by omega), ev_now]
    have : a ≠ b := fun e => h (by rw [e])
    simp [this]
def marks (k : Int) (n : Nat) : List Int := (List.range n).map fun (i : Nat) => k + (i : Int)
theorem marks_length (k : Int) (n : Nat) : (marks k n).length = n := by simp [marks]
theorem marks_get (k : Int) (n i : Nat) (h : i < (marks k n).length) : (marks k n)[i] = k + (i : Int) := by simp [marks]
theorem laws_markIntS.ev_l (n : Nat) (c : Int) (hn : n ≤ 9223372036854775807) (hc0 : 0 ≤ c) (hc : c + (n : Int) ≤ 9223372036854775807) : ∀ (d i : Nat) (acc : List Int), i + d = n → acc.length = n → acc.take i = (marks c n).take i → Ev (fun k => laws_markIntS.l0 k acc (c + (i : Int)) (i : Int)) (c + (n : Int), marks c n) := by
  intro d
  induction d with
  | zero =>
    intro i acc h hlen ht
    refine ev_step ?_
    simp only [laws_markIntS.l0]
    rw [ev_neg (by omega), ev_now]
    rw [List.take_of_length_le (by omega), List.take_of_length_le (by rw [marks_length]; omega)] at ht
    rw [ht, show i = n by omega]
  | succ d ih =>
    intro i acc h hlen ht
    refine ev_step ?_
    simp only [laws_markIntS.l0]
    have hi : i < n := by omega
    rw [ev_pos (by omega), ev_pos (by omega), w64i (i := (i : Int)) (n := n) (by omega) (by omega) hn, w64 (x := c + (i : Int) + 1) (by omega) (by omega), Int.toNat_natCast]
    rw [show c + (i : Int) + 1 = c + ((i + 1 : Nat) : Int) by omega]
    refine ih (i + 1) _ (by omega) (by simpa using hlen) ?_
    rw [List.take_succ_eq_append_getElem (by simp; omega), List.take_succ_eq_append_getElem (by rw [marks_length]; omega), List.take_set_of_le (by omega), ht, marks_get]
    simp
theorem laws_markIntS.ev (l : List Int) (c : Int) (hc0 : 0 ≤ c) (hc : c + (l.length : Int) ≤ 9223372036854775807) : Ev (fun k => laws_markIntS.f k l c) (c + (l.length : Int), marks c l.length) := by
  have := laws_markIntS.ev_l l.length c (by omega) hc0 hc l.length 0 l (by omega) rfl (by simp)
  simpa [laws_markIntS.f] using this
theorem laws_szIntS.v (l : List Int) (c : Int) (hc : c ≤ 9223372036854775807) (hl : (l.length : Int) ≤ 9223372036854775807 + c) : laws_szIntS.f l c = some (if c - (l.length : Int) < 0 then -1 else c - (l.length : Int)) := by
  unfold laws_szIntS.f
  rw [w64 (by omega) (by omega)]
  split <;> rfl
theorem rd_L2_lt (l : List (List Int)) (i : Nat) (h : i < l.length) : rd_L2 l (i : Int) = l[i] := by simp [rd_L2, h]
def totSS : List (List Int) → Int
  | [] => 0
  | s :: L => (s.length : Int) + totSS L
theorem totSS_nonneg : ∀ L : List (List Int), 0 ≤ totSS L
  | [] => Int.le_refl _
  | s :: L => by
    have := totSS_nonneg L
    show 0 ≤ (s.length : Int) + totSS L
    omega
theorem totSS_le : ∀ (L : List (List Int)) (n : Nat), (∀ s ∈ L, s.length ≤ n) → totSS L ≤ (n : Int) * (L.length : Int)
  | [], n, _ => by simp [totSS]
  | s :: L, n, h => by
    have h1 := h s List.mem_cons_self
    have h2 := totSS_le L n (fun t ht => h t (List.mem_cons_of_mem _ ht))
    show (s.length : Int) + totSS L ≤ (n : Int) * ((L.length + 1 : Nat) : Int)
    rw [Int.natCast_add, Int.mul_add]
    simp only [Int.natCast_one, Int.mul_one]
    omega
def incB : List Int → Bool
  | a :: b :: l => decide (a < b) && incB (b :: l)
  | _ => true
def setB (n : Int) (l : List Int) : Bool := (l.all fun x => decide (0 ≤ x) && decide (x ≤ n - 1)) && incB l
def orBits (m : Nat) (l : List Int) : Nat := l.foldl (fun m x => m ||| 2 ^ x.toNat) m
def maskN (l : List Int) : Nat := orBits 0 l
def mAt (l : List (List Int)) (i : Nat) : Nat := maskN (l.getD i [])
def gOrd (l : List (List Int)) (i : Nat) : Bool := decide (i = 0) || decide (cmpL (l.getD (i - 1) []) (l.getD i []) < 0)
def gInS (l : List (List Int)) (i j : Nat) : Bool := !(decide (mAt l i &&& mAt l j = mAt l i)) && !(decide (mAt l i &&& mAt l j = mAt l j))
def gS (l : List (List Int)) (i : Nat) : Bool := gOrd l i && (List.range' 0 i).all (gInS l i)
structure GoodG (n : Int) (l : List (List Int)) : Prop where
  n1 : 1 ≤ n
  n9 : n ≤ 9
  ne : l.length ≠ 0
  sets : ∀ x ∈ l, x.length ≠ 0 ∧ setB n x = true
  gs : ∀ i, i < l.length → gS l i = true
def bitB (m i : Nat) : Bool := decide (m / 2 ^ i % 2 = 1)
def setN (m : Nat) : List Int := ((List.range 62).filter (bitB m)).map fun (i : Nat) => (i : Int)
def setTo (m i : Nat) : List Int := ((List.range i).filter (bitB m)).map fun (i : Nat) => (i : Int)
theorem bitB_high {m i j : Nat} (h : m / 2 ^ i = 0) (hij : i ≤ j) : bitB m j = false := by
  unfold bitB
  have : m < 2 ^ i := by
    rcases Nat.lt_or_ge m (2 ^ i) with h1 | h1
    · exact h1
    · have := Nat.div_pos h1 (Nat.two_pow_pos i)
      omega
  have h2 : 2 ^ i ≤ 2 ^ j := Nat.pow_le_pow_right (by omega) hij
  rw [Nat.div_eq_of_lt (by omega)]
  rfl
theorem setTo_done {m i : Nat} (h : m / 2 ^ i = 0) (hi : i ≤ 62) : setTo m i = setN m := by
  unfold setTo setN
  rw [show List.range 62 = List.range i ++ (List.range (62 - i)).map (i + ·) by rw [← List.range_add]; congr 1; omega, List.filter_append]
  have : ((List.range (62 - i)).map (i + ·)).filter (bitB m) = [] := by
    rw [List.filter_eq_nil_iff]
    intro j hj
    obtain ⟨a, _, rfl⟩ := List.mem_map.1 hj
    rw [bitB_high h (by omega)]
    decide
  rw [this, List.append_nil]
theorem setTo_succ (m i : Nat) : setTo m (i + 1) = if bitB m i = true then setTo m i ++ [(i : Int)] else setTo m i := by
  unfold setTo
  rw [List.range_succ, List.filter_append, List.map_append]
  by_cases h : bitB m i = true
  · rw [if_pos h]
    simp [h]
  · rw [if_neg h]
    simp [h]
theorem setTo_len (m i : Nat) : (setTo m i).length ≤ i := by
  unfold setTo
  rw [List.length_map]
  have := List.length_filter_le (bitB m) (List.range i)
  rw [List.length_range] at this
  exact this
theorem setN_to {m n : Nat} (h : m < 2 ^ n) (hn : n ≤ 62) : setN m = setTo m n := (setTo_done (Nat.div_eq_of_lt h) hn).symm
theorem setTo_in {m n : Nat} : ∀ x ∈ setTo m n, 0 ≤ x ∧ x < (n : Int) ∧ bitB m x.toNat = true := by
  intro x hx
  obtain ⟨i, hi, rfl⟩ := List.mem_map.1 hx
  rw [List.mem_filter, List.mem_range] at hi
  exact ⟨by omega, by omega, by rw [Int.toNat_natCast]; exact hi.2⟩
theorem setTo_all (m n : Nat) (q : Nat → Bool) : ((setTo m n).all fun x => q x.toNat) = (List.range n).all fun i => !(bitB m i) || q i := by
  unfold setTo
  rw [List.all_map, List.all_filter]
  rfl
def leastB (W : List Bool) (n m : Nat) : Bool := W.getD m false && (List.range n).all fun i => !(bitB m i) || !(W.getD (m - 2 ^ i) false)
def takeL (P : Nat → Bool) (i : Nat) : List (List Int) := ((List.range i).filter P).map setN
theorem takeL_succ (P : Nat → Bool) (i : Nat) : takeL P (i + 1) = if P i = true then takeL P i ++ [setN i] else takeL P i := by
  unfold takeL
  rw [List.range_succ, List.filter_append, List.map_append]
  by_cases h : P i = true
  · rw [if_pos h]
    simp [h]
  · rw [if_neg h]
    simp [h]
theorem takeL_len (P : Nat → Bool) (i : Nat) : (takeL P i).length ≤ i := by
  unfold takeL
  rw [List.length_map]
  have := List.length_filter_le P (List.range i)
  rw [List.length_range] at this
  exact this
theorem takeL_mem {P : Nat → Bool} {i : Nat} : ∀ x ∈ takeL P i, ∃ m, m < i ∧ P m = true ∧ x = setN m := by
  intro x hx
  obtain ⟨m, hm, rfl⟩ := List.mem_map.1 hx
  rw [List.mem_filter, List.mem_range] at hm
  exact ⟨m, hm.1, hm.2, rfl⟩
theorem bitB_test (m i : Nat) : bitB m i = m.testBit i := by rw [bitB, Nat.testBit_eq_decide_div_mod_eq]
theorem setN_contains (m i : Nat) (hi : i < 62) : (setN m).contains (i : Int) = m.testBit i := by
  rw [← bitB_test, Bool.eq_iff_iff, List.contains_iff_mem, setN, List.mem_map]
  constructor
  · rintro ⟨j, hj, e⟩
    rw [List.mem_filter] at hj
    rw [← show j = i by omega]
    exact hj.2
  · intro h
    exact ⟨i, List.mem_filter.2 ⟨List.mem_range.2 hi, h⟩, rfl⟩
theorem least_ex (W : List Bool) (n : Nat) : ∀ m, m < 2 ^ n → W.getD m false = true → ∃ m', m' < 2 ^ n ∧ leastB W n m' = true := by
  intro m
  induction m using Nat.strongRecOn with
  | ind m ih =>
    intro hm hw
    by_cases h : leastB W n m = true
    · exact ⟨m, hm, h⟩
    · unfold leastB at h
      rw [hw, Bool.true_and, List.all_eq_true] at h
      obtain ⟨i, h2⟩ := Classical.not_forall.1 h
      rw [Classical.not_imp] at h2
      obtain ⟨_, h2⟩ := h2
      simp only [Bool.or_eq_true, Bool.not_eq_true', not_or, Bool.not_eq_false] at h2
      have hb : m / 2 ^ i % 2 = 1 := by simpa [bitB] using h2.1
      have hp := Nat.two_pow_pos i
      have hge : 2 ^ i ≤ m := by
        rcases Nat.lt_or_ge m (2 ^ i) with h1 | h1
        · rw [Nat.div_eq_of_lt h1] at hb; omega
        · exact h1
      exact ih (m - 2 ^ i) (by omega) (by omega) h2.2
theorem setN_pos {m : Nat} (hm : m < 2 ^ 62) (h : m ≠ 0) : 1 ≤ (setN m).length := by
  obtain ⟨i, hi⟩ := Nat.exists_testBit_of_ne_zero h
  have hlt : i < 62 := by
    rcases Nat.lt_or_ge i 62 with h1 | h1
    · exact h1
    · rw [Nat.testBit_lt_two_pow (Nat.lt_of_lt_of_le hm (Nat.pow_le_pow_right (by omega) h1))] at hi; cases hi
  have hc := setN_contains m i hlt
  rw [hi] at hc
  cases hs : setN m with
  | nil => rw [hs] at hc; cases hc
  | cons a l => simp
theorem good_least {q : Int} {ws : List Int} (h : GoodC q ws) : ∃ s ∈ takeL (leastB (winsL q ws) ws.length) (winsL q ws).length, 1 ≤ s.length := by
  have hp := h.pow
  have h9 := h.l9
  have hq := h.q1
  have hw : (winsL q ws).getD (2 ^ ws.length - 1) false = true := by
    rw [winsL_getD q ws _ (by omega), wsum_full]
    exact decide_eq_true h.qs
  obtain ⟨m, hm, hl⟩ := least_ex (winsL q ws) ws.length _ (by omega) hw
  refine ⟨setN m, List.mem_map.2 ⟨m, List.mem_filter.2 ⟨List.mem_range.2 (by rw [winsL_length]; exact hm), hl⟩, rfl⟩, setN_pos (by omega) ?_⟩
  rintro rfl
  unfold leastB at hl
  simp only [Bool.and_eq_true] at hl
  have h0 := hl.1
  rw [winsL_getD q ws 0 (by omega), wsum_zero] at h0
  simp at h0
  omega
theorem tmod_nat (a b : Nat) : Int.tmod (a : Int) (b : Int) = ((a % b : Nat) : Int) := (Int.ofNat_tmod a b).symm
theorem impl_gcd.ev : ∀ (b a : Nat), Ev (fun k => impl_gcd.f k (a : Int) (b : Int)) ((Nat.gcd a b : Nat) : Int) := by
  intro b
  induction b using Nat.strongRecOn with
  | ind b ih =>
    intro a
    simp only [impl_gcd.f]
    refine ev_step ?_
    simp only [impl_gcd.l0]
    by_cases h : b = 0
    · subst h
      rw [ev_pos (by omega), ev_now, Nat.gcd_zero_right]
    · rw [ev_neg (by omega), tmod_nat, show Nat.gcd a b = Nat.gcd b (a % b) by rw [Nat.gcd_comm a b, Nat.gcd_rec b a, Nat.gcd_comm]]
      exact ih (a % b) (Nat.mod_lt _ (by omega)) b
theorem tmod_nat2 (a b : Nat) : Int.tmod (a : Int) (b : Int) = ((a % b : Nat) : Int) := (Int.ofNat_tmod a b).symm
theorem spec_pwCommon.ev : ∀ (b a : Nat), Ev (fun k => spec_pwCommon.f k (a : Int) (b : Int)) ((Nat.gcd a b : Nat) : Int) := by
  intro b
  induction b using Nat.strongRecOn with
  | ind b ih =>
    intro a
    simp only [spec_pwCommon.f]
    refine ev_step ?_
    simp only [spec_pwCommon.l0]
    by_cases h : b = 0
    · subst h
      rw [ev_neg (by omega), ev_now, Nat.gcd_zero_right]
    · rw [ev_pos (by omega), ev_neg (by omega), tmod_nat2, show Nat.gcd a b = Nat.gcd b (a % b) by rw [Nat.gcd_comm a b, Nat.gcd_rec b a, Nat.gcd_comm]]
      exact ih (a % b) (Nat.mod_lt _ (by omega)) b
def shN (n t : Int) : Int × Int := (((n.toNat / Nat.gcd n.toNat t.toNat : Nat) : Int), ((t.toNat / Nat.gcd n.toNat t.toNat : Nat) : Int))
theorem tdiv_natS (a b : Nat) : Int.tdiv (a : Int) (b : Int) = ((a / b : Nat) : Int) := (Int.ofNat_tdiv a b).symm
theorem impl_shareOf.ev (n t : Int) (hn : 0 ≤ n) (ht : 1 ≤ t) (hn2 : n ≤ 1000000000000) (ht2 : t ≤ 1000000000000) : Ev (fun k => impl_shareOf.f k n t) (shN n t) := by
  have hg := impl_gcd.ev t.toNat n.toNat
  have hp : 0 < Nat.gcd n.toNat t.toNat := Nat.gcd_pos_of_pos_right _ (by omega)
  have h1 := Nat.div_le_self n.toNat (Nat.gcd n.toNat t.toNat)
  have h2 := Nat.div_le_self t.toNat (Nat.gcd n.toNat t.toNat)
  rw [show ((n.toNat : Nat) : Int) = n by omega, show ((t.toNat : Nat) : Int) = t by omega] at hg
  have e1 : Int.tdiv n ((Nat.gcd n.toNat t.toNat : Nat) : Int) = ((n.toNat / Nat.gcd n.toNat t.toNat : Nat) : Int) := by
    conv => lhs; rw [show n = ((n.toNat : Nat) : Int) by omega]
    rw [tdiv_natS, Int.toNat_natCast]
  have e2 : Int.tdiv t ((Nat.gcd n.toNat t.toNat : Nat) : Int) = ((t.toNat / Nat.gcd n.toNat t.toNat : Nat) : Int) := by
    conv => lhs; rw [show t = ((t.toNat : Nat) : Int) by omega]
    rw [tdiv_natS, Int.toNat_natCast]
  simp only [impl_shareOf.f]
  rw [ev_bind hg, ev_neg (by omega), ev_now, e1, e2]
  clear hg e1 e2
  unfold shN
  generalize n.toNat / Nat.gcd n.toNat t.toNat = y at *
  generalize t.toNat / Nat.gcd n.toNat t.toNat = z at *
  rw [w64 (by omega) (by omega), w64 (by omega) (by omega)]
theorem spec_pwShare.ev (n t : Int) (hn : 0 ≤ n) (ht : 1 ≤ t) (hn2 : n ≤ 1000000000000) (ht2 : t ≤ 1000000000000) : Ev (fun k => spec_pwShare.f k n t) (shN n t) := by
  have hg := spec_pwCommon.ev t.toNat n.toNat
  have hp : 0 < Nat.gcd n.toNat t.toNat := Nat.gcd_pos_of_pos_right _ (by omega)
  have h1 := Nat.div_le_self n.toNat (Nat.gcd n.toNat t.toNat)
  have h2 := Nat.div_le_self t.toNat (Nat.gcd n.toNat t.toNat)
  rw [show ((n.toNat : Nat) : Int) = n by omega, show ((t.toNat : Nat) : Int) = t by omega] at hg
  have e1 : Int.tdiv n ((Nat.gcd n.toNat t.toNat : Nat) : Int) = ((n.toNat / Nat.gcd n.toNat t.toNat : Nat) : Int) := by
    conv => lhs; rw [show n = ((n.toNat : Nat) : Int) by omega]
    rw [tdiv_natS, Int.toNat_natCast]
  have e2 : Int.tdiv t ((Nat.gcd n.toNat t.toNat : Nat) : Int) = ((t.toNat / Nat.gcd n.toNat t.toNat : Nat) : Int) := by
    conv => lhs; rw [show t = ((t.toNat : Nat) : Int) by omega]
    rw [tdiv_natS, Int.toNat_natCast]
  simp only [spec_pwShare.f]
  rw [ev_bind hg, ev_neg (by omega), ev_now, e1, e2]
  clear hg e1 e2
  unfold shN
  generalize n.toNat / Nat.gcd n.toNat t.toNat = y at *
  generalize t.toNat / Nat.gcd n.toNat t.toNat = z at *
  rw [w64 (by omega) (by omega), w64 (by omega) (by omega)]
def shRow (l : List Int) (t : Int) : List S88 := l.map fun n => ⟨(shN n t).1, (shN n t).2⟩
theorem shRow_snoc (l : List Int) (t : Int) (i : Nat) (h : i < l.length) : shRow (l.take (i + 1)) t = shRow (l.take i) t ++ [⟨(shN l[i] t).1, (shN l[i] t).2⟩] := by
  rw [List.take_succ_eq_append_getElem h, shRow, List.map_append]
  rfl
theorem impl_sharesOf.ev_l (l : List Int) (t : Int) (hl : l.length ≤ 1000000) (ht : 1 ≤ t) (ht2 : t ≤ 1000000000000) (hx : ∀ x ∈ l, 0 ≤ x ∧ x ≤ 1000000000000) : ∀ (d i : Nat), i + d = l.length → Ev (fun k => impl_sharesOf.l0 k t (shRow (l.take i) t) l (l.length : Int) (i : Int)) (shRow l t) := by
  intro d
  induction d with
  | zero =>
    intro i h
    refine ev_step ?_
    simp only [impl_sharesOf.l0]
    rw [ev_neg (by omega), ev_now, List.take_of_length_le (by omega)]
  | succ d ih =>
    intro i h
    refine ev_step ?_
    simp only [impl_sharesOf.l0]
    have hi : i < l.length := by omega
    have hxi := hx l[i] (List.getElem_mem hi)
    have hlen : (shRow (l.take i) t).length = i := by simp [shRow]; omega
    have := ih (i + 1) (by omega)
    rw [shRow_snoc l t i hi] at this
    rw [ev_pos (by omega), ev_pos (by omega), ev_pos (by omega), rd_lt l i hi, ev_bind (impl_shareOf.ev l[i] t hxi.1 ht hxi.2 ht2), ev_pos (by omega), w64i (n := l.length) (by omega) (by omega) (by omega)]
    exact this
theorem impl_sharesOf.ev (l : List Int) (t : Int) (hl : l.length ≤ 1000000) (ht : 1 ≤ t) (ht2 : t ≤ 1000000000000) (hx : ∀ x ∈ l, 0 ≤ x ∧ x ≤ 1000000000000) : Ev (fun k => impl_sharesOf.f k l t) (shRow l t) := impl_sharesOf.ev_l l t hl ht ht2 hx l.length 0 (by omega)
theorem spec_l1In.v (a b c : Int) : spec_l1In.f a b c = some (decide (b ≤ a) && decide (a ≤ c)) := by
  unfold spec_l1In.f
  by_cases h : b ≤ a
  · rw [if_pos h]; simp [h]
  · rw [if_neg h]; simp [h]
theorem spec_voSum.ev_l (l : List Int) (hl : l.length ≤ 9223372036854775807) : ∀ (d i : Nat) (s : Int), i + d = l.length → Ev (fun k => spec_voSum.l0 k s l (l.length : Int) (i : Int)) (wfold (l.drop i) s) := by
  intro d
  induction d with
  | zero =>
    intro i s h
    refine ev_step ?_
    simp only [spec_voSum.l0]
    rw [ev_neg (by omega), ev_now, List.drop_of_length_le (by omega)]
    rfl
  | succ d ih =>
    intro i s h
    refine ev_step ?_
    simp only [spec_voSum.l0]
    have hi : i < l.length := by omega
    rw [ev_pos (by omega), ev_pos (by omega), ev_pos (by omega), w64i (n := l.length) (by omega) (by omega) hl, rd_lt l i hi, wfold_take l i hi]
    exact ih (i + 1) _ (by omega)
theorem spec_voSum.ev (l : List Int) (hl : l.length ≤ 9223372036854775807) : Ev (fun k => spec_voSum.f k l) (wfold l 0) := spec_voSum.ev_l l hl l.length 0 0 (by omega)
theorem spec_l1All.ev_l (l : List Int) (lo hi : Int) (hl : l.length ≤ 9223372036854775807) : ∀ (d i : Nat), i + d = l.length → Ev (fun k => spec_l1All.l0 k lo hi l (l.length : Int) (i : Int)) ((l.drop i).all fun x => decide (lo ≤ x) && decide (x ≤ hi)) := by
  intro d
  induction d with
  | zero =>
    intro i h
    refine ev_step ?_
    simp only [spec_l1All.l0]
    rw [ev_neg (by omega), ev_now, List.drop_of_length_le (by omega)]
    rfl
  | succ d ih =>
    intro i h
    refine ev_step ?_
    simp only [spec_l1All.l0]
    have hi' : i < l.length := by omega
    rw [ev_pos (by omega), ev_pos (by omega), ev_pos (by omega), w64i (n := l.length) (by omega) (by omega) hl, rd_lt l i hi', List.drop_eq_getElem_cons hi', List.all_cons, ev_bind (ev_of (spec_l1In.v _ _ _))]
    cases hb : (decide (lo ≤ l[i]) && decide (l[i] ≤ hi)) with
    | true =>
      rw [ev_pos rfl, Bool.true_and]
      exact ih (i + 1) (by omega)
    | false =>
      rw [ev_neg (by decide), ev_now]
      rfl
theorem spec_l1All.ev (l : List Int) (lo hi : Int) (hl : l.length ≤ 9223372036854775807) : Ev (fun k => spec_l1All.f k l lo hi) (l.all fun x => decide (lo ≤ x) && decide (x ≤ hi)) := spec_l1All.ev_l l lo hi hl l.length 0 (by omega)
theorem spec_voGood.ev (q : Int) (l : List Int) (hl : l.length ≤ 9223372036854775807) : Ev (fun k => spec_voGood.f k q l) (goodB q l) := by
  simp only [spec_voGood.f]
  rw [ev_bind (ev_of (spec_l1In.v _ _ _))]
  unfold goodB
  by_cases h1 : 1 ≤ (l.length : Int) ∧ (l.length : Int) ≤ 9
  · rw [ev_pos (by simp [h1]), ev_bind (spec_l1All.ev l 0 1000 hl)]
    refine ev_step ?_
    simp only [spec_voGood.j0]
    cases hb : (l.all fun x => decide (0 ≤ x) && decide (x ≤ 1000)) with
    | true =>
      rw [ev_neg (by simp), ev_bind (spec_voSum.ev l hl), ev_bind (ev_of (spec_l1In.v _ _ _)), ev_now, wfold_w l (by omega) hb]
      have e1 : 1 ≤ l.length := by omega
      have e2 : l.length ≤ 9 := by omega
      simp [e1, e2]
    | false =>
      rw [ev_pos (by simp), ev_now]
      simp
  · rw [ev_neg (by simpa using h1)]
    refine ev_step ?_
    simp only [spec_voGood.j0]
    rw [ev_pos (by simp), ev_now]
    have : ¬ (1 ≤ l.length ∧ l.length ≤ 9) := by omega
    by_cases e1 : 1 ≤ l.length
    · have e2 : ¬ l.length ≤ 9 := by omega
      simp [e2]
    · simp [e1]
theorem spec_voList.ev_l (m : Nat) (hm : m < 2 ^ 62) : ∀ (d i : Nat), i + d = 62 → Ev (fun k => spec_voList.l0 k (m : Int) (setTo m i) (i : Int)) (setN m) := by
  intro d
  induction d with
  | zero =>
    intro i h
    refine ev_step ?_
    simp only [spec_voList.l0]
    have e : m / 2 ^ i = 0 := by rw [show i = 62 by omega]; exact Nat.div_eq_of_lt hm
    rw [ev_pos (by omega), shr_nat m i (by omega), e, ev_neg (by omega), ev_now, setTo_done e (by omega)]
  | succ d ih =>
    intro i h
    refine ev_step ?_
    simp only [spec_voList.l0]
    have hl := setTo_len m i
    have et : Int.tmod ((m / 2 ^ i : Nat) : Int) 2 = ((m / 2 ^ i % 2 : Nat) : Int) := (Int.ofNat_tmod (m / 2 ^ i) 2).symm
    rw [ev_pos (by omega), shr_nat m i (by omega), w64 (by omega) (by omega)]
    by_cases e : m / 2 ^ i = 0
    · rw [ev_neg (by omega), ev_now, setTo_done e (by omega)]
    · rw [ev_pos (Int.natCast_pos.2 (Nat.pos_of_ne_zero e)), et]
      have := ih (i + 1) (by omega)
      rw [setTo_succ] at this
      by_cases hb : m / 2 ^ i % 2 = 1
      · rw [if_pos (by simp [bitB, hb])] at this
        rw [ev_pos (by rw [hb]; rfl), ev_pos (by omega)]
        exact this
      · rw [if_neg (by simp [bitB]; omega)] at this
        rw [ev_neg (c := ((m / 2 ^ i % 2 : Nat) : Int) = 1) (fun h_ => hb (Int.ofNat_inj.1 h_))]
        exact this
theorem spec_voList.ev (m : Nat) (hm : m < 2 ^ 62) : Ev (fun k => spec_voList.f k (m : Int)) (setN m) := spec_voList.ev_l m hm 62 0 (by omega)
theorem spec_voBefore.ev_l (a b : List Int) (ha : a.length ≤ 9223372036854775807) : ∀ (d i : Nat), i + d = a.length → i ≤ b.length → Ev (fun k => spec_voBefore.l0 k a b (i : Int)) (decide (cmpL (a.drop i) (b.drop i) < 0)) := by
  intro d
  induction d with
  | zero =>
    intro i h hb
    refine ev_step ?_
    simp only [spec_voBefore.l0]
    rw [ev_neg (by omega)]
    refine ev_step ?_
    simp only [spec_voBefore.j1]
    rw [ev_neg (by simp), ev_now, List.drop_of_length_le (by omega)]
    by_cases hc : (a.length : Int) < (b.length : Int)
    · rw [decide_eq_true hc, List.drop_eq_getElem_cons (by omega)]
      rfl
    · rw [decide_eq_false hc, List.drop_of_length_le (by omega)]
      rfl
  | succ d ih =>
    intro i h hb
    refine ev_step ?_
    simp only [spec_voBefore.l0]
    have hi : i < a.length := by omega
    rw [ev_pos (by omega)]
    refine ev_step ?_
    simp only [spec_voBefore.j1]
    by_cases hc : (i : Int) < (b.length : Int)
    · have hib : i < b.length := by omega
      rw [ev_pos (decide_eq_true hc), ev_pos (by omega), ev_pos (by omega), ev_pos (by omega), rd_lt a i hi, rd_lt b i hib, w64i (n := a.length) (by omega) (by omega) ha, List.drop_eq_getElem_cons hi, List.drop_eq_getElem_cons hib]
      by_cases h1 : a[i] = b[i]
      · have e : cmpL (a[i] :: a.drop (i + 1)) (b[i] :: b.drop (i + 1)) = cmpL (a.drop (i + 1)) (b.drop (i + 1)) := by simp only [cmpL]; rw [if_neg (by omega), if_neg (by omega)]
        rw [ev_pos h1, e]
        exact ih (i + 1) (by omega) (by omega)
      · rw [ev_neg h1, ev_now]
        by_cases h2 : a[i] < b[i]
        · have e : cmpL (a[i] :: a.drop (i + 1)) (b[i] :: b.drop (i + 1)) = -1 := by simp only [cmpL]; rw [if_pos h2]
          rw [e, decide_eq_true h2]; rfl
        · have e : cmpL (a[i] :: a.drop (i + 1)) (b[i] :: b.drop (i + 1)) = 1 := by simp only [cmpL]; rw [if_neg h2, if_pos (by omega)]
          rw [e, decide_eq_false h2]; rfl
    · rw [ev_neg (by simp; omega), ev_now, List.drop_eq_getElem_cons hi, List.drop_of_length_le (by omega : b.length ≤ i), decide_eq_false (by omega)]
      rfl
theorem spec_voBefore.ev (a b : List Int) (ha : a.length ≤ 9223372036854775807) : Ev (fun k => spec_voBefore.f k a b) (decide (cmpL a b < 0)) := spec_voBefore.ev_l a b ha a.length 0 (by omega) (by omega)
def upL (xs : List (List Int)) : Prop := xs.Pairwise fun a b => cmpL a b ≤ 0
theorem upL_sorted {xs ys : List (List Int)} (hp : ys.Perm xs) (h : upL ys) : ys = Go.Proofs.YtmmmblfghhcndaaS.sortL xs := by
  refine Go.Proofs.YtmmmblfghhcndaaS.sortL_of hp (List.Pairwise.imp (fun {a b} hab => ?_) h)
  have := cmpL_swap a b
  show decide (cmpL b a < 0) = false
  exact decide_eq_false (by omega)
theorem upL_insert {xs : List (List Int)} {s : List Int} {y : Nat} (h : upL xs) (h1 : ∀ j (hj : j < xs.length), j < y → cmpL xs[j] s < 0) (h2 : ∀ hy : y < xs.length, ¬ (cmpL xs[y] s < 0)) : upL (xs.take y ++ s :: xs.drop y) := by
  have hp := h
  rw [← List.take_append_drop y xs, upL, List.pairwise_append] at hp
  rw [upL, List.pairwise_append, List.pairwise_cons]
  have hd : ∀ b ∈ xs.drop y, cmpL s b ≤ 0 := by
    intro b hb
    obtain ⟨j, hj, rfl⟩ := List.getElem_of_mem hb
    rw [List.length_drop] at hj
    have hy : y < xs.length := by omega
    rw [List.getElem_drop]
    have h3 := h2 hy
    have h4 := cmpL_swap s xs[y]
    have h5 : cmpL xs[y] xs[y + j] ≤ 0 := by
      rcases Nat.eq_zero_or_pos j with e | e
      · subst e
        simp only [Nat.add_zero]
        rw [cmpL_self]
        omega
      · rw [upL, List.pairwise_iff_getElem] at h
        exact h y (y + j) hy (by omega) (by omega)
    exact cmpL_le_trans s xs[y] xs[y + j] (by omega) h5
  refine ⟨hp.1, ⟨hd, hp.2.1⟩, fun a ha b hb => ?_⟩
  obtain ⟨j, hj, rfl⟩ := List.getElem_of_mem ha
  rw [List.length_take] at hj
  rw [List.getElem_take]
  have h3 := h1 j (by omega) (by omega)
  rcases List.mem_cons.1 hb with rfl | hb
  · omega
  · exact cmpL_le_trans _ s b (by omega) (hd b hb)
theorem spec_voSorted.ev_l1 (l : List (List Int)) (hl : l.length < 1000000) (hx : ∀ x ∈ l, x.length ≤ 9223372036854775807) (i : Nat) (hi : i < l.length) (out : List (List Int)) (ho : out.length = i) (hup : upL out) (hpm : out.Perm (l.take i)) (hnext : ∀ out' : List (List Int), out'.length = i + 1 → upL out' → out'.Perm (l.take (i + 1)) → Ev (fun k => spec_voSorted.l0 k out' l ((i : Int) + 1)) (Go.Proofs.YtmmmblfghhcndaaS.sortL l)) : ∀ (d y : Nat), y + d = out.length → (∀ j (hj : j < out.length), j < y → cmpL out[j] l[i] < 0) → Ev (fun k => spec_voSorted.l1 k out l (i : Int) l[i] (y : Int)) (Go.Proofs.YtmmmblfghhcndaaS.sortL l) := by
  have hgo : ∀ y : Nat, y ≤ out.length → (∀ j (hj : j < out.length), j < y → cmpL out[j] l[i] < 0) → (∀ hy : y < out.length, ¬ (cmpL out[y] l[i] < 0)) → Ev (fun k => if out.length < 5000000000000 then spec_voSorted.l0 k (out.take ((y : Int)).toNat ++ l[i] :: out.drop ((y : Int)).toNat) l (wrap64 ((i : Int) + 1)) else none) (Go.Proofs.YtmmmblfghhcndaaS.sortL l) := by
    intro y hy h1 h2
    rw [ev_pos (by omega), Int.toNat_natCast, w64 (by omega) (by omega)]
    refine hnext _ ?_ (upL_insert hup h1 h2) ?_
    · rw [List.length_append, List.length_cons, List.length_take, List.length_drop]
      omega
    · refine List.perm_middle.trans ?_
      rw [List.take_append_drop, List.take_succ_eq_append_getElem hi]
      exact (List.Perm.cons _ hpm).trans (List.perm_append_singleton _ _).symm
  intro d
  induction d with
  | zero =>
    intro y hy h1
    refine ev_step ?_
    simp only [spec_voSorted.l1]
    rw [ev_neg (by omega)]
    exact hgo y (by omega) h1 (fun h => by omega)
  | succ d ih =>
    intro y hy h1
    refine ev_step ?_
    simp only [spec_voSorted.l1]
    have hyl : y < out.length := by omega
    have hmem : out[y] ∈ l := List.mem_of_mem_take (hpm.mem_iff.1 (List.getElem_mem hyl))
    rw [ev_pos (by omega), rdOf_lt [] out y hyl, ev_bind (spec_voBefore.ev out[y] l[i] (hx _ hmem))]
    by_cases c : cmpL out[y] l[i] < 0
    · rw [ev_pos (decide_eq_true c), w64 (by omega) (by omega)]
      refine ih (y + 1) (by omega) (fun j hj hjy => ?_)
      rcases Nat.lt_or_ge j y with e | e
      · exact h1 j hj e
      · have : j = y := by omega
        subst this
        exact c
    · rw [ev_neg (by simp [c])]
      exact hgo y (by omega) h1 (fun _ => c)
theorem spec_voSorted.ev_l0 (l : List (List Int)) (hl : l.length < 1000000) (hx : ∀ x ∈ l, x.length ≤ 9223372036854775807) : ∀ (d i : Nat) (out : List (List Int)), i + d = l.length → out.length = i → upL out → out.Perm (l.take i) → Ev (fun k => spec_voSorted.l0 k out l (i : Int)) (Go.Proofs.YtmmmblfghhcndaaS.sortL l) := by
  intro d
  induction d with
  | zero =>
    intro i out h ho hup hpm
    refine ev_step ?_
    simp only [spec_voSorted.l0]
    rw [List.take_of_length_le (by omega)] at hpm
    rw [ev_neg (by omega), ev_now]
    exact upL_sorted hpm hup
  | succ d ih =>
    intro i out h ho hup hpm
    refine ev_step ?_
    simp only [spec_voSorted.l0]
    have hi : i < l.length := by omega
    rw [ev_pos (by omega), ev_pos (by omega), rdOf_lt [] l i hi]
    exact spec_voSorted.ev_l1 l hl hx i hi out ho hup hpm (fun out' h1 h2 h3 => ih (i + 1) out' (by omega) h1 h2 h3) out.length 0 (by omega) (fun j _ hj => by omega)
theorem spec_voSorted.ev (l : List (List Int)) (hl : l.length < 1000000) (hx : ∀ x ∈ l, x.length ≤ 9223372036854775807) : Ev (fun k => spec_voSorted.f k l) (Go.Proofs.YtmmmblfghhcndaaS.sortL l) := spec_voSorted.ev_l0 l hl hx l.length 0 [] (by omega) rfl List.Pairwise.nil (by simp)
theorem spec_voLeast.ev_l1 (W : List Bool) (n : Nat) (hW : W.length = 2 ^ n) (hn : n ≤ 18) (m : Nat) (hm : m < W.length) (out : List (List Int)) (ho : out.length ≤ 1000000) (R : List (List Int)) : ∀ (d j : Nat) (b : Bool), j + d = (setN m).length → Ev (fun k => spec_voLeast.l0 k W (if (b && ((setN m).drop j).all fun x => !(W.getD (m - 2 ^ x.toNat) false)) = true then out ++ [setN m] else out) W (W.length : Int) ((m : Int) + 1)) R → Ev (fun k => spec_voLeast.l1 k W out (m : Int) b W (W.length : Int) (m : Int) (setN m) ((setN m).length : Int) (j : Int)) R := by
  have hp : 2 ^ n ≤ 2 ^ 18 := Nat.pow_le_pow_right (by omega) hn
  have hto := setN_to (m := m) (n := n) (by omega) (by omega)
  have hln : (setN m).length ≤ n := by rw [hto]; exact setTo_len m n
  intro d
  induction d with
  | zero =>
    intro j b h hR
    refine ev_step ?_
    simp only [spec_voLeast.l1]
    rw [List.drop_of_length_le (by omega), List.all_nil, Bool.and_true] at hR
    rw [ev_neg (by omega), w64 (x := (m : Int) + 1) (by omega) (by omega)]
    cases b with
    | true =>
      rw [if_pos rfl] at hR
      rw [ev_pos rfl, ev_bind (spec_voList.ev m (by omega)), ev_pos (by omega)]
      exact hR
    | false =>
      rw [if_neg (by decide)] at hR
      rw [ev_neg (by decide)]
      exact hR
  | succ d ih =>
    intro j b h hR
    refine ev_step ?_
    simp only [spec_voLeast.l1]
    have hj : j < (setN m).length := by omega
    have hx := setTo_in (m := m) (n := n) (setN m)[j] (by rw [← hto]; exact List.getElem_mem hj)
    rw [List.drop_eq_getElem_cons hj, List.all_cons] at hR
    rw [ev_pos (by omega), ev_pos (by omega), ev_pos (by omega), w64 (x := (j : Int) + 1) (by omega) (by omega), rd_lt (setN m) j hj]
    cases b with
    | true =>
      obtain ⟨c, hc⟩ := Int.eq_ofNat_of_zero_le hx.1
      have hcb : bitB m c = true := by have := hx.2.2; rw [hc, Int.toNat_natCast] at this; exact this
      have hcn : c < n := by have := hx.2.1; omega
      have hge : 2 ^ c ≤ m := by
        have hbb : m / 2 ^ c % 2 = 1 := by simpa [bitB] using hcb
        rcases Nat.lt_or_ge m (2 ^ c) with h1 | h1
        · rw [Nat.div_eq_of_lt h1] at hbb; omega
        · exact h1
      have h0 : 0 < 2 ^ c := Nat.two_pow_pos c
      have e1 : wrap64 ((m : Int) - ((2 ^ c : Nat) : Int)) = ((m - 2 ^ c : Nat) : Int) := by
        rw [w64 (by omega) (by omega)]
        omega
      rw [hc, Int.toNat_natCast, Bool.true_and] at hR
      rw [ev_pos rfl, hc, ev_pos (by omega), shl_one c (by omega), e1, ev_pos (by omega), ev_pos (by omega), rdOf_nat]
      exact ih (j + 1) _ (by omega) hR
    | false =>
      rw [Bool.false_and] at hR
      rw [ev_neg (by decide)]
      exact ih (j + 1) false (by omega) (by rw [Bool.false_and]; exact hR)
theorem leastB_set (W : List Bool) (n m : Nat) (hm : m < 2 ^ n) (hn : n ≤ 62) : leastB W n m = (W.getD m false && (setN m).all fun x => !(W.getD (m - 2 ^ x.toNat) false)) := by
  rw [leastB, setN_to hm hn]
  congr 1
  exact (setTo_all m n (fun i => !(W.getD (m - 2 ^ i) false))).symm
theorem spec_voLeast.ev_l0 (W : List Bool) (n : Nat) (hW : W.length = 2 ^ n) (hn : n ≤ 18) : ∀ (d m : Nat), m + d = W.length → Ev (fun k => spec_voLeast.l0 k W (takeL (leastB W n) m) W (W.length : Int) (m : Int)) (Go.Proofs.YtmmmblfghhcndaaS.sortL (takeL (leastB W n) W.length)) := by
  have hp : 2 ^ n ≤ 2 ^ 18 := Nat.pow_le_pow_right (by omega) hn
  intro d
  induction d with
  | zero =>
    intro m h
    refine ev_step ?_
    simp only [spec_voLeast.l0]
    have hl := takeL_len (leastB W n) m
    rw [ev_neg (by omega), ev_bind (spec_voSorted.ev _ (by omega) (fun x hx => by
      obtain ⟨a, ha, _, rfl⟩ := takeL_mem x hx
      have := setTo_len a n
      rw [← setN_to (m := a) (n := n) (by omega) (by omega)] at this
      omega)), ev_now, show m = W.length by omega]
  | succ d ih =>
    intro m h
    refine ev_step ?_
    simp only [spec_voLeast.l0]
    have hm : m < W.length := by omega
    have hl := takeL_len (leastB W n) m
    have hih := ih (m + 1) (by omega)
    rw [takeL_succ, leastB_set W n m (by omega) (by omega)] at hih
    have ew : W.getD m false = W[m] := by simp [hm]
    rw [ev_pos (by omega), ev_pos (by omega), ev_pos (by omega), rdOf_lt false W m hm]
    cases hw : W[m] with
    | true =>
      rw [ew, hw] at hih
      rw [ev_pos rfl, ev_bind (spec_voList.ev m (by omega))]
      refine spec_voLeast.ev_l1 W n hW hn m hm _ (by omega) _ (setN m).length 0 true (by omega) ?_
      rw [List.drop_zero]
      exact hih
    | false =>
      rw [ew, hw, Bool.false_and, if_neg (by decide)] at hih
      rw [ev_neg (by decide), w64 (by omega) (by omega)]
      exact hih
theorem spec_voLeast.ev (W : List Bool) (n : Nat) (hW : W.length = 2 ^ n) (hn : n ≤ 18) : Ev (fun k => spec_voLeast.f k W) (Go.Proofs.YtmmmblfghhcndaaS.sortL (takeL (leastB W n) W.length)) := spec_voLeast.ev_l0 W n hW hn W.length 0 (by omega)
theorem spec_voAll.v (n : Nat) (hn : n ≤ 60) : spec_voAll.f (n : Int) = some ((2 ^ n - 1 : Nat) : Int) := by
  unfold spec_voAll.f
  have h0 : 0 < 2 ^ n := Nat.two_pow_pos n
  have h : 2 ^ n ≤ 2 ^ 60 := Nat.pow_le_pow_right (by omega) hn
  rw [if_pos (by omega), shl_one n (by omega), w64 (by omega) (by omega)]
  congr 1
  omega
theorem spec_bit (m i : Nat) (hm : m < 2 ^ 62) (hi : i ≤ 62) : Int.tmod (shr .i64 (m : Int) (i : Int)) 2 = ((m / 2 ^ i % 2 : Nat) : Int) := by
  rw [shr_nat m i (by omega)]
  generalize m / 2 ^ i = x
  rw [Int.tmod_eq_emod_of_nonneg (by omega)]
  omega
theorem spec_voWeight.ev_l (q : Int) (ws : List Int) (m : Nat) (hm : m < 2 ^ 62) (hl : ws.length ≤ 60) (hw : ∀ x ∈ ws, 0 ≤ x ∧ x ≤ 1000000000) : ∀ (d i : Nat) (s : Int), i + d = ws.length → 0 ≤ s → s + wsum (ws.drop i) (m / 2 ^ i) ≤ 1000000000000 → Ev (fun k => spec_voWeight.l0 k (m : Int) s ws (ws.length : Int) (i : Int)) (s + wsum (ws.drop i) (m / 2 ^ i)) := by
  intro d
  induction d with
  | zero =>
    intro i s h _ _
    refine ev_step ?_
    simp only [spec_voWeight.l0]
    rw [ev_neg (by omega), ev_now, List.drop_of_length_le (by omega)]
    simp [wsum]
  | succ d ih =>
    intro i s h h0 h1
    refine ev_step ?_
    simp only [spec_voWeight.l0]
    have hi : i < ws.length := by omega
    have hx := hw ws[i] (List.getElem_mem hi)
    have hd : wsum (ws.drop i) (m / 2 ^ i) = (if m / 2 ^ i % 2 = 1 then ws[i] else 0) + wsum (ws.drop (i + 1)) (m / 2 ^ (i + 1)) := by
      rw [wsum_drop ws i _ hi, Nat.div_div_eq_div_mul, ← Nat.pow_succ]
    have hb := wsum_bounds (ws.drop (i + 1)) (fun x hx => (hw x (List.mem_of_mem_drop hx)).1) (m / 2 ^ (i + 1))
    rw [ev_pos (by omega), ev_pos (by omega), ev_pos (by omega), spec_bit m i hm (by omega), w64i (n := ws.length) (by omega) (by omega) (by omega), rd_lt ws i hi, hd]
    rw [hd] at h1
    by_cases hbit : m / 2 ^ i % 2 = 1
    · rw [if_pos hbit] at h1 ⊢
      rw [ev_pos (by rw [hbit]; rfl), w64 (by omega) (by omega), ← Int.add_assoc]
      exact ih (i + 1) (s + ws[i]) (by omega) (by omega) (by omega)
    · rw [if_neg hbit] at h1 ⊢
      rw [ev_neg (by omega), Int.zero_add]
      exact ih (i + 1) s (by omega) h0 (by omega)
theorem spec_voWeight.ev (q : Int) (ws : List Int) (m : Nat) (hm : m < 2 ^ 62) (hl : ws.length ≤ 60) (hw : ∀ x ∈ ws, 0 ≤ x ∧ x ≤ 1000000000) : Ev (fun k => spec_voWeight.f k q ws (m : Int)) (wsum ws m) := by
  have hb := wsum_bounds ws (fun x hx => (hw x hx).1) m
  have hs := sum_bounds ws 1000000000 hw
  have := spec_voWeight.ev_l q ws m hm hl hw ws.length 0 0 (by omega) (by omega) (by simp; omega)
  simpa [spec_voWeight.f] using this
theorem winsL_take (q : Int) (ws : List Int) (m : Nat) (h : m < 2 ^ ws.length) : (winsL q ws).take (m + 1) = (winsL q ws).take m ++ [decide (q ≤ wsum ws m)] := by
  rw [List.take_succ_eq_append_getElem (by rw [winsL_length]; exact h), winsL_get]
theorem spec_voWins.ev_l (q : Int) (ws : List Int) (hl : ws.length ≤ 9) (hw : ∀ x ∈ ws, 0 ≤ x ∧ x ≤ 1000000000) : ∀ (d m : Nat), m + d = 2 ^ ws.length → Ev (fun k => spec_voWins.l0 k ((winsL q ws).take m) (m : Int) q ws) (winsL q ws) := by
  have hp : 2 ^ ws.length ≤ 2 ^ 9 := Nat.pow_le_pow_right (by omega) hl
  have h0 : 0 < 2 ^ ws.length := Nat.two_pow_pos _
  intro d
  induction d with
  | zero =>
    intro m h
    refine ev_step ?_
    simp only [spec_voWins.l0]
    rw [ev_bind (ev_of (spec_voAll.v ws.length (by omega))), ev_neg (by omega), ev_now, List.take_of_length_le (by rw [winsL_length]; omega)]
  | succ d ih =>
    intro m h
    refine ev_step ?_
    simp only [spec_voWins.l0]
    rw [ev_bind (ev_of (spec_voAll.v ws.length (by omega))), ev_pos (by omega), ev_bind (spec_voWeight.ev q ws m (by omega) (by omega) hw), ev_pos (by simp; omega), w64i (n := 512) (by omega) (by omega) (by omega)]
    have := ih (m + 1) (by omega)
    rw [winsL_take q ws m (by omega)] at this
    exact this
theorem spec_voWins.ev (q : Int) (ws : List Int) (hl : ws.length ≤ 9) (hw : ∀ x ∈ ws, 0 ≤ x ∧ x ≤ 1000000000) : Ev (fun k => spec_voWins.f k q ws) (winsL q ws) := by
  have := spec_voWins.ev_l q ws hl hw (2 ^ ws.length) 0 (by omega)
  simpa [spec_voWins.f] using this
theorem andNot_pow (m i : Nat) (hm : m < 2 ^ 62) (hi : i ≤ 61) (h : bitB m i = true) : Go.bits .andNot .i64 (m : Int) ((2 ^ i : Nat) : Int) = ((m - 2 ^ i : Nat) : Int) := by
  have hp : 2 ^ i ≤ 2 ^ 61 := Nat.pow_le_pow_right (by omega) hi
  have hb : m / 2 ^ i % 2 = 1 := by simpa [bitB] using h
  have hmi : m - 2 ^ i < 2 ^ 62 := Nat.lt_of_le_of_lt (Nat.sub_le _ _) hm
  have key : m &&& (2 ^ 64 - 1 - 2 ^ i) = m - 2 ^ i := by
    have hge : 2 ^ i ≤ m := by
      rcases Nat.lt_or_ge m (2 ^ i) with h1 | h1
      · rw [Nat.div_eq_of_lt h1] at hb; omega
      · exact h1
    have h0 : (m - 2 ^ i) / 2 ^ i % 2 = 0 := by
      have e : m = (m - 2 ^ i) + 2 ^ i := by omega
      have e2 : m / 2 ^ i = (m - 2 ^ i) / 2 ^ i + 1 := by
        conv => lhs; rw [e]
        exact Nat.add_div_right _ (Nat.two_pow_pos i)
      omega
    have hor := or_pow i (m - 2 ^ i) h0
    rw [Nat.sub_add_cancel hge] at hor
    apply Nat.eq_of_testBit_eq
    intro j
    rw [Nat.testBit_and, show 2 ^ 64 - 1 - 2 ^ i = 2 ^ 64 - (2 ^ i + 1) by omega, Nat.testBit_two_pow_sub_succ (by omega : 2 ^ i < 2 ^ 64)]
    have hmj : m.testBit j = ((m - 2 ^ i).testBit j || (2 ^ i).testBit j) := by rw [← Nat.testBit_or, hor]
    by_cases e : j = i
    · subst e
      have : (m - 2 ^ j).testBit j = false := by
        rw [Nat.testBit_eq_decide_div_mod_eq, h0]
        rfl
      rw [this, Nat.testBit_two_pow_self]
      simp
    · have h2 : (2 ^ i).testBit j = false := Nat.testBit_two_pow_of_ne (fun h => e h.symm)
      rw [hmj, h2]
      by_cases hj : j < 64
      · simp [hj]
      · have : (m - 2 ^ i).testBit j = false := Nat.testBit_lt_two_pow (Nat.lt_of_lt_of_le hmi (Nat.pow_le_pow_right (by omega) (by omega)))
        rw [this]
        simp
  have hbv : ((BitVec.ofInt 64 (m : Int)) &&& ~~~(BitVec.ofInt 64 ((2 ^ i : Nat) : Int))).toNat = m - 2 ^ i := by
    rw [BitVec.toNat_and, BitVec.toNat_not, BitVec.ofInt_natCast, BitVec.ofInt_natCast, BitVec.toNat_ofNat, BitVec.toNat_ofNat, Nat.mod_eq_of_lt (by omega : m < 2 ^ 64), Nat.mod_eq_of_lt (by omega : 2 ^ i < 2 ^ 64)]
    exact key
  show IntKind.i64.wrap (((BitVec.ofInt 64 (m : Int)) &&& ~~~(BitVec.ofInt 64 ((2 ^ i : Nat) : Int))).toNat : Int) = _
  rw [hbv]
  exact (fun (x : Nat) (hx : x < 2 ^ 62) => i64_wrap (x := (x : Int)) (by omega) (by omega)) (m - 2 ^ i) hmi
theorem impl_setOf.ev_l (m : Nat) (hm : m < 2 ^ 62) : ∀ (d i : Nat), i + d = 62 → Ev (fun k => impl_setOf.l0 k (m : Int) (setTo m i) (i : Int)) (setN m) := by
  intro d
  induction d with
  | zero =>
    intro i h
    refine ev_step ?_
    simp only [impl_setOf.l0]
    have e : m / 2 ^ i = 0 := by rw [show i = 62 by omega]; exact Nat.div_eq_of_lt hm
    rw [ev_pos (by omega), shr_nat m i (by omega), e, ev_neg (by omega), ev_now, setTo_done e (by omega)]
  | succ d ih =>
    intro i h
    refine ev_step ?_
    simp only [impl_setOf.l0]
    have hlt : m / 2 ^ i < 2 ^ 62 := Nat.lt_of_le_of_lt (Nat.div_le_self _ _) hm
    have hl := setTo_len m i
    rw [ev_pos (by omega), shr_nat m i (by omega), w64 (by omega) (by omega)]
    by_cases e : m / 2 ^ i = 0
    · rw [ev_neg (by omega), ev_now, setTo_done e (by omega)]
    · rw [ev_pos (Int.natCast_pos.2 (Nat.pos_of_ne_zero e)), and_one _ hlt]
      have := ih (i + 1) (by omega)
      rw [setTo_succ] at this
      by_cases hb : m / 2 ^ i % 2 = 1
      · rw [if_pos (by simp [bitB, hb])] at this
        rw [ev_pos (by rw [hb]; rfl), ev_pos (by omega)]
        exact this
      · rw [if_neg (by simp [bitB]; omega)] at this
        rw [ev_neg (c := ((m / 2 ^ i % 2 : Nat) : Int) = 1) (fun h_ => hb (Int.ofNat_inj.1 h_))]
        exact this
theorem impl_setOf.ev (m : Nat) (hm : m < 2 ^ 62) : Ev (fun k => impl_setOf.f k (m : Int)) (setN m) := impl_setOf.ev_l m hm 62 0 (by omega)
theorem impl_votes_isLeast.ev_l (W : List Bool) (n m : Nat) (hW : W.length = 2 ^ n) (hn : n ≤ 18) (hm : m < 2 ^ n) : ∀ (d i : Nat), i + d = n → Ev (fun k => impl_votes_isLeast.l0 k (m : Int) (n : Int) (i : Int) (n : Int) W) ((List.range' i d).all fun i => !(bitB m i) || !(W.getD (m - 2 ^ i) false)) := by
  have hp : 2 ^ n ≤ 2 ^ 18 := Nat.pow_le_pow_right (by omega) hn
  intro d
  induction d with
  | zero =>
    intro i h
    refine ev_step ?_
    simp only [impl_votes_isLeast.l0]
    rw [ev_neg (by omega), ev_now]
    rfl
  | succ d ih =>
    intro i h
    refine ev_step ?_
    simp only [impl_votes_isLeast.l0]
    have hih := ih (i + 1) (by omega)
    rw [ev_pos (by omega), ev_bind (ev_of (show impl_has.f (m : Int) (i : Int) = some (bitB m i) from impl_has.v m i (by omega) (by omega))), w64 (by omega) (by omega), List.range'_succ, List.all_cons]
    by_cases hb : bitB m i = true
    · have hpi : 2 ^ i ≤ 2 ^ n := Nat.pow_le_pow_right (by omega) (by omega)
      have hsub : m - 2 ^ i < W.length := by rw [hW]; exact Nat.lt_of_le_of_lt (Nat.sub_le _ _) hm
      rw [ev_pos hb, ev_pos (by omega), shl_one i (by omega), andNot_pow m i (by omega) (by omega) hb, ev_pos (Int.natCast_nonneg _), ev_pos (Int.ofNat_lt.2 hsub), rdOf_nat, hb]
      cases hw : W.getD (m - 2 ^ i) false with
      | true =>
        rw [ev_pos rfl, ev_now]
        rfl
      | false =>
        rw [ev_neg (by decide)]
        exact hih
    · rw [ev_neg hb, Bool.eq_false_iff.2 hb]
      exact hih
theorem impl_votes_isLeast.ev (W : List Bool) (n m : Nat) (hW : W.length = 2 ^ n) (hn : n ≤ 18) (hm : m < 2 ^ n) : Ev (fun k => impl_votes_isLeast.f k (n : Int) W (m : Int)) (leastB W n m) := by
  simp only [impl_votes_isLeast.f]
  rw [ev_pos (by omega), ev_pos (by omega), rdOf_nat, leastB]
  cases hw : W.getD m false with
  | true =>
    rw [ev_pos rfl, Bool.true_and, List.range_eq_range']
    exact impl_votes_isLeast.ev_l W n m hW hn hm n 0 (by omega)
  | false =>
    rw [ev_neg (by decide), ev_now]
    rfl
theorem impl_votes_sets.at_l (W : List Bool) (hW : W.length ≤ 1000000) (P : Int → Option Bool) (p : Nat → Bool) (K : Nat) (hP : ∀ m, m < W.length → P (m : Int) = some (p m)) (hS : ∀ k, K ≤ k → ∀ m, m < W.length → impl_setOf.f k (m : Int) = some (setN m)) : ∀ (d i k : Nat), i + d = W.length → K + d < k → impl_votes_sets.l0 k P W (takeL p i) (i : Int) = some (takeL p W.length) := by
  intro d
  induction d with
  | zero =>
    intro i k h hk
    obtain ⟨k, rfl⟩ : ∃ j, k = j + 1 := ⟨k - 1, by omega⟩
    simp only [impl_votes_sets.l0]
    rw [if_neg (by omega), show i = W.length by omega]
  | succ d ih =>
    intro i k h hk
    obtain ⟨k, rfl⟩ : ∃ j, k = j + 1 := ⟨k - 1, by omega⟩
    have hi : i < W.length := by omega
    have hl := takeL_len p i
    have hih := ih (i + 1) k (by omega) (by omega)
    rw [takeL_succ] at hih
    simp only [impl_votes_sets.l0]
    rw [if_pos (by omega), hP i hi, Option.bind_some, w64 (by omega) (by omega), hS k (by omega) i hi, Option.bind_some]
    cases hp : p i with
    | true =>
      rw [hp, if_pos rfl] at hih
      rw [if_pos rfl, if_pos (by omega)]
      exact hih
    | false =>
      rw [hp, if_neg (by decide)] at hih
      rw [if_neg (by decide)]
      exact hih
theorem impl_votes_sets.ev (W : List Bool) (hW : W.length ≤ 1000000) (P : Nat → Int → Option Bool) (p : Nat → Bool) (hP : ∀ m, m < W.length → Ev (fun k => P k (m : Int)) (p m)) : Ev (fun k => impl_votes_sets.g k W (P k)) (Go.Proofs.YtmmmblfghhcndaaS.sortL (takeL p W.length)) := by
  obtain ⟨K1, h1⟩ := ev_all W.length (fun k m => P k (m : Int)) p hP
  obtain ⟨K2, h2⟩ := ev_all W.length (fun k m => impl_setOf.f k (m : Int)) setN (fun m hm => impl_setOf.ev m (by omega))
  refine ⟨max K1 (K2 + W.length + 1), fun k hk => ?_⟩
  have hl := takeL_len p W.length
  simp only [impl_votes_sets.g]
  rw [show impl_votes_sets.l0 k (P k) W [] 0 = some (takeL p W.length) from impl_votes_sets.at_l W hW (P k) p K2 (fun m hm => h1 k (by omega) m hm) h2 W.length 0 k (by omega) (by omega), Option.bind_some, if_pos (by omega)]
theorem impl_votes_least.ev (W : List Bool) (n : Nat) (hW : W.length = 2 ^ n) (hn : n ≤ 18) : Ev (fun k => impl_votes_least.f k (n : Int) W) (Go.Proofs.YtmmmblfghhcndaaS.sortL (takeL (leastB W n) W.length)) := by
  have hp : 2 ^ n ≤ 2 ^ 18 := Nat.pow_le_pow_right (by omega) hn
  exact impl_votes_sets.ev W (by omega) (fun k x => impl_votes_isLeast.f k (n : Int) W x) (leastB W n) (fun m hm => impl_votes_isLeast.ev W n m hW hn (by omega))
theorem sortL_in {P : Nat → Bool} {n N : Nat} (hN : N ≤ 2 ^ n) (hn : n ≤ 62) : ∀ x ∈ Go.Proofs.YtmmmblfghhcndaaS.sortL (takeL P N), x.length ≤ n ∧ ∀ y ∈ x, 0 ≤ y ∧ y < (n : Int) := by
  intro x hx
  obtain ⟨a, ha, _, rfl⟩ := takeL_mem x ((Go.Proofs.YtmmmblfghhcndaaS.sortL_perm _).mem_iff.1 hx)
  rw [setN_to (m := a) (n := n) (by omega) hn]
  exact ⟨setTo_len a n, fun y hy => by have := setTo_in y hy; omega⟩
theorem sortL_len (xs : List (List Int)) : (Go.Proofs.YtmmmblfghhcndaaS.sortL xs).length = xs.length := (Go.Proofs.YtmmmblfghhcndaaS.sortL_perm xs).length_eq
def evR (v : Int) (s : List Int) (acc : List Int) : List Int := s.foldl (fun acc x => acc.set x.toNat (wrap64 (rd acc x + v))) acc
def evP (s : List Int) : Int := wrap64 (Int.tdiv 2520 (s.length : Int))
def evL (L : List (List Int)) (acc : List Int) : List Int := L.foldl (fun acc s => evR (evP s) s acc) acc
theorem evP_in (s : List Int) : 0 ≤ evP s ∧ evP s ≤ 2520 := by
  have e : Int.tdiv 2520 (s.length : Int) = ((2520 / s.length : Nat) : Int) := tdiv_natS 2520 s.length
  have h := Nat.div_le_self 2520 s.length
  unfold evP
  rw [e]
  generalize 2520 / s.length = y at *
  rw [w64 (by omega) (by omega)]
  omega
theorem evR_len (v : Int) (s : List Int) : ∀ acc : List Int, (evR v s acc).length = acc.length := by
  induction s with
  | nil => intro acc; rfl
  | cons x s ih =>
    intro acc
    show (evR v s _).length = _
    rw [ih, List.length_set]
theorem evL_len (L : List (List Int)) : ∀ acc : List Int, (evL L acc).length = acc.length := by
  induction L with
  | nil => intro acc; rfl
  | cons s L ih =>
    intro acc
    show (evL L _).length = _
    rw [ih, evR_len]
theorem evR_facts (v : Int) (hv : 0 ≤ v ∧ v ≤ 2520) (s : List Int) : ∀ (acc : List Int) (c : Int), (∀ x ∈ s, 0 ≤ x ∧ x < (acc.length : Int)) → (∀ x ∈ acc, 0 ≤ x ∧ x ≤ c) → c + 2520 * (s.length : Int) ≤ 1000000000000 → ∀ x ∈ evR v s acc, 0 ≤ x ∧ x ≤ c + 2520 * (s.length : Int) := by
  induction s with
  | nil => intro acc c _ h _ x hx; have := h x hx; simp; omega
  | cons a s ih =>
    intro acc c hs ha hc
    have h1 := hs a List.mem_cons_self
    have hi : a.toNat < acc.length := by omega
    have hr : rd acc a = acc[a.toNat] := by
      have := rd_lt acc a.toNat hi
      rw [show ((a.toNat : Nat) : Int) = a by omega] at this
      exact this
    have h2 := ha acc[a.toNat] (List.getElem_mem hi)
    simp only [List.length_cons] at hc
    have hw : wrap64 (rd acc a + v) = acc[a.toNat] + v := by rw [hr, w64 (by omega) (by omega)]
    have h3 := ih (acc.set a.toNat (acc[a.toNat] + v)) (c + 2520) (fun x hx => by rw [List.length_set]; exact hs x (List.mem_cons_of_mem _ hx)) (fun x hx => by
      rcases List.mem_or_eq_of_mem_set hx with h | h
      · have := ha x h; omega
      · omega) (by omega)
    show ∀ x ∈ evR v s (acc.set a.toNat (wrap64 (rd acc a + v))), _
    rw [hw]
    intro x hx
    have := h3 x hx
    simp only [List.length_cons]
    omega
theorem evL_facts : ∀ (L : List (List Int)) (acc : List Int) (c : Int), (∀ s ∈ L, ∀ x ∈ s, 0 ≤ x ∧ x < (acc.length : Int)) → (∀ x ∈ acc, 0 ≤ x ∧ x ≤ c) → c + 2520 * totSS L ≤ 1000000000000 → ∀ x ∈ evL L acc, 0 ≤ x ∧ x ≤ c + 2520 * totSS L
  | [], acc, c, _, h, _ => fun x hx => by have := h x hx; simp [totSS]; omega
  | s :: L, acc, c, hs, ha, hc => by
    have ht := totSS_nonneg L
    have hc' : c + 2520 * ((s.length : Int) + totSS L) ≤ 1000000000000 := hc
    have h1 := evR_facts (evP s) (evP_in s) s acc c (hs s List.mem_cons_self) ha (by omega)
    have h2 := evL_facts L (evR (evP s) s acc) (c + 2520 * (s.length : Int)) (fun t ht' x hx => by rw [evR_len]; exact hs t (List.mem_cons_of_mem _ ht') x hx) h1 (by omega)
    show ∀ x ∈ evL L (evR (evP s) s acc), 0 ≤ x ∧ x ≤ c + 2520 * ((s.length : Int) + totSS L)
    intro x hx
    have := h2 x hx
    omega
def leastS (q : Int) (ws : List Int) : List (List Int) := Go.Proofs.YtmmmblfghhcndaaS.sortL (takeL (leastB (winsL q ws) ws.length) (winsL q ws).length)
def esV (q : Int) (ws : List Int) : List S88 × Bool := if goodB q ws = true then (shRow (evL (leastS q ws) (List.replicate ws.length 0)) (2520 * ((leastS q ws).length : Int)), true) else ([], false)
theorem even_facts {q : Int} {ws : List Int} (h : GoodC q ws) : (leastS q ws).length ≤ 512 ∧ 1 ≤ (leastS q ws).length ∧ (∀ s ∈ leastS q ws, s.length ≤ 1000000 ∧ ∀ x ∈ s, 0 ≤ x ∧ x < (ws.length : Int)) ∧ (∀ x ∈ evL (leastS q ws) (List.replicate ws.length 0), 0 ≤ x ∧ x ≤ 1000000000000) ∧ (evL (leastS q ws) (List.replicate ws.length 0)).length ≤ 9 := by
  have hp := h.pow
  have h9 := h.l9
  have hin := fun s hs => sortL_in (P := leastB (winsL q ws) ws.length) (n := ws.length) (N := (winsL q ws).length) (by rw [winsL_length]; exact Nat.le_refl _) (by omega) s hs
  have hlen := takeL_len (leastB (winsL q ws) ws.length) (winsL q ws).length
  rw [winsL_length] at hlen
  obtain ⟨s, hs, h1⟩ := good_least h
  have hs2 : s ∈ leastS q ws := (Go.Proofs.YtmmmblfghhcndaaS.sortL_perm _).mem_iff.2 hs
  have hLl : (leastS q ws).length ≤ 512 := by rw [leastS, sortL_len, winsL_length]; omega
  change ∀ s ∈ leastS q ws, _ at hin
  have ht := totSS_le (leastS q ws) 9 (fun s hs => by have := (hin s hs).1; omega)
  refine ⟨hLl, List.length_pos_of_mem hs2, fun s hs => ⟨by have := (hin s hs).1; omega, (hin s hs).2⟩, ?_, by rw [evL_len, List.length_replicate]; exact h9⟩
  have hf := evL_facts (leastS q ws) (List.replicate ws.length 0) 0 (fun s hs x hx => by rw [List.length_replicate]; exact (hin s hs).2 x hx) (fun x hx => by rw [(List.mem_replicate.1 hx).2]; omega) (by omega)
  intro x hx
  have := hf x hx
  omega
theorem impl_EvenSetPowers.ev_l1 (L : List (List Int)) (hL : L.length ≤ 1000000) (N i : Nat) (hi : i < L.length) (hs : L[i].length ≤ 1000000) (hx : ∀ x ∈ L[i], 0 ≤ x ∧ x < (N : Int)) (v : Int) (hv : v = evP L[i]) (R : List S88 × Bool) : ∀ (d j : Nat) (acc : List Int), j + d = L[i].length → acc.length = N → Ev (fun k => impl_EvenSetPowers.l0 k L (evR v (L[i].drop j) acc) L (L.length : Int) ((i : Int) + 1)) R → Ev (fun k => impl_EvenSetPowers.l1 k L acc L (L.length : Int) (i : Int) L[i] (L[i].length : Int) (j : Int)) R := by
  intro d
  induction d with
  | zero =>
    intro j acc h ha hn
    refine ev_step ?_
    simp only [impl_EvenSetPowers.l1]
    rw [List.drop_of_length_le (by omega)] at hn
    rw [ev_neg (by omega), w64i (i := (i : Int)) (n := L.length) (by omega) (by omega) (by omega)]
    exact hn
  | succ d ih =>
    intro j acc h ha hn
    refine ev_step ?_
    simp only [impl_EvenSetPowers.l1]
    have hj : j < L[i].length := by omega
    have hxj := hx _ (List.getElem_mem hj)
    rw [List.drop_eq_getElem_cons hj] at hn
    rw [ev_pos (by omega), ev_pos (by omega), ev_pos (by omega), rd_lt L[i] j hj, ev_pos hxj.1, ev_pos (by omega), w64i (i := (j : Int)) (n := L[i].length) (by omega) (by omega) (by omega), show wrap64 (Int.tdiv 2520 (L[i].length : Int)) = v from hv.symm]
    exact ih (j + 1) _ (by omega) (by rw [List.length_set]; exact ha) hn
theorem impl_EvenSetPowers.ev_l0 (L : List (List Int)) (hL : L.length ≤ 1000000) (N : Nat) (hs : ∀ s ∈ L, s.length ≤ 1000000 ∧ ∀ x ∈ s, 0 ≤ x ∧ x < (N : Int)) (R : List S88 × Bool) : ∀ (d i : Nat) (acc : List Int), i + d = L.length → acc.length = N → Ev (fun k => impl_EvenSetPowers.l0 k L (evL (L.drop i) acc) L (L.length : Int) (L.length : Int)) R → Ev (fun k => impl_EvenSetPowers.l0 k L acc L (L.length : Int) (i : Int)) R := by
  intro d
  induction d with
  | zero =>
    intro i acc h ha hR
    rw [List.drop_of_length_le (by omega)] at hR
    rw [show i = L.length by omega]
    exact hR
  | succ d ih =>
    intro i acc h ha hR
    refine ev_step ?_
    simp only [impl_EvenSetPowers.l0]
    have hi : i < L.length := by omega
    have hsi := hs _ (List.getElem_mem hi)
    rw [List.drop_eq_getElem_cons hi] at hR
    rw [ev_pos (by omega), ev_pos (by omega), ev_pos (by omega), rd_L2_lt L i hi]
    refine impl_EvenSetPowers.ev_l1 L hL N i hi hsi.1 hsi.2 (evP L[i]) rfl R L[i].length 0 acc (by omega) ha ?_
    rw [List.drop_zero]
    exact ih (i + 1) _ (by omega) (by rw [evR_len]; exact ha) hR
theorem spec_EvenSetPowers.ev_l1 (L : List (List Int)) (hL : L.length ≤ 1000000) (N i : Nat) (hi : i < L.length) (hs : L[i].length ≤ 1000000) (hx : ∀ x ∈ L[i], 0 ≤ x ∧ x < (N : Int)) (v : Int) (hv : v = evP L[i]) (R : List S88 × Bool) : ∀ (d j : Nat) (acc : List Int), j + d = L[i].length → acc.length = N → Ev (fun k => spec_EvenSetPowers.l0 k L (evR v (L[i].drop j) acc) L (L.length : Int) ((i : Int) + 1)) R → Ev (fun k => spec_EvenSetPowers.l1 k L acc L (L.length : Int) (i : Int) L[i] (L[i].length : Int) (j : Int)) R := by
  intro d
  induction d with
  | zero =>
    intro j acc h ha hn
    refine ev_step ?_
    simp only [spec_EvenSetPowers.l1]
    rw [List.drop_of_length_le (by omega)] at hn
    rw [ev_neg (by omega), w64i (i := (i : Int)) (n := L.length) (by omega) (by omega) (by omega)]
    exact hn
  | succ d ih =>
    intro j acc h ha hn
    refine ev_step ?_
    simp only [spec_EvenSetPowers.l1]
    have hj : j < L[i].length := by omega
    have hxj := hx _ (List.getElem_mem hj)
    rw [List.drop_eq_getElem_cons hj] at hn
    rw [ev_pos (by omega), ev_pos (by omega), ev_pos (by omega), rd_lt L[i] j hj, ev_pos hxj.1, ev_pos (by omega), w64i (i := (j : Int)) (n := L[i].length) (by omega) (by omega) (by omega), show wrap64 (Int.tdiv 2520 (L[i].length : Int)) = v from hv.symm]
    exact ih (j + 1) _ (by omega) (by rw [List.length_set]; exact ha) hn
theorem spec_EvenSetPowers.ev_l0 (L : List (List Int)) (hL : L.length ≤ 1000000) (N : Nat) (hs : ∀ s ∈ L, s.length ≤ 1000000 ∧ ∀ x ∈ s, 0 ≤ x ∧ x < (N : Int)) (R : List S88 × Bool) : ∀ (d i : Nat) (acc : List Int), i + d = L.length → acc.length = N → Ev (fun k => spec_EvenSetPowers.l0 k L (evL (L.drop i) acc) L (L.length : Int) (L.length : Int)) R → Ev (fun k => spec_EvenSetPowers.l0 k L acc L (L.length : Int) (i : Int)) R := by
  intro d
  induction d with
  | zero =>
    intro i acc h ha hR
    rw [List.drop_of_length_le (by omega)] at hR
    rw [show i = L.length by omega]
    exact hR
  | succ d ih =>
    intro i acc h ha hR
    refine ev_step ?_
    simp only [spec_EvenSetPowers.l0]
    have hi : i < L.length := by omega
    have hsi := hs _ (List.getElem_mem hi)
    rw [List.drop_eq_getElem_cons hi] at hR
    rw [ev_pos (by omega), ev_pos (by omega), ev_pos (by omega), rd_L2_lt L i hi]
    refine spec_EvenSetPowers.ev_l1 L hL N i hi hsi.1 hsi.2 (evP L[i]) rfl R L[i].length 0 acc (by omega) ha ?_
    rw [List.drop_zero]
    exact ih (i + 1) _ (by omega) (by rw [evR_len]; exact ha) hR
theorem impl_EvenSetPowers.ev (q : Int) (ws : List Int) (hl : ws.length ≤ 9223372036854775807) : Ev (fun k => impl_EvenSetPowers.f k q ws) (esV q ws) := by
  simp only [impl_EvenSetPowers.f]
  rw [ev_bind (impl_IsCommittee.ev q ws hl)]
  unfold esV
  cases hg : goodB q ws with
  | false => rw [ev_neg (by decide), ev_now, if_neg (by decide)]
  | true =>
    have hc := (good_iff q ws).1 hg
    have h9 := hc.l9
    obtain ⟨f1, f2, f3, f4, f5⟩ := even_facts hc
    have hle : Ev (fun k => impl_votes_least.f k (ws.length : Int) (winsL q ws)) (leastS q ws) := impl_votes_least.ev (winsL q ws) ws.length (winsL_length q ws) (by omega)
    have hsh := impl_sharesOf.ev (evL (leastS q ws) (List.replicate ws.length 0)) (2520 * ((leastS q ws).length : Int)) (by omega) (by omega) (by omega) f4
    rw [ev_pos rfl, if_pos rfl, ev_bind (impl_Committee_votes.ev q ws h9 hc.wb), ev_bind hle, ev_pos (Int.natCast_nonneg _), ev_pos (by rw [Int.toNat_natCast]; omega), Int.toNat_natCast]
    refine impl_EvenSetPowers.ev_l0 (leastS q ws) (by omega) ws.length f3 _ (leastS q ws).length 0 _ (by omega) (by simp) ?_
    refine ev_step ?_
    simp only [impl_EvenSetPowers.l0]
    rw [List.drop_zero, ev_neg (by omega), w64 (by omega) (by omega), ev_bind hsh, ev_now]
theorem spec_EvenSetPowers.ev_l2 (L : List (List Int)) (l : List Int) (hl : l.length ≤ 9) (hx : ∀ x ∈ l, 0 ≤ x ∧ x ≤ 1000000000000) (h1 : 1 ≤ L.length) (h2 : L.length ≤ 512) : ∀ (d i : Nat), i + d = l.length → Ev (fun k => spec_EvenSetPowers.l2 k L (shRow (l.take i) (2520 * (L.length : Int))) l (l.length : Int) (i : Int)) (shRow l (2520 * (L.length : Int)), true) := by
  intro d
  induction d with
  | zero =>
    intro i h
    refine ev_step ?_
    simp only [spec_EvenSetPowers.l2]
    rw [ev_neg (by omega), ev_now, List.take_of_length_le (by omega)]
  | succ d ih =>
    intro i h
    refine ev_step ?_
    simp only [spec_EvenSetPowers.l2]
    have hi : i < l.length := by omega
    have hxi := hx l[i] (List.getElem_mem hi)
    have hlen : (shRow (l.take i) (2520 * (L.length : Int))).length = i := by simp [shRow]; omega
    have := ih (i + 1) (by omega)
    rw [shRow_snoc l _ i hi] at this
    rw [ev_pos (by omega), ev_pos (by omega), ev_pos (by omega), rd_lt l i hi, w64 (x := 2520 * (L.length : Int)) (by omega) (by omega), ev_bind (spec_pwShare.ev l[i] (2520 * (L.length : Int)) hxi.1 (by omega) hxi.2 (by omega)), ev_pos (by omega), w64i (n := l.length) (by omega) (by omega) (by omega)]
    exact this
theorem spec_EvenSetPowers.ev (q : Int) (ws : List Int) (hl : ws.length ≤ 9223372036854775807) : Ev (fun k => spec_EvenSetPowers.f k q ws) (esV q ws) := by
  simp only [spec_EvenSetPowers.f]
  rw [ev_bind (spec_voGood.ev q ws hl)]
  unfold esV
  cases hg : goodB q ws with
  | false => rw [ev_neg (by decide), ev_now, if_neg (by decide)]
  | true =>
    have hc := (good_iff q ws).1 hg
    have h9 := hc.l9
    obtain ⟨f1, f2, f3, f4, f5⟩ := even_facts hc
    have hle : Ev (fun k => spec_voLeast.f k (winsL q ws)) (leastS q ws) := spec_voLeast.ev (winsL q ws) ws.length (winsL_length q ws) (by omega)
    rw [ev_pos rfl, if_pos rfl, ev_bind (spec_voWins.ev q ws h9 hc.wb), ev_bind hle, ev_pos (Int.natCast_nonneg _), ev_pos (by rw [Int.toNat_natCast]; omega), Int.toNat_natCast]
    refine spec_EvenSetPowers.ev_l0 (leastS q ws) (by omega) ws.length f3 _ (leastS q ws).length 0 _ (by omega) (by simp) ?_
    refine ev_step ?_
    simp only [spec_EvenSetPowers.l0]
    rw [List.drop_zero, ev_neg (by omega)]
    exact spec_EvenSetPowers.ev_l2 (leastS q ws) _ f5 f4 f2 f1 _ 0 (Nat.zero_add _)
theorem esV_few (q : Int) (ws : List Int) : (esV q ws).1.length ≤ 512 := by
  unfold esV
  split
  · next h =>
    have := (even_facts ((good_iff q ws).1 h)).2.2.2.2
    show (shRow _ _).length ≤ 512
    simp only [shRow, List.length_map]
    omega
  · simp
theorem laws_toCommittee.ev (q : Int) (l : List Int) (hl : l.length ≤ 35184372088832) : Ev (fun k => laws_toCommittee.f k q l) (q, l) := by
  simp only [laws_toCommittee.f]
  rw [ev_bind (laws_toIntS.ev l hl), ev_now]
theorem laws_eqCommittee.ev (q : Int) (a : List Int) (q' : Int) (b : List Int) (hl : a.length ≤ 9223372036854775807) : Ev (fun k => laws_eqCommittee.f k q a q' b) (decide (q = q') && decide (a = b)) := by
  simp only [laws_eqCommittee.f]
  by_cases h : q = q'
  · rw [ev_pos h, ev_bind (laws_eqIntS.ev a b hl)]
    by_cases e : a = b
    · rw [ev_pos (by simpa using e), ev_now]; simp [h, e]
    · rw [ev_neg (by simpa using e), ev_now]; simp [e]
  · rw [ev_neg h, ev_now]; simp [h]
theorem laws_eqCommittee.ev_same (q : Int) (a : List Int) (hl : a.length ≤ 9223372036854775807) : Ev (fun k => laws_eqCommittee.f k q a q a) true := by
  have := laws_eqCommittee.ev q a q a hl
  simpa using this
theorem laws_markCommittee.ev (q : Int) (l : List Int) (c : Int) (hc0 : 0 ≤ c) (hc : c + (l.length : Int) ≤ 9223372036854775807) : Ev (fun k => laws_markCommittee.f k q l c) (c + (l.length : Int), marks c l.length) := by
  simp only [laws_markCommittee.f]
  rw [ev_bind (laws_markIntS.ev l c hc0 hc), ev_now]
theorem laws_szCommittee.v (q : Int) (l : List Int) (c : Int) (hc : c ≤ 9223372036854775807) (hl : (l.length : Int) ≤ 9223372036854775807 + c) : laws_szCommittee.f q l c = some (if c - (l.length : Int) < 0 then -1 else c - (l.length : Int)) := by
  unfold laws_szCommittee.f
  rw [laws_szIntS.v l c hc hl, Option.bind_some]
  by_cases h : c - (l.length : Int) < 0
  · simp [h]
  · simp [h]
theorem rd_T88_lt (l : List S88) (i : Nat) (h : i < l.length) : rd_T88 l (i : Int) = l[i] := by simp [rd_T88, h]
theorem laws_eqShareS.ev_same_l (l : List S88) (hl : l.length ≤ 9223372036854775807) : ∀ (d i : Nat), i + d = l.length → Ev (fun k => laws_eqShareS.l0 k l l (i : Int)) true := by
  intro d
  induction d with
  | zero =>
    intro i h
    refine ev_step ?_
    simp only [laws_eqShareS.l0]
    rw [ev_neg (by omega), ev_now]
  | succ d ih =>
    intro i h
    refine ev_step ?_
    simp only [laws_eqShareS.l0]
    have he : ∀ a b : Int, laws_eqShare.f a b a b = some true := fun a b => by simp [laws_eqShare.f]
    rw [ev_pos (by omega), ev_pos (by omega), ev_pos (by omega), he, ev_bind (ev_of rfl), ev_pos rfl, w64i (n := l.length) (by omega) (by omega) hl]
    exact ih (i + 1) (by omega)
theorem laws_eqShareS.ev_same (l : List S88) (hl : l.length ≤ 9223372036854775807) : Ev (fun k => laws_eqShareS.f k l l) true := by
  simp only [laws_eqShareS.f]
  rw [ev_pos trivial]
  exact laws_eqShareS.ev_same_l l hl l.length 0 (by omega)
def marksSh (c : Int) (n : Nat) : List S88 := (List.range n).map fun (i : Nat) => ⟨c + 2 * (i : Int), c + 2 * (i : Int) + 1⟩
theorem marksSh_length (c : Int) (n : Nat) : (marksSh c n).length = n := by simp [marksSh]
theorem marksSh_get (c : Int) (n i : Nat) (h : i < (marksSh c n).length) : (marksSh c n)[i] = ⟨c + 2 * (i : Int), c + 2 * (i : Int) + 1⟩ := by simp [marksSh]
theorem laws_markShareS.ev_l (n : Nat) (c : Int) (hn : n ≤ 1000000000) (hc0 : 0 ≤ c) (hc : c ≤ 1000000000) : ∀ (d i : Nat) (acc : List S88), i + d = n → acc.length = n → acc.take i = (marksSh c n).take i → Ev (fun k => laws_markShareS.l0 k acc (c + 2 * (i : Int)) (i : Int)) (c + 2 * (n : Int), marksSh c n) := by
  intro d
  induction d with
  | zero =>
    intro i acc h ha ht
    refine ev_step ?_
    simp only [laws_markShareS.l0]
    rw [List.take_of_length_le (by omega), List.take_of_length_le (by rw [marksSh_length]; omega)] at ht
    rw [ev_neg (by omega), ev_now, ht, show i = n by omega]
  | succ d ih =>
    intro i acc h ha ht
    refine ev_step ?_
    simp only [laws_markShareS.l0]
    have hi : i < acc.length := by omega
    have hw1 : wrap64 (c + 2 * (i : Int) + 1) = c + 2 * (i : Int) + 1 := w64 (by omega) (by omega)
    have hw2 : wrap64 (c + 2 * (i : Int) + 1 + 1) = c + 2 * ((i + 1 : Nat) : Int) := by rw [w64 (by omega) (by omega)]; omega
    rw [ev_pos (by omega), ev_pos (by omega), Int.toNat_natCast]
    simp only [Option.bind_some]
    rw [rd_T88_lt (acc.set i _) i (by rw [List.length_set]; omega), List.getElem_set_self, hw1, hw2, w64i (n := n) (by omega) (by omega) (by omega), List.set_set]
    refine ih (i + 1) _ (by omega) (by simpa using ha) ?_
    have hm : i < (marksSh c n).length := by rw [marksSh_length]; omega
    rw [List.take_succ_eq_append_getElem (by rw [List.length_set]; omega), List.take_succ_eq_append_getElem hm, List.take_set_of_le (by omega), ht, List.getElem_set_self, marksSh_get]
theorem laws_markShareS.ev (l : List S88) (c : Int) (hn : l.length ≤ 1000000000) (hc0 : 0 ≤ c) (hc : c ≤ 1000000000) : Ev (fun k => laws_markShareS.f k l c) (c + 2 * (l.length : Int), marksSh c l.length) := by
  have h := laws_markShareS.ev_l l.length c hn hc0 hc l.length 0 l (by omega) rfl (by simp)
  simp only [laws_markShareS.f]
  simpa using h
theorem laws_heldShareS.ev_l (n : Nat) (c : Int) (hn : n ≤ 1000000000) (hc0 : 0 ≤ c) (hc : c ≤ 1000000000) : ∀ (d i : Nat), i + d = n → Ev (fun k => laws_heldShareS.l0 k (marksSh c n) (c + 2 * (i : Int)) (i : Int)) (c + 2 * (n : Int)) := by
  intro d
  induction d with
  | zero =>
    intro i h
    refine ev_step ?_
    simp only [laws_heldShareS.l0]
    rw [ev_neg (by rw [marksSh_length]; omega), ev_now, show i = n by omega]
  | succ d ih =>
    intro i h
    refine ev_step ?_
    simp only [laws_heldShareS.l0]
    have hm : i < (marksSh c n).length := by rw [marksSh_length]; omega
    have hw1 : wrap64 (c + 2 * (i : Int) + 1) = c + 2 * (i : Int) + 1 := w64 (by omega) (by omega)
    have hw2 : wrap64 (c + 2 * (i : Int) + 1 + 1) = c + 2 * ((i + 1 : Nat) : Int) := by rw [w64 (by omega) (by omega)]; omega
    rw [ev_pos (by omega), ev_pos (by omega), rd_T88_lt _ i hm, marksSh_get, ev_pos rfl, hw1, ev_pos rfl, hw2, w64i (n := n) (by omega) (by omega) (by omega)]
    exact ih (i + 1) (by omega)
theorem laws_heldShareS.ev (n : Nat) (c : Int) (hn : n ≤ 1000000000) (hc0 : 0 ≤ c) (hc : c ≤ 1000000000) : Ev (fun k => laws_heldShareS.f k (marksSh c n) c) (c + 2 * (n : Int)) := by
  have h := laws_heldShareS.ev_l n c hn hc0 hc n 0 (by omega)
  simp only [laws_heldShareS.f]
  simpa using h
theorem laws_FnExactEvenSetPowers.law (a0_0 : Int) (l0 : List Int) (ok0_0 : OkI a0_0) (ok0 : OkL l0) : Ev (fun k => laws_FnExactEvenSetPowers.f k a0_0 l0) true := by
  have hl0 := ok0.len
  simp only [laws_FnExactEvenSetPowers.f]
  rw [ev_bind (ev_of (laws_szCommittee.v a0_0 l0 1048576 (by omega) (by omega)))]
  by_cases hz0 : (1048576 : Int) - (l0.length : Int) < 0
  · rw [if_pos hz0, ev_pos (by omega), ev_now]
  rw [if_neg hz0, ev_neg hz0]
  have to0 := laws_toCommittee.ev a0_0 l0 (by omega)
  have eq0 := laws_eqCommittee.ev_same a0_0 l0 (by omega)
  have mk0 := laws_markCommittee.ev a0_0 l0 (1) (by omega) (by omega)
  have hs := spec_EvenSetPowers.ev a0_0 l0 hl0
  have hi := impl_EvenSetPowers.ev a0_0 l0 hl0
  have hn := esV_few a0_0 l0
  generalize esV a0_0 l0 = r at hs hi hn
  obtain ⟨L, b⟩ := r
  have hn1 : L.length ≤ 512 := hn
  have he := laws_eqShareS.ev_same L (by omega)
  have hm := laws_markShareS.ev L 1 (by omega) (by omega) (by omega)
  have hh := laws_heldShareS.ev L.length 1 (by omega) (by omega) (by omega)
  rw [ev_bind to0, ev_bind hs, ev_bind hi, ev_bind he, ev_bind eq0, ev_bind mk0, ev_bind hm, ev_bind hh, ev_pos ⟨rfl, rfl, rfl, by show ¬ (1 + (l0.length : Int) < 0); omega, by omega, rfl⟩, ev_now]
end Go.Proofs.Ytmmmblfghhcndaa.Q
