/- Printed functions, their contracts and plain facts on them: QSpecL1CurSomeOrder; QSpecDrawRenameCommittee; QSpecDrawDropMember; QSpecDrawAreSameVotes; QSpecDrawIsCommittee; QSpecDrawCommitteeText; QSpecL1CurSpoilt; QSpec. Conditions: as each theorem states. -/
import Derived.Test.YtaambkdiokbdgacGreatDoorGCommitteesChangex1
import Derived.Test.YtaambkdiokbdgacGreatDoorGCommitteesChangex2
import Derived.Test.YtaambkdiokbdgacGreatDoorGCommitteesChangex3
set_option maxHeartbeats 40000000
set_option maxRecDepth 100000
namespace Go.Proofs.YtaambkdiokbdgacGreatDoor.Q
open Go.RowKit Go.Proofs.YtaambkdiokbdgacGreatDoorX Go.Proofs.YtaambkdiokbdgacGreatDoorY Go.Proofs.YtaambkdiokbdgacGreatDoorW.PrintWords Go.Proofs.YtaambkdiokbdgacGreatDoorW.PrintLast Go.Proofs.YtaambkdiokbdgacGreatDoorW.PrintMore
attribute [local go_sem] max2_int min2_int max_two min_two max_three min_three max_four min_four   -- for this text's walks alone
set_option linter.unusedVariables false
set_option linter.unusedSimpArgs false
def spec_l1Cur_someOrder.l0 : Nat → Int → List Int → Int → List Int → Int → Int → Option (List Int × Int × Int)
 | 0, _, _, _, _, _, _ => none
 | k + 1, x1, x5, x6, x1000, x1001, x1002 => if x6 < x1 then ((spec_l1Cur_pick.f x1000 x1001 x1002 (wrap64 ((x5.length : Int) + 1))).bind fun bt101 => (if 0 ≤ bt101.1 then (if bt101.1 ≤ (x5.length : Int) then ((spec_l1Own.f (x5.take (bt101.1 : Int).toNat)).bind fun t108 => (if t108.length < 17592186044416 then ((some (t108 ++ [x6] : List Int)).bind fun y111 => ((some (x5.drop (bt101.1 : Int).toNat : List Int)).bind fun y114 => (if y111.length + y114.length < 17592186044416 then (spec_l1Cur_someOrder.l0 k x1 (y111 ++ y114) (wrap64 (x6 + 1)) x1000 bt101.2.1 bt101.2.2) else (none)))) else (none))) else (none)) else (none))) else ((spec_l1Cur_one.f x1000 x1001 x1002 14).bind fun bt121 => (if bt121.1 = true then (if x1 > 0 then ((spec_l1Cur_among.f x1000 bt121.2.1 bt121.2.2 (([(-1), 0, x1, 4611686018427387904] : List Int))).bind fun bt127 => (if 0 < (x5.length : Int) then (some ((x5.set (0 : Int).toNat bt127.1), bt127.2.1, bt127.2.2)) else (none))) else (some (x5, bt121.2.1, bt121.2.2))) else (some (x5, bt121.2.1, bt121.2.2))))
def spec_l1Cur_someOrder.f (k : Nat) (s0_0 : List Int) (s0_1 : Int) (s0_2 : Int) (a1 : Int) : Option (List Int × Int × Int) := spec_l1Cur_someOrder.l0 k a1 ([] : List Int) 0 s0_0 s0_1 s0_2
theorem wHI0_spec_l1Cur_someOrder {p : Prop} (h : p := by repeat (first | (with_reducible first | exact HI0.out | apply IsS81.alloc | apply IsS81.drewN | apply IsS81.drew | apply IsS81.set_1 | apply IsS81.set_2) | exact HI0.out)) : p := h
theorem wHK_spec_l1Cur_someOrder {p : Prop} (h : p := by repeat (first | (with_reducible first | exact HK.out | apply KeepBut.set_ | apply keep_drewN | apply keep_drew | apply keep_alloc) | exact HK.out)) : p := h
theorem wHB_spec_l1Cur_someOrder {p : Prop} (h : p := by repeat (first | (with_reducible first | exact HB.out | apply ba | apply bd | apply be | refine bs ?_ (IsS81.ge HI0.out)) | exact HB.out)) : p := h
theorem spec_l1Cur_someOrder.calls (k : Nat) (g : Nat) (s0_0 : List Int) (s0_1 : Int) (s0_2 : Int) (a1 : Int) (r1 : List Int) (r2 : Int) (r3 : Int) (w0 w : World) (hI : IsS81 w0 w g s0_0 s0_1 s0_2) (hB : Below w0.heap.size w0 w) (h : spec_l1Cur_someOrder.f k s0_0 s0_1 s0_2 a1 = some (r1, r2, r3)) :
  Calls Tryz.prog 53 #[.pointer (some ⟨g, 0, none⟩), .int .i64 a1] w fun e w' => ∃ v0_ : Value, e = .returned (v0_) ∧ Kd.R (Kd.int .i64) 3 w' w.heap.size (fun _ => True) v0_ r1 ∧ IsS81 w0 w' g s0_0 r2 r3 ∧ Below w0.heap.size w0 w' ∧ KeepBut w w' g none := by
 have HI0 := Aside0.mk hI
 have HK := Aside0.mk (KeepBut.refl w g none)
 have HL := Aside0.mk hB.size
 clear hI
 have HW0 := Aside0.mk hB.size
 have HB := Aside0.mk hB
 clear hB
 have H := h
 unfold spec_l1Cur_someOrder.f at H
 clear h
 have H' := Aside0.mk H
 clear H
 go_enter Tryz.func53, Tryz.ntmps53
 go_wp2
 go_loopg [5, 6] k (fun kq v5 v6 w' => ∃ (x5_1 : List Int) (x6_1 : Int) (x1001_1 : Int) (x1002_1 : Int), v6 = .int .i64 x6_1 ∧ Aside0 (spec_l1Cur_someOrder.l0 kq a1 x5_1 x6_1 s0_0 x1001_1 x1002_1 = some (r1, r2, r3)) ∧ Aside0 (kq ≤ k) ∧ Aside0 (Kd.R (Kd.int .i64) 3 w' w.heap.size (fun _ => True) v5 x5_1) ∧ Aside0 (IsS81 w0 w' g s0_0 x1001_1 x1002_1) ∧ Aside0 (KeepBut w w' g none) ∧ Aside0 (Below w0.heap.size w0 w'))
 case atStart => exact ⟨(([] : List Int)), (0), (s0_1), (s0_2), gR, H', ⟨Nat.le_refl _⟩, ⟨by first | exact Kd.R_nil _ _ _ _ _ | exact Kd.N_nil _ _ _ _ _ | exact Kd.V_nil _ _ _ _ _ | exact Kd.Q_nil _ _ _ _ _ | exact Kd.S_nil _ _ _ _ _⟩, ⟨wHI0_spec_l1Cur_someOrder⟩, ⟨wHK_spec_l1Cur_someOrder⟩, ⟨wHB_spec_l1Cur_someOrder⟩⟩
 case round =>
  clear H'
  try clear p2
  obtain ⟨x5_1, x6_1, x1001_1, x1002_1, rfl, HA, HK1, HO_5, HI0, HK, HB⟩ := hrel
  cases gk with
  | zero => exact absurd HA.out (by simp [spec_l1Cur_someOrder.l0])
  | succ k1 =>
   have H := HA.out
   clear HA
   simp only [spec_l1Cur_someOrder.l0] at H
   by_cases c3 : x6_1 < a1
   rotate_left
   ·rw [if_neg c3] at H
    have c3b0 : decide (x6_1 < a1) = false := decide_eq_false c3
    clear c3
    replace H := oB H
    obtain ⟨⟨t121, t122, t123⟩, A190, H⟩ := H
    replace H : (if t121 = true then (if a1 > 0 then ((spec_l1Cur_among.f s0_0 t122 t123 (([(-1), 0, a1, 4611686018427387904] : List Int))).bind fun bt127 => (if 0 < (x5_1.length : Int) then (some ((x5_1.set (0 : Int).toNat bt127.1), bt127.2.1, bt127.2.2)) else (none))) else (some (x5_1, t122, t123))) else (some (x5_1, t122, t123))) = some (r1, r2, r3) := H
    have A19 := Aside0.mk A190
    clear A190
    by_cases c20 : t121 = true
    rotate_left
    ·replace c20 := Bool.eq_false_iff.mpr c20
     subst c20
     replace H := iF H
     simp only [Option.some.injEq, Prod.mk.injEq] at H
     obtain ⟨rfl, rfl, rfl⟩ := H
     go_wp2_with (first | ((with_reducible refine gate_callee (f := 55) rfl ?_); refine gL 32 Tryz.func55 #[.pointer (some ⟨g, 0, none⟩), .int .i64 14] ?_; (with_reducible refine (spec_l1Cur_one.calls g s0_0 x1001_1 x1002_1 14 false t122 t123 w0 _ ?side1 ?side2 A19.out).mono ?_); (case side1 => exact wHI0_spec_l1Cur_someOrder); (case side2 => exact wHB_spec_l1Cur_someOrder); rintro e w33 ⟨rfl, hi, hb, hk⟩; refine ⟨_, rfl, ?_⟩; have n0_ := Aside0.mk (Kd.R_mono (Kd.R_keep (IsS81.apart (show IsS81 w0 _ g s0_0 x1001_1 x1002_1 from wHI0_spec_l1Cur_someOrder) (rQ HO_5) (by decide)) hk (fun _ h => h.2)) (fun _ h => h.1)); have n1_ := Aside0.mk (KeepBut.trans (wHK_spec_l1Cur_someOrder) hk (.inl rfl)); have n2_ := Aside0.mk (hb); have n3_ := Aside0.mk (hi); clear HO_5; clear HK; clear HB; clear HI0; have HO_5 := n0_; have HK := n1_; have HB := n2_; have HI0 := n3_; clear n0_ n1_ n2_ n3_; (try clear hb); (try clear hb2); (try clear hk); (try clear hi)))
     go_ret
     exact ⟨_, fR, by (first | exact rp HO_5.out | exact HO_5.out), wHI0_spec_l1Cur_someOrder, wHB_spec_l1Cur_someOrder, wHK_spec_l1Cur_someOrder⟩
    subst c20
    replace H := iT H
    by_cases c21 : a1 > 0
    rotate_left
    ·rw [if_neg c21] at H
     have c21b0 : decide (0 < a1) = false := decide_eq_false c21
     clear c21
     simp only [Option.some.injEq, Prod.mk.injEq] at H
     obtain ⟨rfl, rfl, rfl⟩ := H
     go_wp2_with (first | ((with_reducible refine gate_callee (f := 55) rfl ?_); refine gL 32 Tryz.func55 #[.pointer (some ⟨g, 0, none⟩), .int .i64 14] ?_; (with_reducible refine (spec_l1Cur_one.calls g s0_0 x1001_1 x1002_1 14 true t122 t123 w0 _ ?side1 ?side2 A19.out).mono ?_); (case side1 => exact wHI0_spec_l1Cur_someOrder); (case side2 => exact wHB_spec_l1Cur_someOrder); rintro e w32 ⟨rfl, hi, hb, hk⟩; refine ⟨_, rfl, ?_⟩; have n0_ := Aside0.mk (Kd.R_mono (Kd.R_keep (IsS81.apart (show IsS81 w0 _ g s0_0 x1001_1 x1002_1 from wHI0_spec_l1Cur_someOrder) (rQ HO_5) (by decide)) hk (fun _ h => h.2)) (fun _ h => h.1)); have n1_ := Aside0.mk (KeepBut.trans (wHK_spec_l1Cur_someOrder) hk (.inl rfl)); have n2_ := Aside0.mk (hb); have n3_ := Aside0.mk (hi); clear HO_5; clear HK; clear HB; clear HI0; have HO_5 := n0_; have HK := n1_; have HB := n2_; have HI0 := n3_; clear n0_ n1_ n2_ n3_; (try clear hb); (try clear hb2); (try clear hk); (try clear hi)))
     go_ret
     exact ⟨_, fR, by (first | exact rp HO_5.out | exact HO_5.out), wHI0_spec_l1Cur_someOrder, wHB_spec_l1Cur_someOrder, wHK_spec_l1Cur_someOrder⟩
    rw [if_pos c21] at H
    have c21b0 : decide (0 < a1) = true := decide_eq_true c21
    clear c21
    obtain ⟨y124, hy124⟩ : ∃ y_ : List Int, y_ = (([(-1), 0, a1, 4611686018427387904] : List Int)) := ⟨_, rfl⟩
    replace H : ((spec_l1Cur_among.f s0_0 t122 t123 y124).bind fun bt127 => (if 0 < (x5_1.length : Int) then (some ((x5_1.set (0 : Int).toNat bt127.1), bt127.2.1, bt127.2.2)) else (none))) = some (r1, r2, r3) := by first | (rw [hy124]; with_reducible exact H) | (have H2_ := (Option.bind_some _ _).symm.trans H; rw [hy124]; with_reducible exact H2_) | (have H2_ := (Option.bind_some _ _).symm.trans H; with_reducible exact H2_) | with_reducible exact H | (rw [hy124]; exact H) | exact H
    have Ny124 := Aside0.mk hy124
    clear hy124
    replace H := oB H
    obtain ⟨⟨t127, t128, t129⟩, A220, H⟩ := H
    replace H : (if 0 < (x5_1.length : Int) then (some ((x5_1.set (0 : Int).toNat t127), t128, t129)) else (none)) = some (r1, r2, r3) := H
    have A22 := Aside0.mk A220
    clear A220
    by_cases c23 : 0 < (x5_1.length : Int)
    rotate_left
    ·rw [if_neg c23] at H
     exact absurd H (by simp)
    rw [if_pos c23] at H
    have c23b0 := decide_eq_true c23
    have c23b1 : decide (0 < x5_1.length) = true := decide_eq_true (by omega)
    clear c23
    obtain ⟨y130, hy130⟩ : ∃ y_ : List Int, y_ = (x5_1.set (0 : Int).toNat t127) := ⟨_, rfl⟩
    replace H : (some (y130, t128, t129)) = some (r1, r2, r3) := by first | (rw [hy130]; with_reducible exact H) | (have H2_ := (Option.bind_some _ _).symm.trans H; rw [hy130]; with_reducible exact H2_) | (have H2_ := (Option.bind_some _ _).symm.trans H; with_reducible exact H2_) | with_reducible exact H | (rw [hy130]; exact H) | exact H
    have Ny130 := Aside0.mk hy130
    clear hy130
    simp only [Option.some.injEq, Prod.mk.injEq] at H
    obtain ⟨rfl, rfl, rfl⟩ := H
    go_wp2_with (first | ((with_reducible refine gate_callee (f := 55) rfl ?_); refine gL 32 Tryz.func55 #[.pointer (some ⟨g, 0, none⟩), .int .i64 14] ?_; (with_reducible refine (spec_l1Cur_one.calls g s0_0 x1001_1 x1002_1 14 true t122 t123 w0 _ ?side1 ?side2 A19.out).mono ?_); (case side1 => exact wHI0_spec_l1Cur_someOrder); (case side2 => exact wHB_spec_l1Cur_someOrder); rintro e w25 ⟨rfl, hi, hb, hk⟩; refine ⟨_, rfl, ?_⟩; have n0_ := Aside0.mk (Kd.R_mono (Kd.R_keep (IsS81.apart (show IsS81 w0 _ g s0_0 x1001_1 x1002_1 from wHI0_spec_l1Cur_someOrder) (rQ HO_5) (by decide)) hk (fun _ h => h.2)) (fun _ h => h.1)); have n1_ := Aside0.mk (KeepBut.trans (wHK_spec_l1Cur_someOrder) hk (.inl rfl)); have n2_ := Aside0.mk (hb); have n3_ := Aside0.mk (hi); clear HO_5; clear HK; clear HB; clear HI0; have HO_5 := n0_; have HK := n1_; have HB := n2_; have HI0 := n3_; clear n0_ n1_ n2_ n3_; (try clear hb); (try clear hb2); (try clear hk); (try clear hi)) | ((with_reducible refine gate_dst (N := 40) rfl ?_); refine Kd.R_lit (Kd.int .i64) _ 3 ?hg (N := 40) ?hd (xs := ([(-1), 0, a1, 4611686018427387904] : List Int)) (inner := [.int .i64 (-1), .int .i64 0, .int .i64 a1, .int .i64 4611686018427387904]) (ok := fun _ => True) (okp := fun _ => True) ?hr ?hp (fun _ hk => hk) trivial (Below.refl _ _) (Nat.le_refl _) (by simp) ?_; (case hd => rfl); (case hg => rfl); (case hr => first | (go_simp; done) | (go_simp; rfl)); (case hp => exact (Reps.one (show Kd.M (Kd.int .i64) _ _ _ (-1) [.int .i64 (-1)] from rfl) (Reps.one (show Kd.M (Kd.int .i64) _ _ _ 0 [.int .i64 0] from rfl) (Reps.one (show Kd.M (Kd.int .i64) _ _ _ a1 [.int .i64 a1] from rfl) (Reps.one (show Kd.M (Kd.int .i64) _ _ _ 4611686018427387904 [.int .i64 4611686018427387904] from rfl) (Reps.none _ _)))))); intro v125 w26 ho27 hb hg_ hnew_; clear hg_ hnew_; (first | rw [← Ny124.out] at ho27 | (simp only [Int.reduceToNat] at ho27; rw [← Ny124.out] at ho27)); have n0_ := rE HO_5 (Kd.R_base ho27) hb; have n1_ := Aside0.mk (Kd.R_lower (Kd.R_new' ho27 (Kd.R_lt (rQ HO_5))) (keep_size (w := w) (g := g) (row := none) (wHK_spec_l1Cur_someOrder))); have n2_ := Aside0.mk (IsS81.below (wHI0_spec_l1Cur_someOrder) hb); have n3_ := Aside0.mk (KeepBut.trans (wHK_spec_l1Cur_someOrder) (KeepBut.of_below hb g none) (.inl rfl)); have n4_ := Aside0.mk (below_step (wHB_spec_l1Cur_someOrder) hb); clear HO_5; clear HI0; clear HK; clear HB; have HO_5 := n0_; have HO126 := n1_; have HI0 := n2_; have HK := n3_; have HB := n4_; clear n0_ n1_ n2_ n3_ n4_; clear hb ho27; obtain ⟨Ao28, co28, eo28⟩ := Kd.R_slice HO126.out; subst eo28) | ((with_reducible refine gate_callee (f := 82) rfl ?_); refine gL 41 Tryz.func82 #[.pointer (some ⟨g, 0, none⟩), .slice Ao28 y124.length co28] ?_; (with_reducible refine (spec_l1Cur_among.calls g s0_0 t122 t123 _ _ y124 t127 t128 t129 w0 _ ?side1 ?side2 ?side3 ?side4 ?side5 A22.out).mono ?_); (case side1 => exact wHI0_spec_l1Cur_someOrder); (case side2 => exact wHB_spec_l1Cur_someOrder); (case side3 => have hx_ := (Kd.R_reads' HO126.out).2.2; exact cC); (case side4 => exact (Kd.R_reads' HO126.out).2.1); (case side5 => exact far_slice (IsS81.own_ne HI0.out HO126.out (by decide))); rintro e w29 ⟨rfl, hi, hb, hk⟩; refine ⟨_, rfl, ?_⟩; have n0_ := Aside0.mk (Kd.R_mono (Kd.R_keep (IsS81.apart (show IsS81 w0 _ g s0_0 t122 t123 from wHI0_spec_l1Cur_someOrder) (rQ HO_5) (by decide)) hk (fun _ h => h.2)) (fun _ h => h.1)); have n1_ := Aside0.mk (Kd.R_mono (Kd.R_keep (IsS81.apart (show IsS81 w0 _ g s0_0 t122 t123 from wHI0_spec_l1Cur_someOrder) (rQ HO126) (by decide)) hk (fun _ h => h.2)) (fun _ h => h.1)); have n2_ := Aside0.mk (KeepBut.trans (wHK_spec_l1Cur_someOrder) hk (.inl rfl)); have n3_ := Aside0.mk (hb); have n4_ := Aside0.mk (hi); clear HO_5; clear HO126; clear HK; clear HB; clear HI0; have HO_5 := n0_; have HO126 := n1_; have HK := n2_; have HB := n3_; have HI0 := n4_; clear n0_ n1_ n2_ n3_ n4_; (try clear hb); (try clear hb2); (try clear hk); (try clear hi); have p24 : 0 ≤ (0 : Int) := (by omega); have q24 : (0 : Int) < ((x5_1.length : Int) : Int) := oD; have qi24 : (0 < x5_1.length) = True := eq_true (by omega); obtain ⟨go24, co24, eo24, gb24, gl24, cl24, HG24⟩ := Kd.R_form HO_5.out (by omega); (first | cases eo24 | (injection eo24 with ea_ en_ ec_; (first | subst ea_ | (injection ea_ with ea_; subst ea_)); subst ec_; clear en_)); have GB24 := Aside0.mk gb24; have GG24 := Aside0.mk HG24; clear gb24 gl24 HG24; obtain ⟨hx24_0, hf24_0⟩ := Kd.R_celln 0 HO_5.out (0 : Int) p24 q24; (try rw [show ((0 : Int)).toNat = 0 from rfl] at hx24_0); (try simp only [Nat.reduceMul, Nat.zero_mul, Nat.zero_add, Nat.reduceAdd] at hx24_0); (try rw [show ((0 : Int)).toNat = 0 from rfl] at hf24_0); (try simp only [Nat.reduceMul, Nat.zero_mul, Nat.zero_add, Nat.reduceAdd] at hf24_0); replace p24 := eq_true p24; replace q24 := eq_true q24; have n_ := Aside0.mk (Kd.R_mono (ok' := (fun k_ => nb (.slice Ao28 y124.length co28) k_)) HO_5.out (fun k_ hk => hk.2)); clear HO_5; have HO_5 := n_; clear n_; obtain ⟨hy30_, hz30_⟩ := Kd.R_celln 0 HO_5.out (0 : Int) (by omega) (oD); (try simp only [Int.reduceToNat, Int.toNat_zero, Int.toNat_ofNat, Nat.reduceMul, Nat.zero_mul, Nat.zero_add] at hy30_ hz30_); (try rw [show ((0 : Int)).toNat = 0 from rfl] at hy30_); (try rw [show ((0 : Int)).toNat = 0 from rfl] at hz30_); have HP30 := Kd.R_putg HO_5.out (0 : Int) t127) | ((with_reducible refine gate_store (t := 3) (p := 42) rfl ?_); refine sE (t := 3) (p := 42) (w1 := (w29.setCell ⟨go24, (0 : Int).toNat, none⟩ (.int .i64 t127))) ?_; intro w31 hw; have hg : w29.grownBy w31 (some go24) := (by rw [hw]; exact HP30.2); have hp_ : Kd.R (Kd.int .i64) 3 w31 w.heap.size (fun k_ => nb (.slice Ao28 y124.length co28) k_) (.slice (some ⟨go24, 0, none⟩) x5_1.length co24) y130 := (by rw [hw, Ny130.out]; exact HP30.1); clear HP30; have n0_ := Aside0.mk (hp_); have n1_ := Aside0.mk (IsS81.grown (wHI0_spec_l1Cur_someOrder) hg (IsS81.own_ne HI0.out HO_5.out (by decide))); have n2_ := Aside0.mk (Kd.R_after (v := (.slice (some ⟨go24, 0, none⟩) x5_1.length co24)) (v1 := (.slice (some ⟨go24, 0, none⟩) x5_1.length co24)) (ok := (fun _ => True)) (rQ HO126) hg (.inl rfl)); have n3_ := Aside0.mk ((by rw [hw]; exact below_set (HB.out) (Nat.le_trans HL.out GB24.out) : Below w0.heap.size w0 w31)); have n4_ := Aside0.mk (KeepBut.trans (wHK_spec_l1Cur_someOrder) (KeepBut.of_grown hg g) (Kd.R_base2 HO_5.out)); clear HO_5; clear HI0; clear HO126; clear HB; clear HK; have HO_5 := n0_; have HI0 := n1_; have HO126 := n2_; have HB := n3_; have HK := n4_; clear n0_ n1_ n2_ n3_ n4_; clear hg hw hp_))
    go_ret
    exact ⟨_, fR, by (try refine rp ?_); exact Kd.R_mono HO_5.out (fun _ hk => trivial), wHI0_spec_l1Cur_someOrder, wHB_spec_l1Cur_someOrder, wHK_spec_l1Cur_someOrder⟩
   rw [if_pos c3] at H
   have c3b0 := decide_eq_true c3
   clear c3
   replace H := oB H
   obtain ⟨⟨t101, t102, t103⟩, A40, H⟩ := H
   replace H : (if 0 ≤ t101 then (if t101 ≤ (x5_1.length : Int) then ((spec_l1Own.f (x5_1.take (t101 : Int).toNat)).bind fun t108 => (if t108.length < 17592186044416 then ((some (t108 ++ [x6_1] : List Int)).bind fun y111 => ((some (x5_1.drop (t101 : Int).toNat : List Int)).bind fun y114 => (if y111.length + y114.length < 17592186044416 then (spec_l1Cur_someOrder.l0 k1 a1 (y111 ++ y114) (wrap64 (x6_1 + 1)) s0_0 t102 t103) else (none)))) else (none))) else (none)) else (none)) = some (r1, r2, r3) := H
   have A4 := Aside0.mk A40
   clear A40
   by_cases c5 : 0 ≤ t101
   rotate_left
   ·rw [if_neg c5] at H
    exact absurd H (by simp)
   rw [if_pos c5] at H
   have c5b0 := eq_true c5
   have c5b1 := decide_eq_true c5
   clear c5
   by_cases c6 : t101 ≤ (x5_1.length : Int)
   rotate_left
   ·rw [if_neg c6] at H
    exact absurd H (by simp)
   rw [if_pos c6] at H
   have c6b0 := eq_true c6
   have c6b1 := decide_eq_true c6
   clear c6
   obtain ⟨y104, hy104⟩ : ∃ y_ : List Int, y_ = (x5_1.take (t101 : Int).toNat) := ⟨_, rfl⟩
   replace H : ((spec_l1Own.f y104).bind fun t108 => (if t108.length < 17592186044416 then ((some (t108 ++ [x6_1] : List Int)).bind fun y111 => ((some (x5_1.drop (t101 : Int).toNat : List Int)).bind fun y114 => (if y111.length + y114.length < 17592186044416 then (spec_l1Cur_someOrder.l0 k1 a1 (y111 ++ y114) (wrap64 (x6_1 + 1)) s0_0 t102 t103) else (none)))) else (none))) = some (r1, r2, r3) := by first | (rw [hy104]; with_reducible exact H) | (have H2_ := (Option.bind_some _ _).symm.trans H; rw [hy104]; with_reducible exact H2_) | (have H2_ := (Option.bind_some _ _).symm.trans H; with_reducible exact H2_) | with_reducible exact H | (rw [hy104]; exact H) | exact H
   have Ny104 := Aside0.mk hy104
   clear hy104
   replace H := oB H
   obtain ⟨t108, A70, H⟩ := H
   replace H : (if t108.length < 17592186044416 then ((some (t108 ++ [x6_1] : List Int)).bind fun y111 => ((some (x5_1.drop (t101 : Int).toNat : List Int)).bind fun y114 => (if y111.length + y114.length < 17592186044416 then (spec_l1Cur_someOrder.l0 k1 a1 (y111 ++ y114) (wrap64 (x6_1 + 1)) s0_0 t102 t103) else (none)))) else (none)) = some (r1, r2, r3) := H
   have A7 := Aside0.mk A70
   clear A70
   by_cases c8 : t108.length < 17592186044416
   rotate_left
   ·rw [if_neg c8] at H
    exact absurd H (by simp)
   rw [if_pos c8] at H
   have LMc8 := Aside0.mk c8
   clear c8
   obtain ⟨y111, hy111⟩ : ∃ y_ : List Int, y_ = (t108 ++ [x6_1]) := ⟨_, rfl⟩
   replace H : ((some (x5_1.drop (t101 : Int).toNat : List Int)).bind fun y114 => (if y111.length + y114.length < 17592186044416 then (spec_l1Cur_someOrder.l0 k1 a1 (y111 ++ y114) (wrap64 (x6_1 + 1)) s0_0 t102 t103) else (none))) = some (r1, r2, r3) := by first | (rw [hy111]; with_reducible exact H) | (have H2_ := (Option.bind_some _ _).symm.trans H; rw [hy111]; with_reducible exact H2_) | (have H2_ := (Option.bind_some _ _).symm.trans H; with_reducible exact H2_) | with_reducible exact H | (rw [hy111]; exact H) | exact H
   have Ny111 := Aside0.mk hy111
   clear hy111
   have c9b0 := eq_true (oD : 0 ≤ t101)
   have c10b0 := eq_true (oD : t101 ≤ (x5_1.length : Int))
   obtain ⟨y114, hy114⟩ : ∃ y_ : List Int, y_ = (x5_1.drop (t101 : Int).toNat) := ⟨_, rfl⟩
   replace H : (if y111.length + y114.length < 17592186044416 then (spec_l1Cur_someOrder.l0 k1 a1 (y111 ++ y114) (wrap64 (x6_1 + 1)) s0_0 t102 t103) else (none)) = some (r1, r2, r3) := by first | (rw [hy114]; with_reducible exact H) | (have H2_ := (Option.bind_some _ _).symm.trans H; rw [hy114]; with_reducible exact H2_) | (have H2_ := (Option.bind_some _ _).symm.trans H; with_reducible exact H2_) | with_reducible exact H | (rw [hy114]; exact H) | exact H
   have Ny114 := Aside0.mk hy114
   clear hy114
   by_cases c11 : y111.length + y114.length < 17592186044416
   rotate_left
   ·rw [if_neg c11] at H
    exact absurd H (by simp)
   rw [if_pos c11] at H
   have LMc11 := Aside0.mk c11
   clear c11
   obtain ⟨y118, hy118⟩ : ∃ y_ : List Int, y_ = (y111 ++ y114) := ⟨_, rfl⟩
   replace H : (spec_l1Cur_someOrder.l0 k1 a1 y118 (wrap64 (x6_1 + 1)) s0_0 t102 t103) = some (r1, r2, r3) := by first | (rw [hy118]; with_reducible exact H) | (have H2_ := (Option.bind_some _ _).symm.trans H; rw [hy118]; with_reducible exact H2_) | (have H2_ := (Option.bind_some _ _).symm.trans H; with_reducible exact H2_) | with_reducible exact H | (rw [hy118]; exact H) | exact H
   have Ny118 := Aside0.mk hy118
   clear hy118
   have H' := Aside0.mk H
   clear H
   obtain ⟨Ao12, co12, eo12⟩ := Kd.R_slice HO_5.out
   subst eo12
   go_wp2_with (first | ((with_reducible refine gate_callee (f := 54) rfl ?_); refine gL 18 Tryz.func54 #[.pointer (some ⟨g, 0, none⟩), .int .i64 (wrap64 ((x5_1.length : Int) + 1))] ?_; (with_reducible refine (spec_l1Cur_pick.calls g s0_0 x1001_1 x1002_1 (wrap64 ((x5_1.length : Int) + 1)) t101 t102 t103 w0 _ ?side1 ?side2 A4.out).mono ?_); (case side1 => exact wHI0_spec_l1Cur_someOrder); (case side2 => exact wHB_spec_l1Cur_someOrder); rintro e w13 ⟨rfl, hi, hb, hk⟩; refine ⟨_, rfl, ?_⟩; have n0_ := Aside0.mk (Kd.R_mono (Kd.R_keep (IsS81.apart (show IsS81 w0 _ g s0_0 x1001_1 x1002_1 from wHI0_spec_l1Cur_someOrder) (rQ HO_5) (by decide)) hk (fun _ h => h.2)) (fun _ h => h.1)); have n1_ := Aside0.mk (KeepBut.trans (wHK_spec_l1Cur_someOrder) hk (.inl rfl)); have n2_ := Aside0.mk (hb); have n3_ := Aside0.mk (hi); clear HO_5; clear HK; clear HB; clear HI0; have HO_5 := n0_; have HK := n1_; have HB := n2_; have HI0 := n3_; clear n0_ n1_ n2_ n3_; (try clear hb); (try clear hb2); (try clear hk); (try clear hi); have q14 : (t101 : Int) ≤ ((x5_1.length : Int) : Int) := oD; obtain ⟨i014, hi014, _, hsz14, _⟩ := info_parts info3; have hroom14 : x5_1.length ≤ co12 := (Kd.R_reads' HO_5.out).2.1; have hC14 : Kd.C (Kd.int .i64) _ Ao12 x5_1.length x5_1 := (Kd.R_reads' HO_5.out).2.2; have hcut14 := cut_to (P := Tryz.prog) 22 3 .i64 Tryz.underlying22 hi014 Ao12 x5_1.length co12 t101 (oD) q14 hroom14; have hr14 := Kd.C_take (m := (t101 : Int).toNat) hC14 (by omega); have hy14 : y104.length = (t101 : Int).toNat := (by rw [Ny104.out, List.length_take]; omega); rw [← Ny104.out] at hr14; rw [← hy14] at hcut14; have HR107 := Aside0.mk hr14; have HC107 := Aside0.mk (show y104.length ≤ co12 from by omega); clear hr14 hC14 hroom14 hi014 hsz14; have KY14 := Aside0.mk hy14; clear hy14; have KL14 := Aside0.mk (show (t101 : Int).toNat ≤ x5_1.length from by omega); replace q14 := eq_true q14) | ((with_reducible refine gate_callee (f := 38) rfl ?_); refine gL 22 Tryz.func38 #[.slice Ao12 y104.length co12] ?_; (with_reducible refine (spec_l1Own.calls _ _ y104 t108 _ ?side1 ?side2 A7.out).mono ?_); (case side1 => repeat (first | exact (by repeat (first | (with_reducible exact HR107.out) | (with_reducible refine Kd.C_alloc ?_ _) | (with_reducible refine Kd.C_drewN ?_ _) | (with_reducible refine Kd.C_drew ?_) | exact HR107.out)) | (with_reducible refine Kd.C_alloc ?_ _) | (with_reducible refine Kd.C_drewN ?_ _) | (with_reducible refine Kd.C_drew ?_))); (case side2 => exact HC107.out); rintro e w15 ⟨v109, rfl, ho0, hb⟩; refine ⟨_, rfl, ?_⟩; have n0_ := rE HO_5 (Kd.R_base ho0) hb; have n1_ := Aside0.mk (Kd.R_lower (Kd.R_new' ho0 (Kd.R_lt (rQ HO_5))) (keep_size (w := w) (g := g) (row := none) (wHK_spec_l1Cur_someOrder))); have n2_ := Aside0.mk (IsS81.below (wHI0_spec_l1Cur_someOrder) hb); have n3_ := Aside0.mk (Kd.C_below (by repeat (first | (with_reducible exact HR107.out) | (with_reducible refine Kd.C_alloc ?_ _) | (with_reducible refine Kd.C_drewN ?_ _) | (with_reducible refine Kd.C_drew ?_) | exact HR107.out)) hb); have n4_ := Aside0.mk (KeepBut.trans (wHK_spec_l1Cur_someOrder) (KeepBut.of_below hb g none) (.inl rfl)); have n5_ := Aside0.mk (below_step (wHB_spec_l1Cur_someOrder) hb); clear HO_5; clear HI0; clear HR107; clear HK; clear HB; have HO_5 := n0_; have HO110 := n1_; have HI0 := n2_; have HR107 := n3_; have HK := n4_; have HB := n5_; clear n0_ n1_ n2_ n3_ n4_ n5_; (try clear hb); (try clear hb2); (try clear hk); (try clear hi); (try clear ho0)) | ((with_reducible refine gate_builtin (b := .append) (xs := #[.tmp 22, .tmp 24]) rfl ?_); at_builtin; refine Kd.R_append (Kd.int .i64) w.heap.size rfl (.tmp 22) (.tmp 24) 22 3 (.int .i64 0) 8 rfl Tryz.underlying22 info3 rfl (by decide) (by omega) v109 t108 x6_1 [.int .i64 x6_1] (fun k_ => nb (.slice Ao12 x5_1.length co12) k_) (fun _ => False) rfl rfl ?aP (fun _ hk => hk.elim) ?aF ?aO (Below.refl _ _) ?aS ?aL ?_; (case aP => exact rfl); (case aF => exact (fun k_ hk => Kd.fresh' (Kd.R_lt (rQ HO_5)) k_ hk)); (case aO => exact (by (try refine rp ?_); exact Kd.R_mono HO110.out (fun _ hk => hk.2))); (case aS => exact (keep_size (w := w) (g := g) (row := none) (wHK_spec_l1Cur_someOrder))); (case aL => have := LMc8.out; omega); intro v112 w16 ho hb hg hat; rw [← Ny111.out] at ho; have n0_ := Aside0.mk (Kd.R_after (ok := (fun _ => True)) (rQ HO_5) hg hat); have n1_ := Aside0.mk (IsS81.grown (wHI0_spec_l1Cur_someOrder) hg (IsS81.own_ne HI0.out HO110.out (by decide))); have n2_ := Aside0.mk (below_weaken (wHB_spec_l1Cur_someOrder) HL.out hb); have n3_ := Aside0.mk (KeepBut.trans (wHK_spec_l1Cur_someOrder) (KeepBut.of_grown hg g) (Kd.R_base2 HO110.out)); have n4_ := Aside0.mk ((show Kd.C (Kd.int .i64) w16 Ao12 y104.length y104 from by rw [Ny104.out]; exact Kd.C_take (m := (t101 : Int).toNat) ((Kd.R_reads' (Kd.R_after (ok := (fun _ => True)) (rQ HO_5) hg hat)).2.2) KL14.out)); have n5_ := Aside0.mk (ho); clear HO_5; clear HI0; clear HB; clear HK; clear HR107; clear HO110; have HO_5 := n0_; have HI0 := n1_; have HB := n2_; have HK := n3_; have HR107 := n4_; have HO113 := n5_; clear n0_ n1_ n2_ n3_ n4_ n5_; clear ho hb hg hat; have q17 : (t101 : Int) ≤ ((x5_1.length : Int) : Int) := oD; obtain ⟨i017, hi017, _, hsz17, _⟩ := info_parts info3; have hroom17 : x5_1.length ≤ co12 := (Kd.R_reads' HO_5.out).2.1; have hC17 : Kd.C (Kd.int .i64) _ Ao12 x5_1.length x5_1 := (Kd.R_reads' HO_5.out).2.2; have q017 : (0 : Int) ≤ (t101 : Int) := oD; have hcut17 := cut_from (P := Tryz.prog) 22 3 .i64 Tryz.underlying22 hi017 1 hsz17 Ao12 x5_1.length co12 t101 q017 q17; have hr17 := Kd.C_drop (m := (t101 : Int).toNat) (c := co12) hC17 (by omega) hroom17; obtain ⟨A17, hA17⟩ : ∃ A1, A1 = (if co12 = (t101 : Int).toNat then Ao12 else (Ao12 : Option Addr).map (·.add ((t101 : Int).toNat * 1))) := ⟨_, rfl⟩; obtain ⟨c17, hc17⟩ : ∃ c1, c1 = co12 - (t101 : Int).toNat := ⟨_, rfl⟩; have hy17 : y114.length = x5_1.length - (t101 : Int).toNat := (by rw [Ny114.out, List.length_drop] <;> omega); rw [show (x5_1).drop (t101 : Int).toNat = y114 from Ny114.out.symm] at hr17; replace hr17 : Kd.C (Kd.int .i64) _ A17 y114.length y114 := (by rw [hA17]; exact hr17); rw [← hy17, ← hA17, ← hc17] at hcut17; have HR117 := Aside0.mk hr17; have HC117 := Aside0.mk (show y114.length ≤ c17 from by rw [hy17, hc17]; exact Nat.sub_le_sub_right hroom17 _); clear hr17 hC17 hroom17 hi017 hsz17 hc17; have KY17 := Aside0.mk hy17; have KA17 := Aside0.mk hA17; clear hy17 hA17; have KL17 := Aside0.mk (show (t101 : Int).toNat ≤ x5_1.length from by omega); replace q17 := eq_true q17) | ((with_reducible refine gate_builtin (b := .append) (xs := #[.tmp 26, .tmp 29]) rfl ?_); at_builtin; refine Kd.R_append_rows (Kd.int .i64) w.heap.size rfl (.tmp 26) (.tmp 29) 22 3 (.int .i64 0) 8 rfl Tryz.underlying22 info3 rfl (by decide) (by omega) v112 y111 y114 _ _ _ (fun k_ => nb (.slice Ao12 x5_1.length co12) k_) (fun _ => False) rfl rfl ?aO ?aR (fun _ _ h => h) (fun _ h => h.elim) ?aF (Below.refl _ _) ?aS ?aL ?_; (case aR => repeat (first | exact (by repeat (first | (with_reducible exact HR117.out) | (with_reducible refine Kd.C_alloc ?_ _) | (with_reducible refine Kd.C_drewN ?_ _) | (with_reducible refine Kd.C_drew ?_) | exact HR117.out)) | (with_reducible refine Kd.C_alloc ?_ _) | (with_reducible refine Kd.C_drewN ?_ _) | (with_reducible refine Kd.C_drew ?_))); (case aF => exact (fun k_ hk => Kd.fresh' (Kd.R_lt (rQ HO_5)) k_ hk)); (case aO => exact (rQ HO113)); (case aS => exact (keep_size (w := w) (g := g) (row := none) (wHK_spec_l1Cur_someOrder))); (case aL => have := LMc11.out; omega); intro v119 w18 ho hb hg hat; rw [← Ny118.out] at ho; have n0_ := Aside0.mk (Kd.R_after (ok := (fun _ => True)) (rQ HO_5) hg hat); have n1_ := Aside0.mk (IsS81.grown (wHI0_spec_l1Cur_someOrder) hg (IsS81.own_ne HI0.out HO113.out (by decide))); have n2_ := Aside0.mk (below_weaken (wHB_spec_l1Cur_someOrder) HL.out hb); have n3_ := Aside0.mk (KeepBut.trans (wHK_spec_l1Cur_someOrder) (KeepBut.of_grown hg g) (Kd.R_base2 HO113.out)); have n4_ := Aside0.mk ((show Kd.C (Kd.int .i64) w18 Ao12 y104.length y104 from by rw [Ny104.out]; exact Kd.C_take (m := (t101 : Int).toNat) ((Kd.R_reads' (Kd.R_after (ok := (fun _ => True)) (rQ HO_5) hg hat)).2.2) KL14.out)); have n5_ := Aside0.mk ((show Kd.C (Kd.int .i64) w18 A17 y114.length y114 from by rw [Ny114.out, KA17.out]; exact Kd.C_drop (m := (t101 : Int).toNat) (c := co12) ((Kd.R_reads' (Kd.R_after (ok := (fun _ => True)) (rQ HO_5) hg hat)).2.2) KL17.out ((Kd.R_reads' (Kd.R_after (ok := (fun _ => True)) (rQ HO_5) hg hat)).2.1))); have n6_ := Aside0.mk (ho); clear HO_5; clear HI0; clear HB; clear HK; clear HR107; clear HR117; clear HO113; have HO_5 := n0_; have HI0 := n1_; have HB := n2_; have HK := n3_; have HR107 := n4_; have HR117 := n5_; have HO120 := n6_; clear n0_ n1_ n2_ n3_ n4_ n5_ n6_; clear ho hb hg hat))
   go_roundg k1
   case measure => have := HK1.out; omega
   case rel => exact ⟨(y118), (wrap64 (x6_1 + 1)), (t102), (t103), gR, H', ⟨by have := HK1.out; omega⟩, ⟨by (try refine rp ?_); exact Kd.R_mono HO120.out (fun _ hk => trivial)⟩, ⟨wHI0_spec_l1Cur_someOrder⟩, ⟨wHK_spec_l1Cur_someOrder⟩, ⟨wHB_spec_l1Cur_someOrder⟩⟩
def spec_DrawRenameCommittee.f (k : Nat) (l0 : List Int) : Option (Int × List Int × List Int) := (spec_l1Cur_committee.f k l0 0 0 6).bind fun bt103 => ((spec_l1Cur_someOrder.f k l0 bt103.2.2.1 bt103.2.2.2 (bt103.2.1.length : Int)).bind fun bt110 => (some (bt103.1, bt103.2.1, bt110.1)))
def spec_DrawRenameCommittee.T3 : Bool × List (List Nat × List Nat) := (true, [([], []), ([], []), ([], []), ([2], [2]), ([3], [3]), ([1, 4], [1, 4]), ([0, 5, 0], [0]), ([5, 6, 0, 1, 2, 3, 4, 5, 6], [5])])
def spec_DrawRenameCommittee.B3 : List Nat := [0, 0, 0, 4, 12, 30, 63, 127]
theorem spec_DrawRenameCommittee.tab3 : rtab .any (opsOf Tryz.f22 3) = spec_DrawRenameCommittee.T3 := by kernel_rfl
theorem spec_DrawRenameCommittee.bits3 : waitsOk spec_DrawRenameCommittee.T3.2 spec_DrawRenameCommittee.B3 = true := by kernel_rfl
theorem wHI102_spec_DrawRenameCommittee {p : Prop} (h : p := by repeat (first | (with_reducible first | exact HI102.out | apply IsS81.alloc | apply IsS81.drewN | apply IsS81.drew | apply IsS81.set_1 | apply IsS81.set_2 | refine IsS81.far ?_ NB102_101.out _ | refine IsS81.far ?_ NB102_109.out _) | exact HI102.out)) : p := h
theorem wHB_spec_DrawRenameCommittee {p : Prop} (h : p := by repeat (first | (with_reducible first | exact HB.out | apply ba | apply bd | apply be | refine bs ?_ (IsS81.ge HI102.out) | refine bs ?_ GE101.out | refine bs ?_ GE109.out) | exact HB.out)) : p := h
theorem spec_DrawRenameCommittee.calls (k : Nat) (A0 : Option Addr) (c0 : Nat) (l0 : List Int) (r1 : Int) (r2 : List Int) (r3 : List Int) (w : World) (hr0 : Kd.C (Kd.int .u8) w A0 l0.length l0) (hc0 : l0.length ≤ c0) (h : spec_DrawRenameCommittee.f k l0 = some (r1, r2, r3)) :
  Calls Tryz.prog 22 #[.slice A0 l0.length c0] w fun e w' => ∃ v1_ v2_ : Value, e = .returned (.tuple #[.agg #[.int .i64 r1, v1_], v2_]) ∧ Kd.R (Kd.int .i64) 3 w' w.heap.size (fun k_ => nb v2_ k_) v1_ r2 ∧ Kd.R (Kd.int .i64) 3 w' w.heap.size (fun k_ => nb v1_ k_) v2_ r3 ∧ Below w.heap.size w w' := by
 have hu24 := Tryz.underlying24
 have hu81 := Tryz.underlying81
 have HR0 := Aside0.mk hr0
 have HC0 := Aside0.mk hc0
 clear hr0 hc0
 have HB := Aside0.mk (Below.refl w.heap.size w)
 have H := h
 unfold spec_DrawRenameCommittee.f at H
 clear h
 replace H := oB H
 obtain ⟨⟨t103, t104, t107, t108⟩, A20, H⟩ := H
 replace H : ((spec_l1Cur_someOrder.f k l0 t107 t108 (t104.length : Int)).bind fun bt110 => (some (t103, t104, bt110.1))) = some (r1, r2, r3) := H
 have A2 := Aside0.mk A20
 clear A20
 replace H := oB H
 obtain ⟨⟨t110, t113, t114⟩, A30, H⟩ := H
 replace H : (some (t103, t104, t110)) = some (r1, r2, r3) := H
 have A3 := Aside0.mk A30
 clear A30
 simp only [Option.some.injEq, Prod.mk.injEq] at H
 obtain ⟨rfl, rfl, rfl⟩ := H
 go_enter Tryz.func22, Tryz.ntmps22
 try go_wp2_with (first | ((with_reducible refine gate_dst (N := 2) rfl ?_); refine box_event ?hg (N := 2) ?hd (cs := #[.int .i64 0, .slice none 0 0]) (t := 24) ?hr ?_; (case hd => rfl); (case hg => rfl); (case hr => first | (go_simp; done) | (go_simp; rfl)); intro gb101 hg w4 hbox hb; have n0_ := sQ hb; have n1_ := Aside0.mk (hbox); have n2_ := Aside0.mk ((by rw [hg]; exact (below_size (wB)) : w.heap.size ≤ gb101)); have n3_ := Aside0.mk ((by rw [hg]; exact (below_size (wB)) : w.heap.size ≤ gb101)); clear HB; have HB := n0_; have BK101 := n1_; have GW101 := n2_; have GE101 := n3_; clear n0_ n1_ n2_ n3_; clear hb hbox hg) | ((with_reducible refine gate_dst (N := 8) rfl ?_); refine box_event ?hg (N := 8) ?hd (cs := #[.slice A0 l0.length c0, .int .i64 0, .int .u64 0]) (t := 81) ?hr ?_; (case hd => rfl); (case hg => rfl); (case hr => first | (go_simp; done) | (go_simp; rfl)); intro gb102 hg w5 hbox hb; have n0_ := bP BK101 hb; have n1_ := sQ hb; have n2_ := Aside0.mk (hbox); have n3_ := Aside0.mk ((by rw [hg]; exact (below_size (wB)) : w.heap.size ≤ gb102)); have n4_ := Aside0.mk ((by rw [hg]; exact (below_size (wB)) : w.heap.size ≤ gb102)); have n5_ := Aside0.mk ((by rw [hg]; exact Nat.ne_of_lt (blk_lt (g := gb101) (o := .cells #[.int .i64 0, .slice none 0 0] 24 (0, 0)) (bQ BK101)) : gb101 ≠ gb102)); have n6_ := Aside0.mk ((by rw [hg]; exact Nat.ne_of_gt (blk_lt (g := gb101) (o := .cells #[.int .i64 0, .slice none 0 0] 24 (0, 0)) (bQ BK101)) : gb102 ≠ gb101)); have n7_ := Aside0.mk ((show IsS81 w _ gb102 l0 0 0 from ⟨A0, c0, hbox, (by rw [hg]; exact (below_size (wB))), HR0.out⟩)); clear BK101; clear HB; have BK101 := n0_; have HB := n1_; have BK102 := n2_; have GW102 := n3_; have GE102 := n4_; have NB101_102 := n5_; have NB102_101 := n6_; have HI102 := n7_; clear n0_ n1_ n2_ n3_ n4_ n5_ n6_ n7_; clear hb hbox hg) | ((with_reducible refine gate_callee (f := 52) rfl ?_); refine gL 10 Tryz.func52 #[.pointer (some ⟨gb102, 0, none⟩), .int .i64 6] ?_; (with_reducible refine (spec_l1Cur_committee.calls k gb102 l0 0 0 6 t103 t104 t107 t108 w _ ?side1 ?side2 A2.out).mono ?_); (case side1 => exact wHI102_spec_DrawRenameCommittee); (case side2 => exact wHB_spec_DrawRenameCommittee); rintro e w6 ⟨v105, rfl, ho0, hi, hb, hk⟩; refine ⟨_, rfl, ?_⟩; have n0_ := Aside0.mk (KeepBut.blk hk (g' := gb101) (o := .cells #[.int .i64 0, .slice none 0 0] 24 (0, 0)) (bQ BK101) NB101_102.out (by simp)); have n1_ := Aside0.mk (Kd.R_lower ho0 (below_size (wHB_spec_DrawRenameCommittee))); have n2_ := Aside0.mk (hb); have n3_ := Aside0.mk (hi); clear BK101; clear HB; clear HI102; have BK101 := n0_; have HO106 := n1_; have HB := n2_; have HI102 := n3_; clear n0_ n1_ n2_ n3_; (try clear hb); (try clear hb2); (try clear hk); (try clear hi); (try clear ho0)) | ((with_reducible refine gate_dst (N := 5) rfl ?_); refine box_event ?hg (N := 5) ?hd (cs := #[.int .i64 0, .slice none 0 0]) (t := 24) ?hr ?_; (case hd => rfl); (case hg => rfl); (case hr => first | (go_simp; done) | (go_simp; rfl)); intro gb109 hg w7 hbox hb; have n0_ := rP HO106 hb; have n1_ := bP BK101 hb; have n2_ := Aside0.mk (IsS81.below (wHI102_spec_DrawRenameCommittee) hb); have n3_ := Aside0.mk (below_step (wHB_spec_DrawRenameCommittee) hb); have n4_ := Aside0.mk (hbox); have n5_ := Aside0.mk ((by rw [hg]; exact (below_size (wHB_spec_DrawRenameCommittee)) : w.heap.size ≤ gb109)); have n6_ := Aside0.mk ((by rw [hg]; exact (below_size (wHB_spec_DrawRenameCommittee)) : w.heap.size ≤ gb109)); have n7_ := Aside0.mk ((by rw [hg]; exact Nat.ne_of_lt (blk_lt (g := gb101) (o := .cells #[.int .i64 0, .slice none 0 0] 24 (0, 0)) (bQ BK101)) : gb101 ≠ gb109)); have n8_ := Aside0.mk ((by rw [hg]; exact Nat.ne_of_gt (blk_lt (g := gb101) (o := .cells #[.int .i64 0, .slice none 0 0] 24 (0, 0)) (bQ BK101)) : gb109 ≠ gb101)); have n9_ := Aside0.mk ((by rw [hg]; exact Nat.ne_of_lt (IsS81.lt (show IsS81 w _ gb102 l0 t107 t108 from wHI102_spec_DrawRenameCommittee)) : gb102 ≠ gb109)); have n10_ := Aside0.mk ((by rw [hg]; exact Nat.ne_of_gt (IsS81.lt (show IsS81 w _ gb102 l0 t107 t108 from wHI102_spec_DrawRenameCommittee)) : gb109 ≠ gb102)); clear HO106; clear BK101; clear HI102; clear HB; have HO106 := n0_; have BK101 := n1_; have HI102 := n2_; have HB := n3_; have BK109 := n4_; have GW109 := n5_; have GE109 := n6_; have NB101_109 := n7_; have NB109_101 := n8_; have NB102_109 := n9_; have NB109_102 := n10_; clear n0_ n1_ n2_ n3_ n4_ n5_ n6_ n7_ n8_ n9_ n10_; clear hb hbox hg; have hnb8 := NB109_101.out; have hnc8 := NB101_109.out; have hnb9 := NB109_102.out; have hnc9 := NB102_109.out; obtain ⟨hcz10_0, hcz10_1, hfz10_0, hfz10_1⟩ := zZ BK109; obtain ⟨Ao11, co11, eo11⟩ := Kd.R_slice HO106.out; subst eo11))
 have n0_ : Aside0 (Kd.R (Kd.int .i64) 3 ((w7.setCell ⟨gb109, 0, none⟩ (.int .i64 t103)).setCell ⟨gb109, 1, none⟩ (.slice Ao11 t104.length co11)) w.heap.size (fun _ => True) (.slice Ao11 t104.length co11) t104) := ⟨by (try refine rp ?_); exact Kd.R_mono (Kd.R_far (p := ⟨gb109, 1, none⟩) (Kd.R_far (p := ⟨gb109, 0, none⟩) (Kd.R_types HO106.out BK109.out (by decide)) (fun _ hk => hk.2) (.int .i64 t103)) (fun _ hk => hk.2) (.slice Ao11 t104.length co11)) (fun _ hk => trivial)⟩
 have n1_ : Aside0 (((w7.setCell ⟨gb109, 0, none⟩ (.int .i64 t103)).setCell ⟨gb109, 1, none⟩ (.slice Ao11 t104.length co11)).heap[gb101]? = some (.cells #[.int .i64 0, .slice none 0 0] 24 (0, 0))) := ⟨by (try refine bp ?_); refine blk_far ?_ NB101_109.out _; (try refine bp ?_); refine blk_far ?_ NB101_109.out _; (first | exact bp BK101.out | exact BK101.out)⟩
 have n2_ : Aside0 (((w7.setCell ⟨gb109, 0, none⟩ (.int .i64 t103)).setCell ⟨gb109, 1, none⟩ (.slice Ao11 t104.length co11)).heap[gb109]? = some (.cells #[.int .i64 t103, .slice Ao11 t104.length co11] 24 (0, 0))) := ⟨by (try refine bp ?_); refine blk_put (cs := #[.int .i64 t103, .slice none 0 0]) ?_ 1 _ rfl; (try refine bp ?_); refine blk_put (cs := #[.int .i64 0, .slice none 0 0]) ?_ 0 _ rfl; (first | exact bp BK109.out | exact BK109.out)⟩
 have n3_ : Aside0 (IsS81 w ((w7.setCell ⟨gb109, 0, none⟩ (.int .i64 t103)).setCell ⟨gb109, 1, none⟩ (.slice Ao11 t104.length co11)) gb102 l0 t107 t108) := ⟨wHI102_spec_DrawRenameCommittee⟩
 have n4_ : Aside0 (Below w.heap.size w ((w7.setCell ⟨gb109, 0, none⟩ (.int .i64 t103)).setCell ⟨gb109, 1, none⟩ (.slice Ao11 t104.length co11))) := ⟨wHB_spec_DrawRenameCommittee⟩
 (try clear HO106)
 (try clear BK101)
 (try clear BK109)
 (try clear HI102)
 (try clear HB)
 generalize ((w7.setCell ⟨gb109, 0, none⟩ (.int .i64 t103)).setCell ⟨gb109, 1, none⟩ (.slice Ao11 t104.length co11)) = w12 at n0_ n1_ n2_ n3_ n4_ ⊢
 have HO106 := n0_
 have BK101 := n1_
 have BK109 := n2_
 have HI102 := n3_
 have HB := n4_
 clear n0_ n1_ n2_ n3_ n4_
 have n0_ := rD HO106
 have n1_ := bD BK101
 have n2_ := bD BK109
 have n3_ := Aside0.mk (IsS81.drew HI102.out)
 have n4_ := Aside0.mk (below_drew1 HB.out)
 clear HO106
 clear BK101
 clear BK109
 clear HI102
 clear HB
 have HO106 := n0_
 have BK101 := n1_
 have BK109 := n2_
 have HI102 := n3_
 have HB := n4_
 clear n0_ n1_ n2_ n3_ n4_
 refine start_ (n := 8) (S := fun w' => w'.cell? ⟨gb109, 0, none⟩ = some (.int .i64 t103) ∧ w'.cell? ⟨gb109, 1, none⟩ = some (.slice Ao11 t104.length co11)) (ds := []) #[false, false, false, false, false, false, false, false] (by kernel_rfl) rfl rfl ⟨(blk_cell BK109.out 0).trans rfl, (blk_cell BK109.out 1).trans rfl⟩ (fun hHeld => ?_); refine with_tabW spec_DrawRenameCommittee.tab3 spec_DrawRenameCommittee.bits3 (fun HT_ HW_ => ?_)
 generalize w12.drew = w13 at HO106 BK101 BK109 HI102 HB hHeld ⊢
 refine pU 1 HT_ ?_
 refine pU 2 HT_ ?_
 refine tK 0 HT_ HW_ hHeld (hy := by rintro w' ⟨s0, s1⟩; go_simp; with_reducible rfl) ?_
 refine tK 3 HT_ HW_ hHeld (hy := by rintro w' ⟨s0, s1⟩; go_simp; with_reducible rfl) ?_
 refine pU 4 HT_ ?_
 refine oN 5 HT_ (fun K hK => ?_)
 refine gE Tryz.func53 #[.pointer (some ⟨gb102, 0, none⟩), .int .i64 (t104.length : Int)] ?_
 with_reducible refine (spec_l1Cur_someOrder.calls k gb102 l0 t107 t108 (t104.length : Int) t110 t113 t114 w _ ?side1 ?side2 A3.out).mono ?_
 (case side1 => exact wHI102_spec_DrawRenameCommittee)
 (case side2 => exact wHB_spec_DrawRenameCommittee)
 rintro e w14 ⟨v111, rfl, ho0, hi, hb, hk⟩
 refine ⟨_, rfl, ?_⟩
 have n0_ := Aside0.mk (KeepBut.blk hk (g' := gb101) (o := .cells #[.int .i64 0, .slice none 0 0] 24 (0, 0)) (bQ BK101) NB101_102.out (by simp))
 have n1_ := Aside0.mk (Kd.R_mono (Kd.R_told (Kd.R_oldK (IsS81.apart (show IsS81 w _ gb102 l0 t107 t108 from wHI102_spec_DrawRenameCommittee) (rQ HO106) (by decide)) hk) (Kd.R_base ho0)) (fun _ h_ => h_.1))
 have n2_ := Aside0.mk (KeepBut.blk hk (g' := gb109) (o := .cells #[.int .i64 t103, .slice Ao11 t104.length co11] 24 (0, 0)) (bQ BK109) NB109_102.out (by simp))
 have n3_ := Aside0.mk (Kd.R_lower (Kd.R_new' ho0 (Kd.R_lt (rQ HO106))) (below_size (wHB_spec_DrawRenameCommittee)))
 have n4_ := Aside0.mk (hb)
 have n5_ := Aside0.mk (hi)
 clear BK101
 clear HO106
 clear BK109
 clear HB
 clear HI102
 have BK101 := n0_
 have HO106 := n1_
 have BK109 := n2_
 have HO112 := n3_
 have HB := n4_
 have HI102 := n5_
 clear n0_ n1_ n2_ n3_ n4_ n5_
 (try clear hb)
 (try clear hb2)
 (try clear hk)
 (try clear hi)
 (try clear ho0)
 refine hK.out _ _ ⟨(blk_cell BK109.out 0).trans rfl, (blk_cell BK109.out 1).trans rfl⟩ (fun hHeld => ?_)
 clear hK K
 refine nM ?_
 refine oN 6 HT_ (fun K hK => ?_)
 have hs15 : w14.cell? ⟨gb101, 0, none⟩ = some (.int .i64 0) := (blk_cell BK101.out 0).trans rfl
 have hfs15 := blk_frozen BK101.out 0
 have hns15_1 := NB109_101.out
 have hms15_1 := NB101_109.out
 have hs16 : w14.cell? ⟨gb101, 1, none⟩ = some (.slice none 0 0) := (blk_cell BK101.out 1).trans rfl
 have hfs16 := blk_frozen BK101.out 1
 have hns16_1 := NB109_101.out
 have hms16_1 := NB101_109.out
 refine skip_ (w1 := ?_) (by rfl) rfl ?_ ?_
 rotate_left
 ·go_simp
  rfl
 refine hK.out _ _ ⟨((cell_far (p := ⟨gb101, _, none⟩) NB109_101.out _).trans (((cell_far (p := ⟨gb101, _, none⟩) NB109_101.out _).trans (hHeld.1)))), ((cell_far (p := ⟨gb101, _, none⟩) NB109_101.out _).trans (((cell_far (p := ⟨gb101, _, none⟩) NB109_101.out _).trans (hHeld.2))))⟩ (fun hHeld => ?_)
 clear hK K
 refine pU 7 HT_ ?_
 refine done_ (done_of HT_.out (by kernel_rfl)) ?_
 try go_wp2
 refine bodyPost_ret (results_ct rfl _ _ gb101 24 #[.int .i64 t103, .slice Ao11 t104.length co11] (0, 0) _ rfl (by (try refine bp ?_); refine blk_put (cs := #[.int .i64 t103, .slice none 0 0]) ?_ 1 _ rfl; (try refine bp ?_); refine blk_put (cs := #[.int .i64 0, .slice none 0 0]) ?_ 0 _ rfl; (first | exact bp BK101.out | exact BK101.out)) Tryz.underlying24 rfl (by kernel_rfl)) rfl ?_
 exact ⟨_, _, fR, by (try refine rp ?_); exact Kd.R_mono (Kd.R_far (p := ⟨gb101, 1, none⟩) (Kd.R_far (p := ⟨gb101, 0, none⟩) (Kd.R_types HO106.out BK101.out (by decide)) (fun _ hk => hk.2) (.int .i64 t103)) (fun _ hk => hk.2) (.slice Ao11 t104.length co11)) (fun _ hk => hk.1.2), by (try refine rp ?_); exact Kd.R_mono (Kd.R_far (p := ⟨gb101, 1, none⟩) (Kd.R_far (p := ⟨gb101, 0, none⟩) (Kd.R_types HO112.out BK101.out (by decide)) (fun _ hk => hk.2) (.int .i64 t103)) (fun _ hk => hk.2) (.slice Ao11 t104.length co11)) (fun _ hk => hk.1.2), wHB_spec_DrawRenameCommittee⟩
def spec_DrawDropMember.f (k : Nat) (l0 : List Int) : Option (Int × List Int × Int) := (spec_l1Cur_committee.f k l0 0 0 6).bind fun bt103 => ((spec_l1Cur_pick.f l0 bt103.2.2.1 bt103.2.2.2 7).bind fun bt109 => ((spec_l1Cur_pick.f l0 bt109.2.1 bt109.2.2 9).bind fun bt112 => (some (bt103.1, bt103.2.1, wrap64 (bt109.1 - (wrap64 (Int.tdiv bt112.1 8)))))))
theorem wHI102_spec_DrawDropMember {p : Prop} (h : p := by repeat (first | (with_reducible first | exact HI102.out | apply IsS81.alloc | apply IsS81.drewN | apply IsS81.drew | apply IsS81.set_1 | apply IsS81.set_2 | refine IsS81.far ?_ NB102_101.out _) | exact HI102.out)) : p := h
theorem wHB_spec_DrawDropMember {p : Prop} (h : p := by repeat (first | (with_reducible first | exact HB.out | apply ba | apply bd | apply be | refine bs ?_ (IsS81.ge HI102.out) | refine bs ?_ GE101.out) | exact HB.out)) : p := h
theorem spec_DrawDropMember.calls (k : Nat) (A0 : Option Addr) (c0 : Nat) (l0 : List Int) (r1 : Int) (r2 : List Int) (r3 : Int) (w : World) (hr0 : Kd.C (Kd.int .u8) w A0 l0.length l0) (hc0 : l0.length ≤ c0) (h : spec_DrawDropMember.f k l0 = some (r1, r2, r3)) :
  Calls Tryz.prog 23 #[.slice A0 l0.length c0] w fun e w' => ∃ v1_ : Value, e = .returned (.tuple #[.agg #[.int .i64 r1, v1_], .int .i64 r3]) ∧ Kd.R (Kd.int .i64) 3 w' w.heap.size (fun _ => True) v1_ r2 ∧ Below w.heap.size w w' := by
 have hu24 := Tryz.underlying24
 have hu81 := Tryz.underlying81
 have HR0 := Aside0.mk hr0
 have HC0 := Aside0.mk hc0
 clear hr0 hc0
 have HB := Aside0.mk (Below.refl w.heap.size w)
 have H := h
 unfold spec_DrawDropMember.f at H
 clear h
 replace H := oB H
 obtain ⟨⟨t103, t104, t107, t108⟩, A20, H⟩ := H
 replace H : ((spec_l1Cur_pick.f l0 t107 t108 7).bind fun bt109 => ((spec_l1Cur_pick.f l0 bt109.2.1 bt109.2.2 9).bind fun bt112 => (some (t103, t104, wrap64 (bt109.1 - (wrap64 (Int.tdiv bt112.1 8))))))) = some (r1, r2, r3) := H
 have A2 := Aside0.mk A20
 clear A20
 replace H := oB H
 obtain ⟨⟨t109, t110, t111⟩, A30, H⟩ := H
 replace H : ((spec_l1Cur_pick.f l0 t110 t111 9).bind fun bt112 => (some (t103, t104, wrap64 (t109 - (wrap64 (Int.tdiv bt112.1 8)))))) = some (r1, r2, r3) := H
 have A3 := Aside0.mk A30
 clear A30
 replace H := oB H
 obtain ⟨⟨t112, t113, t114⟩, A40, H⟩ := H
 replace H : (some (t103, t104, wrap64 (t109 - (wrap64 (Int.tdiv t112 8))))) = some (r1, r2, r3) := H
 have A4 := Aside0.mk A40
 clear A40
 simp only [Option.some.injEq, Prod.mk.injEq] at H
 obtain ⟨rfl, rfl, rfl⟩ := H
 go_enter Tryz.func23, Tryz.ntmps23
 go_wp2_with (first | ((with_reducible refine gate_dst (N := 2) rfl ?_); refine box_event ?hg (N := 2) ?hd (cs := #[.int .i64 0, .slice none 0 0]) (t := 24) ?hr ?_; (case hd => rfl); (case hg => rfl); (case hr => first | (go_simp; done) | (go_simp; rfl)); intro gb101 hg w5 hbox hb; have n0_ := sQ hb; have n1_ := Aside0.mk (hbox); have n2_ := Aside0.mk ((by rw [hg]; exact (below_size (wB)) : w.heap.size ≤ gb101)); have n3_ := Aside0.mk ((by rw [hg]; exact (below_size (wB)) : w.heap.size ≤ gb101)); clear HB; have HB := n0_; have BK101 := n1_; have GW101 := n2_; have GE101 := n3_; clear n0_ n1_ n2_ n3_; clear hb hbox hg) | ((with_reducible refine gate_dst (N := 7) rfl ?_); refine box_event ?hg (N := 7) ?hd (cs := #[.slice A0 l0.length c0, .int .i64 0, .int .u64 0]) (t := 81) ?hr ?_; (case hd => rfl); (case hg => rfl); (case hr => first | (go_simp; done) | (go_simp; rfl)); intro gb102 hg w6 hbox hb; have n0_ := bP BK101 hb; have n1_ := sQ hb; have n2_ := Aside0.mk (hbox); have n3_ := Aside0.mk ((by rw [hg]; exact (below_size (wB)) : w.heap.size ≤ gb102)); have n4_ := Aside0.mk ((by rw [hg]; exact (below_size (wB)) : w.heap.size ≤ gb102)); have n5_ := Aside0.mk ((by rw [hg]; exact Nat.ne_of_lt (blk_lt (g := gb101) (o := .cells #[.int .i64 0, .slice none 0 0] 24 (0, 0)) (bQ BK101)) : gb101 ≠ gb102)); have n6_ := Aside0.mk ((by rw [hg]; exact Nat.ne_of_gt (blk_lt (g := gb101) (o := .cells #[.int .i64 0, .slice none 0 0] 24 (0, 0)) (bQ BK101)) : gb102 ≠ gb101)); have n7_ := Aside0.mk ((show IsS81 w _ gb102 l0 0 0 from ⟨A0, c0, hbox, (by rw [hg]; exact (below_size (wB))), HR0.out⟩)); clear BK101; clear HB; have BK101 := n0_; have HB := n1_; have BK102 := n2_; have GW102 := n3_; have GE102 := n4_; have NB101_102 := n5_; have NB102_101 := n6_; have HI102 := n7_; clear n0_ n1_ n2_ n3_ n4_ n5_ n6_ n7_; clear hb hbox hg) | ((with_reducible refine gate_callee (f := 52) rfl ?_); refine gL 9 Tryz.func52 #[.pointer (some ⟨gb102, 0, none⟩), .int .i64 6] ?_; (with_reducible refine (spec_l1Cur_committee.calls k gb102 l0 0 0 6 t103 t104 t107 t108 w _ ?side1 ?side2 A2.out).mono ?_); (case side1 => exact wHI102_spec_DrawDropMember); (case side2 => exact wHB_spec_DrawDropMember); rintro e w7 ⟨v105, rfl, ho0, hi, hb, hk⟩; refine ⟨_, rfl, ?_⟩; have n0_ := Aside0.mk (KeepBut.blk hk (g' := gb101) (o := .cells #[.int .i64 0, .slice none 0 0] 24 (0, 0)) (bQ BK101) NB101_102.out (by simp)); have n1_ := Aside0.mk (Kd.R_lower ho0 (below_size (wHB_spec_DrawDropMember))); have n2_ := Aside0.mk (hb); have n3_ := Aside0.mk (hi); clear BK101; clear HB; clear HI102; have BK101 := n0_; have HO106 := n1_; have HB := n2_; have HI102 := n3_; clear n0_ n1_ n2_ n3_; (try clear hb); (try clear hb2); (try clear hk); (try clear hi); (try clear ho0)) | ((with_reducible refine gate_callee (f := 54) rfl ?_); refine gL 11 Tryz.func54 #[.pointer (some ⟨gb102, 0, none⟩), .int .i64 7] ?_; (with_reducible refine (spec_l1Cur_pick.calls gb102 l0 t107 t108 7 t109 t110 t111 w _ ?side1 ?side2 A3.out).mono ?_); (case side1 => exact wHI102_spec_DrawDropMember); (case side2 => exact wHB_spec_DrawDropMember); rintro e w8 ⟨rfl, hi, hb, hk⟩; refine ⟨_, rfl, ?_⟩; have n0_ := Aside0.mk (KeepBut.blk hk (g' := gb101) (o := .cells #[.int .i64 0, .slice none 0 0] 24 (0, 0)) (bQ BK101) NB101_102.out (by simp)); have n1_ := Aside0.mk (Kd.R_mono (Kd.R_keep (IsS81.apart (show IsS81 w _ gb102 l0 t107 t108 from wHI102_spec_DrawDropMember) (rQ HO106) (by decide)) hk (fun _ h => h.2)) (fun _ h => h.1)); have n2_ := Aside0.mk (hb); have n3_ := Aside0.mk (hi); clear BK101; clear HO106; clear HB; clear HI102; have BK101 := n0_; have HO106 := n1_; have HB := n2_; have HI102 := n3_; clear n0_ n1_ n2_ n3_; (try clear hb); (try clear hb2); (try clear hk); (try clear hi)) | ((with_reducible refine gate_callee (f := 54) rfl ?_); refine gL 13 Tryz.func54 #[.pointer (some ⟨gb102, 0, none⟩), .int .i64 9] ?_; (with_reducible refine (spec_l1Cur_pick.calls gb102 l0 t110 t111 9 t112 t113 t114 w _ ?side1 ?side2 A4.out).mono ?_); (case side1 => exact wHI102_spec_DrawDropMember); (case side2 => exact wHB_spec_DrawDropMember); rintro e w9 ⟨rfl, hi, hb, hk⟩; refine ⟨_, rfl, ?_⟩; have n0_ := Aside0.mk (KeepBut.blk hk (g' := gb101) (o := .cells #[.int .i64 0, .slice none 0 0] 24 (0, 0)) (bQ BK101) NB101_102.out (by simp)); have n1_ := Aside0.mk (Kd.R_mono (Kd.R_keep (IsS81.apart (show IsS81 w _ gb102 l0 t110 t111 from wHI102_spec_DrawDropMember) (rQ HO106) (by decide)) hk (fun _ h => h.2)) (fun _ h => h.1)); have n2_ := Aside0.mk (hb); have n3_ := Aside0.mk (hi); clear BK101; clear HO106; clear HB; clear HI102; have BK101 := n0_; have HO106 := n1_; have HB := n2_; have HI102 := n3_; clear n0_ n1_ n2_ n3_; (try clear hb); (try clear hb2); (try clear hk); (try clear hi); have hnb10 := NB101_102.out; have hnc10 := NB102_101.out; obtain ⟨hcz11_0, hcz11_1, hfz11_0, hfz11_1⟩ := zZ BK101; obtain ⟨Ao12, co12, eo12⟩ := Kd.R_slice HO106.out; subst eo12))
 refine bodyPost_ret (results_ct rfl _ _ gb101 24 #[.int .i64 t103, .slice Ao12 t104.length co12] (0, 0) _ rfl (by (try refine bp ?_); refine blk_put (cs := #[.int .i64 t103, .slice none 0 0]) ?_ 1 _ rfl; (try refine bp ?_); refine blk_put (cs := #[.int .i64 0, .slice none 0 0]) ?_ 0 _ rfl; (first | exact bp BK101.out | exact BK101.out)) Tryz.underlying24 rfl (by kernel_rfl)) rfl ?_
 exact ⟨_, fR, by (try refine rp ?_); exact Kd.R_mono (Kd.R_far (p := ⟨gb101, 1, none⟩) (Kd.R_far (p := ⟨gb101, 0, none⟩) (Kd.R_types HO106.out BK101.out (by decide)) (fun _ hk => hk.2) (.int .i64 t103)) (fun _ hk => hk.2) (.slice Ao12 t104.length co12)) (fun _ hk => trivial), wHB_spec_DrawDropMember⟩
mutual
def spec_DrawAreSameVotes.j0 : Nat → Bool → List Int → Int → Int → Int → List Int → Option (Int × List Int × Int × List Int)
 | 0, _, _, _, _, _, _ => none
 | k + 1, x19, x104000, x104001, x104002, x111000, x111001 => if x19 = true then (spec_DrawAreSameVotes.l0 k x111001 (x111001.length : Int) 0 x111000 x111001 (wrap64 (2 * x111000)) ([] : List Int)) else ((spec_l1Cur_committee.f k x104000 x104001 x104002 4).bind fun bt120 => (some (x111000, x111001, bt120.1, bt120.2.1)))
def spec_DrawAreSameVotes.l0 : Nat → List Int → Int → Int → Int → List Int → Int → List Int → Option (Int × List Int × Int × List Int)
 | 0, _, _, _, _, _, _, _ => none
 | k + 1, x25, x26, x27, x111000, x111001, x116000, x116001 => if x27 < x26 then (if 0 ≤ x27 then (if x27 < (x25.length : Int) then (if x116001.length < 17592186044416 then (spec_DrawAreSameVotes.l0 k x25 x26 (wrap64 (x27 + 1)) x111000 x111001 x116000 (x116001 ++ [wrap64 (2 * (rd x25 x27))])) else (none)) else (none)) else (none)) else (some (x111000, x111001, x116000, x116001))
end
def spec_DrawAreSameVotes.f (k : Nat) (l0 : List Int) : Option (Int × List Int × Int × List Int) := (spec_l1Cur_committee.f k l0 0 0 4).bind fun bt104 => ((spec_l1Cur_one.f l0 bt104.2.2.1 bt104.2.2.2 2).bind fun bt111 => (if bt111.1 = true then ((spec_voGood.f k bt104.1 bt104.2.1).bind fun t114 => (spec_DrawAreSameVotes.j0 k t114 l0 bt111.2.1 bt111.2.2 bt104.1 bt104.2.1)) else (spec_DrawAreSameVotes.j0 k false l0 bt111.2.1 bt111.2.2 bt104.1 bt104.2.1)))
theorem wHI103_spec_DrawAreSameVotes {p : Prop} (h : p := by repeat (first | (with_reducible first | exact HI103.out | apply IsS81.alloc | apply IsS81.drewN | apply IsS81.drew | apply IsS81.set_1 | apply IsS81.set_2 | refine IsS81.far ?_ NB103_101.out _ | refine IsS81.far ?_ NB103_102.out _ | refine IsS81.far ?_ NB103_110.out _) | exact HI103.out)) : p := h
theorem wHB_spec_DrawAreSameVotes {p : Prop} (h : p := by repeat (first | (with_reducible first | exact HB.out | apply ba | apply bd | apply be | refine bs ?_ (IsS81.ge HI103.out) | refine bs ?_ GE101.out | refine bs ?_ GE102.out | refine bs ?_ GE110.out | refine bs ?_ GE115.out) | exact HB.out)) : p := h
theorem spec_DrawAreSameVotes.calls (k : Nat) (A0 : Option Addr) (c0 : Nat) (l0 : List Int) (r1 : Int) (r2 : List Int) (r3 : Int) (r4 : List Int) (w : World) (hr0 : Kd.C (Kd.int .u8) w A0 l0.length l0) (hc0 : l0.length ≤ c0) (h : spec_DrawAreSameVotes.f k l0 = some (r1, r2, r3, r4)) :
  Calls Tryz.prog 24 #[.slice A0 l0.length c0] w fun e w' => ∃ v1_ v3_ : Value, e = .returned (.tuple #[.agg #[.int .i64 r1, v1_], .agg #[.int .i64 r3, v3_]]) ∧ Kd.R (Kd.int .i64) 3 w' w.heap.size (fun k_ => nb v3_ k_) v1_ r2 ∧ Kd.R (Kd.int .i64) 3 w' w.heap.size (fun k_ => nb v1_ k_) v3_ r4 ∧ Below w.heap.size w w' := by
 have hu24 := Tryz.underlying24
 have hu81 := Tryz.underlying81
 have HR0 := Aside0.mk hr0
 have HC0 := Aside0.mk hc0
 clear hr0 hc0
 have HB := Aside0.mk (Below.refl w.heap.size w)
 have H := h
 unfold spec_DrawAreSameVotes.f at H
 clear h
 replace H := oB H
 obtain ⟨⟨t104, t105, t108, t109⟩, A20, H⟩ := H
 replace H : ((spec_l1Cur_one.f l0 t108 t109 2).bind fun bt111 => (if bt111.1 = true then ((spec_voGood.f k t104 t105).bind fun t114 => (spec_DrawAreSameVotes.j0 k t114 l0 bt111.2.1 bt111.2.2 t104 t105)) else (spec_DrawAreSameVotes.j0 k false l0 bt111.2.1 bt111.2.2 t104 t105))) = some (r1, r2, r3, r4) := H
 have A2 := Aside0.mk A20
 clear A20
 have HC3 := Aside0.mk H
 clear H
 go_enter Tryz.func24, Tryz.ntmps24
 go_upto_region 3 with (first | ((with_reducible refine gate_dst (N := 2) rfl ?_); refine box_event ?hg (N := 2) ?hd (cs := #[.int .i64 0, .slice none 0 0]) (t := 24) ?hr ?_; (case hd => rfl); (case hg => rfl); (case hr => first | (go_simp; done) | (go_simp; rfl)); intro gb101 hg w4 hbox hb; have n0_ := sQ hb; have n1_ := Aside0.mk (hbox); have n2_ := Aside0.mk ((by rw [hg]; exact (below_size (wB)) : w.heap.size ≤ gb101)); have n3_ := Aside0.mk ((by rw [hg]; exact (below_size (wB)) : w.heap.size ≤ gb101)); clear HB; have HB := n0_; have BK101 := n1_; have GW101 := n2_; have GE101 := n3_; clear n0_ n1_ n2_ n3_; clear hb hbox hg) | ((with_reducible refine gate_dst (N := 3) rfl ?_); refine box_event ?hg (N := 3) ?hd (cs := #[.int .i64 0, .slice none 0 0]) (t := 24) ?hr ?_; (case hd => rfl); (case hg => rfl); (case hr => first | (go_simp; done) | (go_simp; rfl)); intro gb102 hg w5 hbox hb; have n0_ := bP BK101 hb; have n1_ := sQ hb; have n2_ := Aside0.mk (hbox); have n3_ := Aside0.mk ((by rw [hg]; exact (below_size (wB)) : w.heap.size ≤ gb102)); have n4_ := Aside0.mk ((by rw [hg]; exact (below_size (wB)) : w.heap.size ≤ gb102)); have n5_ := Aside0.mk ((by rw [hg]; exact Nat.ne_of_lt (blk_lt (g := gb101) (o := .cells #[.int .i64 0, .slice none 0 0] 24 (0, 0)) (bQ BK101)) : gb101 ≠ gb102)); have n6_ := Aside0.mk ((by rw [hg]; exact Nat.ne_of_gt (blk_lt (g := gb101) (o := .cells #[.int .i64 0, .slice none 0 0] 24 (0, 0)) (bQ BK101)) : gb102 ≠ gb101)); clear BK101; clear HB; have BK101 := n0_; have HB := n1_; have BK102 := n2_; have GW102 := n3_; have GE102 := n4_; have NB101_102 := n5_; have NB102_101 := n6_; clear n0_ n1_ n2_ n3_ n4_ n5_ n6_; clear hb hbox hg) | ((with_reducible refine gate_dst (N := 11) rfl ?_); refine box_event ?hg (N := 11) ?hd (cs := #[.slice A0 l0.length c0, .int .i64 0, .int .u64 0]) (t := 81) ?hr ?_; (case hd => rfl); (case hg => rfl); (case hr => first | (go_simp; done) | (go_simp; rfl)); intro gb103 hg w6 hbox hb; have n0_ := bP BK101 hb; have n1_ := bP BK102 hb; have n2_ := sQ hb; have n3_ := Aside0.mk (hbox); have n4_ := Aside0.mk ((by rw [hg]; exact (below_size (wB)) : w.heap.size ≤ gb103)); have n5_ := Aside0.mk ((by rw [hg]; exact (below_size (wB)) : w.heap.size ≤ gb103)); have n6_ := Aside0.mk ((by rw [hg]; exact Nat.ne_of_lt (blk_lt (g := gb101) (o := .cells #[.int .i64 0, .slice none 0 0] 24 (0, 0)) (bQ BK101)) : gb101 ≠ gb103)); have n7_ := Aside0.mk ((by rw [hg]; exact Nat.ne_of_gt (blk_lt (g := gb101) (o := .cells #[.int .i64 0, .slice none 0 0] 24 (0, 0)) (bQ BK101)) : gb103 ≠ gb101)); have n8_ := Aside0.mk ((by rw [hg]; exact Nat.ne_of_lt (blk_lt (g := gb102) (o := .cells #[.int .i64 0, .slice none 0 0] 24 (0, 0)) (bQ BK102)) : gb102 ≠ gb103)); have n9_ := Aside0.mk ((by rw [hg]; exact Nat.ne_of_gt (blk_lt (g := gb102) (o := .cells #[.int .i64 0, .slice none 0 0] 24 (0, 0)) (bQ BK102)) : gb103 ≠ gb102)); have n10_ := Aside0.mk ((show IsS81 w _ gb103 l0 0 0 from ⟨A0, c0, hbox, (by rw [hg]; exact (below_size (wB))), HR0.out⟩)); clear BK101; clear BK102; clear HB; have BK101 := n0_; have BK102 := n1_; have HB := n2_; have BK103 := n3_; have GW103 := n4_; have GE103 := n5_; have NB101_103 := n6_; have NB103_101 := n7_; have NB102_103 := n8_; have NB103_102 := n9_; have HI103 := n10_; clear n0_ n1_ n2_ n3_ n4_ n5_ n6_ n7_ n8_ n9_ n10_; clear hb hbox hg) | ((with_reducible refine gate_callee (f := 52) rfl ?_); refine gL 13 Tryz.func52 #[.pointer (some ⟨gb103, 0, none⟩), .int .i64 4] ?_; (with_reducible refine (spec_l1Cur_committee.calls k gb103 l0 0 0 4 t104 t105 t108 t109 w _ ?side1 ?side2 A2.out).mono ?_); (case side1 => exact wHI103_spec_DrawAreSameVotes); (case side2 => exact wHB_spec_DrawAreSameVotes); rintro e w7 ⟨v106, rfl, ho0, hi, hb, hk⟩; refine ⟨_, rfl, ?_⟩; have n0_ := Aside0.mk (KeepBut.blk hk (g' := gb101) (o := .cells #[.int .i64 0, .slice none 0 0] 24 (0, 0)) (bQ BK101) NB101_103.out (by simp)); have n1_ := Aside0.mk (KeepBut.blk hk (g' := gb102) (o := .cells #[.int .i64 0, .slice none 0 0] 24 (0, 0)) (bQ BK102) NB102_103.out (by simp)); have n2_ := Aside0.mk (Kd.R_lower ho0 (below_size (wHB_spec_DrawAreSameVotes))); have n3_ := Aside0.mk (hb); have n4_ := Aside0.mk (hi); clear BK101; clear BK102; clear HB; clear HI103; have BK101 := n0_; have BK102 := n1_; have HO107 := n2_; have HB := n3_; have HI103 := n4_; clear n0_ n1_ n2_ n3_ n4_; (try clear hb); (try clear hb2); (try clear hk); (try clear hi); (try clear ho0)) | ((with_reducible refine gate_dst (N := 5) rfl ?_); refine box_event ?hg (N := 5) ?hd (cs := #[.int .i64 0, .slice none 0 0]) (t := 24) ?hr ?_; (case hd => rfl); (case hg => rfl); (case hr => first | (go_simp; done) | (go_simp; rfl)); intro gb110 hg w8 hbox hb; have n0_ := rP HO107 hb; have n1_ := bP BK101 hb; have n2_ := bP BK102 hb; have n3_ := Aside0.mk (IsS81.below (wHI103_spec_DrawAreSameVotes) hb); have n4_ := Aside0.mk (below_step (wHB_spec_DrawAreSameVotes) hb); have n5_ := Aside0.mk (hbox); have n6_ := Aside0.mk ((by rw [hg]; exact (below_size (wHB_spec_DrawAreSameVotes)) : w.heap.size ≤ gb110)); have n7_ := Aside0.mk ((by rw [hg]; exact (below_size (wHB_spec_DrawAreSameVotes)) : w.heap.size ≤ gb110)); have n8_ := Aside0.mk ((by rw [hg]; exact Nat.ne_of_lt (blk_lt (g := gb101) (o := .cells #[.int .i64 0, .slice none 0 0] 24 (0, 0)) (bQ BK101)) : gb101 ≠ gb110)); have n9_ := Aside0.mk ((by rw [hg]; exact Nat.ne_of_gt (blk_lt (g := gb101) (o := .cells #[.int .i64 0, .slice none 0 0] 24 (0, 0)) (bQ BK101)) : gb110 ≠ gb101)); have n10_ := Aside0.mk ((by rw [hg]; exact Nat.ne_of_lt (blk_lt (g := gb102) (o := .cells #[.int .i64 0, .slice none 0 0] 24 (0, 0)) (bQ BK102)) : gb102 ≠ gb110)); have n11_ := Aside0.mk ((by rw [hg]; exact Nat.ne_of_gt (blk_lt (g := gb102) (o := .cells #[.int .i64 0, .slice none 0 0] 24 (0, 0)) (bQ BK102)) : gb110 ≠ gb102)); have n12_ := Aside0.mk ((by rw [hg]; exact Nat.ne_of_lt (IsS81.lt (show IsS81 w _ gb103 l0 t108 t109 from wHI103_spec_DrawAreSameVotes)) : gb103 ≠ gb110)); have n13_ := Aside0.mk ((by rw [hg]; exact Nat.ne_of_gt (IsS81.lt (show IsS81 w _ gb103 l0 t108 t109 from wHI103_spec_DrawAreSameVotes)) : gb110 ≠ gb103)); clear HO107; clear BK101; clear BK102; clear HI103; clear HB; have HO107 := n0_; have BK101 := n1_; have BK102 := n2_; have HI103 := n3_; have HB := n4_; have BK110 := n5_; have GW110 := n6_; have GE110 := n7_; have NB101_110 := n8_; have NB110_101 := n9_; have NB102_110 := n10_; have NB110_102 := n11_; have NB103_110 := n12_; have NB110_103 := n13_; clear n0_ n1_ n2_ n3_ n4_ n5_ n6_ n7_ n8_ n9_ n10_ n11_ n12_ n13_; clear hb hbox hg; have hnb9 := NB110_101.out; have hnc9 := NB101_110.out; have hnb10 := NB110_102.out; have hnc10 := NB102_110.out; have hnb11 := NB110_103.out; have hnc11 := NB103_110.out; obtain ⟨hcz12_0, hcz12_1, hfz12_0, hfz12_1⟩ := zZ BK110; obtain ⟨Ao13, co13, eo13⟩ := Kd.R_slice HO107.out; subst eo13))
 (try simp only [Act.put, sA, sZ, sS])
 go_cut [19] (fun v19 wc => ∃ (kq : Nat) (x19_2 : Bool) (x104001_2 : Int) (x104002_2 : Int), v19 = .bool x19_2 ∧ Aside0 (spec_DrawAreSameVotes.j0 kq x19_2 l0 x104001_2 x104002_2 t104 t105 = some (r1, r2, r3, r4)) ∧ Aside0 (kq ≤ k) ∧ Aside0 (Kd.R (Kd.int .i64) 3 wc w.heap.size (fun _ => True) (.slice Ao13 t105.length co13) t105) ∧ Aside0 (wc.heap[gb101]? = some (.cells #[.int .i64 0, (.slice none 0 0)] 24 (0, 0))) ∧ Aside0 (wc.heap[gb102]? = some (.cells #[.int .i64 0, (.slice none 0 0)] 24 (0, 0))) ∧ Aside0 (wc.heap[gb110]? = some (.cells #[.int .i64 t104, (.slice Ao13 t105.length co13)] 24 (0, 0))) ∧ Aside0 (IsS81 w wc gb103 l0 x104001_2 x104002_2) ∧ Aside0 (Below w.heap.size w wc))
 case first =>
  have H := HC3.out
  clear HC3
  replace H := oB H
  obtain ⟨⟨t111, t112, t113⟩, A140, H⟩ := H
  replace H : (if t111 = true then ((spec_voGood.f k t104 t105).bind fun t114 => (spec_DrawAreSameVotes.j0 k t114 l0 t112 t113 t104 t105)) else (spec_DrawAreSameVotes.j0 k false l0 t112 t113 t104 t105)) = some (r1, r2, r3, r4) := H
  have A14 := Aside0.mk A140
  clear A140
  by_cases c15 : t111 = true
  rotate_left
  ·replace c15 := Bool.eq_false_iff.mpr c15
   subst c15
   replace H := iF H
   have H' := Aside0.mk H
   clear H
   go_wp2_with (first | ((with_reducible refine gate_callee (f := 55) rfl ?_); refine gL 15 Tryz.func55 #[.pointer (some ⟨gb103, 0, none⟩), .int .i64 2] ?_; (with_reducible refine (spec_l1Cur_one.calls gb103 l0 t108 t109 2 false t112 t113 w _ ?side1 ?side2 A14.out).mono ?_); (case side1 => exact wHI103_spec_DrawAreSameVotes); (case side2 => exact wHB_spec_DrawAreSameVotes); rintro e w23 ⟨rfl, hi, hb, hk⟩; refine ⟨_, rfl, ?_⟩; have n0_ := Aside0.mk (KeepBut.blk hk (g' := gb101) (o := .cells #[.int .i64 0, .slice none 0 0] 24 (0, 0)) (by (try refine bp ?_); refine blk_far ?_ NB101_110.out _; (try refine bp ?_); refine blk_far ?_ NB101_110.out _; (first | exact bp BK101.out | exact BK101.out)) NB101_103.out (by simp)); have n1_ := Aside0.mk (KeepBut.blk hk (g' := gb102) (o := .cells #[.int .i64 0, .slice none 0 0] 24 (0, 0)) (by (try refine bp ?_); refine blk_far ?_ NB102_110.out _; (try refine bp ?_); refine blk_far ?_ NB102_110.out _; (first | exact bp BK102.out | exact BK102.out)) NB102_103.out (by simp)); have n2_ := Aside0.mk (Kd.R_mono (Kd.R_keep (IsS81.apart (show IsS81 w _ gb103 l0 t108 t109 from wHI103_spec_DrawAreSameVotes) (by (try refine rp ?_); exact (Kd.R_mono (Kd.R_far (p := ⟨gb110, 1, none⟩) (Kd.R_far (p := ⟨gb110, 0, none⟩) (Kd.R_types HO107.out BK110.out (by decide)) (fun _ hk => hk.2) (.int .i64 t104)) (fun _ hk => hk.2) (.slice Ao13 t105.length co13)) (fun _ h_ => h_.1))) (by decide)) hk (fun _ h => h.2)) (fun _ h => h.1)); have n3_ := Aside0.mk (KeepBut.blk hk (g' := gb110) (o := .cells #[.int .i64 t104, .slice Ao13 t105.length co13] 24 (0, 0)) (by (try refine bp ?_); refine blk_put (cs := #[.int .i64 t104, .slice none 0 0]) ?_ 1 _ rfl; (try refine bp ?_); refine blk_put (cs := #[.int .i64 0, .slice none 0 0]) ?_ 0 _ rfl; (first | exact bp BK110.out | exact BK110.out)) NB110_103.out (by simp)); have n4_ := Aside0.mk (hb); have n5_ := Aside0.mk (hi); clear BK101; clear BK102; clear HO107; clear BK110; clear HB; clear HI103; have BK101 := n0_; have BK102 := n1_; have HO107 := n2_; have BK110 := n3_; have HB := n4_; have HI103 := n5_; clear n0_ n1_ n2_ n3_ n4_ n5_; (try clear hb); (try clear hb2); (try clear hk); (try clear hi)))
   go_meet
   case rel => exact ⟨_, (false), (t112), (t113), gR, H', ⟨by first | omega | exact Nat.le_refl _⟩, ⟨rQ HO107⟩, ⟨bQ BK101⟩, ⟨bQ BK102⟩, ⟨bQ BK110⟩, ⟨wHI103_spec_DrawAreSameVotes⟩, ⟨wHB_spec_DrawAreSameVotes⟩⟩
  subst c15
  replace H := iT H
  replace H := oB H
  obtain ⟨t114, A160, H⟩ := H
  replace H : (spec_DrawAreSameVotes.j0 k t114 l0 t112 t113 t104 t105) = some (r1, r2, r3, r4) := H
  have A16 := Aside0.mk A160
  clear A160
  have H' := Aside0.mk H
  clear H
  go_wp2_with (first | ((with_reducible refine gate_callee (f := 55) rfl ?_); refine gL 15 Tryz.func55 #[.pointer (some ⟨gb103, 0, none⟩), .int .i64 2] ?_; (with_reducible refine (spec_l1Cur_one.calls gb103 l0 t108 t109 2 true t112 t113 w _ ?side1 ?side2 A14.out).mono ?_); (case side1 => exact wHI103_spec_DrawAreSameVotes); (case side2 => exact wHB_spec_DrawAreSameVotes); rintro e w17 ⟨rfl, hi, hb, hk⟩; refine ⟨_, rfl, ?_⟩; have n0_ := Aside0.mk (KeepBut.blk hk (g' := gb101) (o := .cells #[.int .i64 0, .slice none 0 0] 24 (0, 0)) (by (try refine bp ?_); refine blk_far ?_ NB101_110.out _; (try refine bp ?_); refine blk_far ?_ NB101_110.out _; (first | exact bp BK101.out | exact BK101.out)) NB101_103.out (by simp)); have n1_ := Aside0.mk (KeepBut.blk hk (g' := gb102) (o := .cells #[.int .i64 0, .slice none 0 0] 24 (0, 0)) (by (try refine bp ?_); refine blk_far ?_ NB102_110.out _; (try refine bp ?_); refine blk_far ?_ NB102_110.out _; (first | exact bp BK102.out | exact BK102.out)) NB102_103.out (by simp)); have n2_ := Aside0.mk (Kd.R_mono (Kd.R_keep (IsS81.apart (show IsS81 w _ gb103 l0 t108 t109 from wHI103_spec_DrawAreSameVotes) (by (try refine rp ?_); exact (Kd.R_mono (Kd.R_far (p := ⟨gb110, 1, none⟩) (Kd.R_far (p := ⟨gb110, 0, none⟩) (Kd.R_types HO107.out BK110.out (by decide)) (fun _ hk => hk.2) (.int .i64 t104)) (fun _ hk => hk.2) (.slice Ao13 t105.length co13)) (fun _ h_ => h_.1))) (by decide)) hk (fun _ h => h.2)) (fun _ h => h.1)); have n3_ := Aside0.mk (KeepBut.blk hk (g' := gb110) (o := .cells #[.int .i64 t104, .slice Ao13 t105.length co13] 24 (0, 0)) (by (try refine bp ?_); refine blk_put (cs := #[.int .i64 t104, .slice none 0 0]) ?_ 1 _ rfl; (try refine bp ?_); refine blk_put (cs := #[.int .i64 0, .slice none 0 0]) ?_ 0 _ rfl; (first | exact bp BK110.out | exact BK110.out)) NB110_103.out (by simp)); have n4_ := Aside0.mk (hb); have n5_ := Aside0.mk (hi); clear BK101; clear BK102; clear HO107; clear BK110; clear HB; clear HI103; have BK101 := n0_; have BK102 := n1_; have HO107 := n2_; have BK110 := n3_; have HB := n4_; have HI103 := n5_; clear n0_ n1_ n2_ n3_ n4_ n5_; (try clear hb); (try clear hb2); (try clear hk); (try clear hi); have hnb18 := NB110_101.out; have hnc18 := NB101_110.out; have hnb19 := NB110_102.out; have hnc19 := NB102_110.out; have hnb20 := NB110_103.out; have hnc20 := NB103_110.out; obtain ⟨hcz21_0, hcz21_1, hfz21_0, hfz21_1⟩ := zZ BK110) | (go_at_call 28; (with_reducible refine (spec_voGood.calls k t104 _ _ t105 t114 _ ?side1 ?side2 A16.out).mono ?_); (case side1 => have hx_ := (Kd.R_reads' HO107.out).2.2; exact cC); (case side2 => exact (Kd.R_reads' HO107.out).2.1); rintro e w22 ⟨rfl, hb⟩; have n0_ := rP HO107 hb; have n1_ := bP BK101 hb; have n2_ := bP BK102 hb; have n3_ := Aside0.mk (IsS81.below (wHI103_spec_DrawAreSameVotes) hb); have n4_ := bP BK110 hb; have n5_ := Aside0.mk (below_step (wHB_spec_DrawAreSameVotes) hb); clear HO107; clear BK101; clear BK102; clear HI103; clear BK110; clear HB; have HO107 := n0_; have BK101 := n1_; have BK102 := n2_; have HI103 := n3_; have BK110 := n4_; have HB := n5_; clear n0_ n1_ n2_ n3_ n4_ n5_; (try clear hb); (try clear hb2); (try clear hk); (try clear hi)))
  go_meet
  case rel => exact ⟨_, (t114), (t112), (t113), gR, H', ⟨by first | omega | exact Nat.le_refl _⟩, ⟨rQ HO107⟩, ⟨bQ BK101⟩, ⟨bQ BK102⟩, ⟨bQ BK110⟩, ⟨wHI103_spec_DrawAreSameVotes⟩, ⟨wHB_spec_DrawAreSameVotes⟩⟩
 case rest =>
  clear HC3
  try clear c1
  try clear c2
  try clear p2
  try clear c5
  try clear c9
  try clear c10
  try clear c11
  try clear c15
  try clear c18
  try clear c19
  try clear c20
  try clear hcz12_0
  try clear hcz12_1
  try clear hcz21_0
  try clear hcz21_1
  try clear hfz12_0
  try clear hfz12_1
  try clear hfz21_0
  try clear hfz21_1
  obtain ⟨kq, x19_2, x104001_2, x104002_2, rfl, HA, HJ2, HO_111001, BK101, BK102, BK110, HI103, HB⟩ := hcut
  cases kq with
  | zero => exact absurd HA.out (by simp [spec_DrawAreSameVotes.j0])
  | succ kj2 =>
   have H := HA.out
   clear HA
   simp only [spec_DrawAreSameVotes.j0] at H
   by_cases c24 : x19_2 = true
   rotate_left
   ·replace c24 := Bool.eq_false_iff.mpr c24
    subst c24
    replace H := iF H
    replace H := oB H
    obtain ⟨⟨t120, t121, t124, t125⟩, A530, H⟩ := H
    replace H : (some (t104, t105, t120, t121)) = some (r1, r2, r3, r4) := H
    have A53 := Aside0.mk A530
    clear A530
    simp only [Option.some.injEq, Prod.mk.injEq] at H
    obtain ⟨rfl, rfl, rfl, rfl⟩ := H
    try go_wp2
    have n0_ := rD HO_111001
    have n1_ := bD BK101
    have n2_ := bD BK102
    have n3_ := bD BK110
    have n4_ := Aside0.mk (IsS81.drew HI103.out)
    have n5_ := Aside0.mk (below_drew1 HB.out)
    clear HO_111001
    clear BK101
    clear BK102
    clear BK110
    clear HI103
    clear HB
    have HO_111001 := n0_
    have BK101 := n1_
    have BK102 := n2_
    have BK110 := n3_
    have HI103 := n4_
    have HB := n5_
    clear n0_ n1_ n2_ n3_ n4_ n5_
    refine start_ (n := 5) (S := fun w' => w'.cell? ⟨gb110, 0, none⟩ = some (.int .i64 t104) ∧ w'.cell? ⟨gb110, 1, none⟩ = some (.slice Ao13 t105.length co13)) (ds := []) #[false, false, false, false, false] (by kernel_rfl) rfl rfl ⟨(blk_cell BK110.out 0).trans rfl, (blk_cell BK110.out 1).trans rfl⟩ (fun hHeld => ?_)
    generalize wc.drew = w54 at HO_111001 BK101 BK102 BK110 HI103 HB hHeld ⊢
    refine pure_ (i := 1) (N := some 42) (v := ?_) (a' := ?_) #[false, true, false, false, false] rfl rfl (by kernel_rfl) (fun _ _ _ h => h) (Or.inl ⟨by rfl, ?_⟩) ?_ ?_
    rotate_left
    ·intro w'
     go_simp
     with_reducible rfl
    rotate_left
    ·simp only [Act.put, sA, sZ, sS, i64_w, i32_w]
     rfl
    refine take_ (i := 0) (N := some 41) (v := ?_) (a' := ?_) #[true, true, false, false, false] rfl rfl (by kernel_rfl) (fun _ _ _ h => h) (Or.inl ⟨by rfl, ?_⟩) hHeld ?_ ?_
    rotate_left
    ·rintro w' ⟨s0, s1⟩
     go_simp
     with_reducible rfl
    rotate_left
    ·simp only [Act.put, sA, sZ, sS, i64_w, i32_w]
     rfl
    refine one_ (i := 2) (N := some 43) #[true, true, true, false, false] rfl rfl (by kernel_rfl) (by decide) (fun K hK => ?_)
    refine gE Tryz.func52 #[.pointer (some ⟨gb103, 0, none⟩), .int .i64 4] ?_
    with_reducible refine (spec_l1Cur_committee.calls kj2 gb103 l0 x104001_2 x104002_2 4 t120 t121 t124 t125 w _ ?side1 ?side2 A53.out).mono ?_
    (case side1 => exact wHI103_spec_DrawAreSameVotes)
    (case side2 => exact wHB_spec_DrawAreSameVotes)
    rintro e w55 ⟨v122, rfl, ho0, hi, hb, hk⟩
    refine ⟨_, rfl, ?_⟩
    have n0_ := Aside0.mk (Kd.R_mono (Kd.R_told (Kd.R_oldK (IsS81.apart (show IsS81 w _ gb103 l0 x104001_2 x104002_2 from wHI103_spec_DrawAreSameVotes) (rQ HO_111001) (by decide)) hk) (Kd.R_base ho0)) (fun _ h_ => h_.1))
    have n1_ := Aside0.mk (KeepBut.blk hk (g' := gb101) (o := .cells #[.int .i64 0, .slice none 0 0] 24 (0, 0)) (bQ BK101) NB101_103.out (by simp))
    have n2_ := Aside0.mk (KeepBut.blk hk (g' := gb102) (o := .cells #[.int .i64 0, .slice none 0 0] 24 (0, 0)) (bQ BK102) NB102_103.out (by simp))
    have n3_ := Aside0.mk (KeepBut.blk hk (g' := gb110) (o := .cells #[.int .i64 t104, .slice Ao13 t105.length co13] 24 (0, 0)) (bQ BK110) NB110_103.out (by simp))
    have n4_ := Aside0.mk (Kd.R_lower (Kd.R_new' ho0 (Kd.R_lt (rQ HO_111001))) (below_size (wHB_spec_DrawAreSameVotes)))
    have n5_ := Aside0.mk (hb)
    have n6_ := Aside0.mk (hi)
    clear HO_111001
    clear BK101
    clear BK102
    clear BK110
    clear HB
    clear HI103
    have HO_111001 := n0_
    have BK101 := n1_
    have BK102 := n2_
    have BK110 := n3_
    have HO123 := n4_
    have HB := n5_
    have HI103 := n6_
    clear n0_ n1_ n2_ n3_ n4_ n5_ n6_
    (try clear hb)
    (try clear hb2)
    (try clear hk)
    (try clear hi)
    (try clear ho0)
    obtain ⟨Ao59, co59, eo59⟩ := Kd.R_slice HO123.out
    (first | subst eo59 | (injection eo59 with f1_ f2_ f3_; have f4_ := f1_.symm; have f5_ := f3_.symm; clear f1_ f2_ f3_; subst f4_; subst f5_))
    refine hK.out _ _ ⟨(blk_cell BK110.out 0).trans rfl, (blk_cell BK110.out 1).trans rfl⟩ (fun hHeld => ?_)
    clear hK K
    refine nM ?_
    refine one_ (i := 3) (N := none) #[true, true, true, true, false] rfl rfl (by kernel_rfl) (by decide) (fun K hK => ?_)
    have hs56 : w55.cell? ⟨gb101, 0, none⟩ = some (.int .i64 0) := (blk_cell BK101.out 0).trans rfl
    have hfs56 := blk_frozen BK101.out 0
    have hns56_1 := NB102_101.out
    have hns56_2 := NB110_101.out
    have hms56_1 := NB101_102.out
    have hms56_2 := NB101_110.out
    have hs57 : w55.cell? ⟨gb101, 1, none⟩ = some (.slice none 0 0) := (blk_cell BK101.out 1).trans rfl
    have hfs57 := blk_frozen BK101.out 1
    have hns57_1 := NB102_101.out
    have hns57_2 := NB110_101.out
    have hms57_1 := NB101_102.out
    have hms57_2 := NB101_110.out
    refine skip_ (w1 := ?_) (by rfl) rfl ?_ ?_
    rotate_left
    ·go_simp
     rfl
    refine hK.out _ _ ⟨((cell_far (p := ⟨gb101, _, none⟩) NB110_101.out _).trans (((cell_far (p := ⟨gb101, _, none⟩) NB110_101.out _).trans (hHeld.1)))), ((cell_far (p := ⟨gb101, _, none⟩) NB110_101.out _).trans (((cell_far (p := ⟨gb101, _, none⟩) NB110_101.out _).trans (hHeld.2))))⟩ (fun hHeld => ?_)
    clear hK K
    refine one_ (i := 4) (N := none) #[true, true, true, true, true] rfl rfl (by kernel_rfl) (by decide) (fun K hK => ?_)
    have hs58 : w55.cell? ⟨gb102, 0, none⟩ = some (.int .i64 0) := (blk_cell BK102.out 0).trans rfl
    have hfs58 := blk_frozen BK102.out 0
    have hns58_0 := NB101_102.out
    have hns58_2 := NB110_102.out
    have hms58_0 := NB102_101.out
    have hms58_2 := NB102_110.out
    have hs60 : w55.cell? ⟨gb102, 1, none⟩ = some (.slice none 0 0) := (blk_cell BK102.out 1).trans rfl
    have hfs60 := blk_frozen BK102.out 1
    have hns60_0 := NB101_102.out
    have hns60_2 := NB110_102.out
    have hms60_0 := NB102_101.out
    have hms60_2 := NB102_110.out
    refine skip_ (w1 := ?_) (by rfl) rfl ?_ ?_
    rotate_left
    ·go_simp
     rfl
    refine hK.out _ _ ⟨((cell_far (p := ⟨gb102, _, none⟩) NB110_102.out _).trans (((cell_far (p := ⟨gb102, _, none⟩) NB110_102.out _).trans (hHeld.1)))), ((cell_far (p := ⟨gb102, _, none⟩) NB110_102.out _).trans (((cell_far (p := ⟨gb102, _, none⟩) NB110_102.out _).trans (hHeld.2))))⟩ (fun hHeld => ?_)
    clear hK K
    refine done_ (by kernel_rfl) ?_
    try go_wp2
    refine bodyPost_ret (results_cc rfl _ _ gb101 gb102 24 24 #[.int .i64 t104, .slice Ao13 t105.length co13] #[.int .i64 t120, .slice Ao59 t121.length co59] (0, 0) (0, 0) _ _ rfl (by (try refine bp ?_); refine blk_far ?_ NB101_102.out _; (try refine bp ?_); refine blk_far ?_ NB101_102.out _; (try refine bp ?_); refine blk_put (cs := #[.int .i64 t104, .slice none 0 0]) ?_ 1 _ rfl; (try refine bp ?_); refine blk_put (cs := #[.int .i64 0, .slice none 0 0]) ?_ 0 _ rfl; (first | exact bp BK101.out | exact BK101.out)) Tryz.underlying24 rfl (by kernel_rfl) rfl (by (try refine bp ?_); refine blk_put (cs := #[.int .i64 t120, .slice none 0 0]) ?_ 1 _ rfl; (try refine bp ?_); refine blk_put (cs := #[.int .i64 0, .slice none 0 0]) ?_ 0 _ rfl; (try refine bp ?_); refine blk_far ?_ NB102_101.out _; (try refine bp ?_); refine blk_far ?_ NB102_101.out _; (first | exact bp BK102.out | exact BK102.out)) Tryz.underlying24 rfl (by kernel_rfl)) rfl ?_
    exact ⟨_, _, fR, by (try refine rp ?_); exact Kd.R_mono (Kd.R_far (p := ⟨gb102, 1, none⟩) (Kd.R_far (p := ⟨gb102, 0, none⟩) (Kd.R_far (p := ⟨gb101, 1, none⟩) (Kd.R_far (p := ⟨gb101, 0, none⟩) (Kd.R_types (Kd.R_types HO_111001.out BK101.out (by decide)) BK102.out (by decide)) (fun _ hk => hk.1.2) (.int .i64 t104)) (fun _ hk => hk.1.2) (.slice Ao13 t105.length co13)) (fun _ hk => hk.2) (.int .i64 t120)) (fun _ hk => hk.2) (.slice Ao59 t121.length co59)) (fun _ hk => hk.1.1.2), by (try refine rp ?_); exact Kd.R_mono (Kd.R_far (p := ⟨gb102, 1, none⟩) (Kd.R_far (p := ⟨gb102, 0, none⟩) (Kd.R_far (p := ⟨gb101, 1, none⟩) (Kd.R_far (p := ⟨gb101, 0, none⟩) (Kd.R_types (Kd.R_types HO123.out BK101.out (by decide)) BK102.out (by decide)) (fun _ hk => hk.1.2) (.int .i64 t104)) (fun _ hk => hk.1.2) (.slice Ao13 t105.length co13)) (fun _ hk => hk.2) (.int .i64 t120)) (fun _ hk => hk.2) (.slice Ao59 t121.length co59)) (fun _ hk => hk.1.1.2), wHB_spec_DrawAreSameVotes⟩
   subst c24
   replace H := iT H
   have H' := Aside0.mk H
   clear H
   have hnb25 := NB110_101.out
   have hnc25 := NB101_110.out
   have hnb26 := NB110_102.out
   have hnc26 := NB102_110.out
   have hnb27 := NB110_103.out
   have hnc27 := NB103_110.out
   obtain ⟨hcz28_0, hcz28_1, hfz28_0, hfz28_1⟩ := zZ BK110
   go_wp2_with (first | ((with_reducible refine gate_dst (N := 6) rfl ?_); refine box_event ?hg (N := 6) ?hd (cs := #[.int .i64 0, .slice none 0 0]) (t := 24) ?hr ?_; (case hd => rfl); (case hg => rfl); (case hr => first | (go_simp; done) | (go_simp; rfl)); intro gb115 hg w29 hbox hb; have n0_ := rP HO_111001 hb; have n1_ := bP BK101 hb; have n2_ := bP BK102 hb; have n3_ := bP BK110 hb; have n4_ := Aside0.mk (IsS81.below (wHI103_spec_DrawAreSameVotes) hb); have n5_ := Aside0.mk (below_step (wHB_spec_DrawAreSameVotes) hb); have n6_ := Aside0.mk (hbox); have n7_ := Aside0.mk ((by rw [hg]; exact (below_size (wHB_spec_DrawAreSameVotes)) : w.heap.size ≤ gb115)); have n8_ := Aside0.mk ((by rw [hg]; exact (below_size (wHB_spec_DrawAreSameVotes)) : w.heap.size ≤ gb115)); have n9_ := Aside0.mk ((by rw [hg]; exact Nat.ne_of_lt (blk_lt (g := gb101) (o := .cells #[.int .i64 0, .slice none 0 0] 24 (0, 0)) (bQ BK101)) : gb101 ≠ gb115)); have n10_ := Aside0.mk ((by rw [hg]; exact Nat.ne_of_gt (blk_lt (g := gb101) (o := .cells #[.int .i64 0, .slice none 0 0] 24 (0, 0)) (bQ BK101)) : gb115 ≠ gb101)); have n11_ := Aside0.mk ((by rw [hg]; exact Nat.ne_of_lt (blk_lt (g := gb102) (o := .cells #[.int .i64 0, .slice none 0 0] 24 (0, 0)) (bQ BK102)) : gb102 ≠ gb115)); have n12_ := Aside0.mk ((by rw [hg]; exact Nat.ne_of_gt (blk_lt (g := gb102) (o := .cells #[.int .i64 0, .slice none 0 0] 24 (0, 0)) (bQ BK102)) : gb115 ≠ gb102)); have n13_ := Aside0.mk ((by rw [hg]; exact Nat.ne_of_lt (blk_lt (g := gb110) (o := .cells #[.int .i64 t104, .slice Ao13 t105.length co13] 24 (0, 0)) (bQ BK110)) : gb110 ≠ gb115)); have n14_ := Aside0.mk ((by rw [hg]; exact Nat.ne_of_gt (blk_lt (g := gb110) (o := .cells #[.int .i64 t104, .slice Ao13 t105.length co13] 24 (0, 0)) (bQ BK110)) : gb115 ≠ gb110)); have n15_ := Aside0.mk ((by rw [hg]; exact Nat.ne_of_lt (IsS81.lt (show IsS81 w _ gb103 l0 x104001_2 x104002_2 from wHI103_spec_DrawAreSameVotes)) : gb103 ≠ gb115)); have n16_ := Aside0.mk ((by rw [hg]; exact Nat.ne_of_gt (IsS81.lt (show IsS81 w _ gb103 l0 x104001_2 x104002_2 from wHI103_spec_DrawAreSameVotes)) : gb115 ≠ gb103)); clear HO_111001; clear BK101; clear BK102; clear BK110; clear HI103; clear HB; have HO_111001 := n0_; have BK101 := n1_; have BK102 := n2_; have BK110 := n3_; have HI103 := n4_; have HB := n5_; have BK115 := n6_; have GW115 := n7_; have GE115 := n8_; have NB101_115 := n9_; have NB115_101 := n10_; have NB102_115 := n11_; have NB115_102 := n12_; have NB110_115 := n13_; have NB115_110 := n14_; have NB103_115 := n15_; have NB115_103 := n16_; clear n0_ n1_ n2_ n3_ n4_ n5_ n6_ n7_ n8_ n9_ n10_ n11_ n12_ n13_ n14_ n15_ n16_; clear hb hbox hg; have hnb30 := NB115_101.out; have hnc30 := NB101_115.out; have hnb31 := NB115_102.out; have hnc31 := NB102_115.out; have hnb32 := NB115_110.out; have hnc32 := NB110_115.out; have hnb33 := NB115_103.out; have hnc33 := NB103_115.out; obtain ⟨hcz34_0, hcz34_1, hfz34_0, hfz34_1⟩ := zZ BK115; obtain ⟨hcz35_0, hcz35_1, hfz35_0, hfz35_1⟩ := zZ BK110))
   go_loopg [27] kj2 (fun kq v27 w' => ∃ (x27_2 : Int) (x116001_2 : List Int) (u116001 : Value), v27 = .int .i64 x27_2 ∧ Aside0 (spec_DrawAreSameVotes.l0 kq t105 (t105.length : Int) x27_2 t104 t105 (wrap64 (2 * t104)) x116001_2 = some (r1, r2, r3, r4)) ∧ Aside0 (kq ≤ kj2) ∧ Aside0 (Kd.R (Kd.int .i64) 3 w' w.heap.size (fun k_ => nb u116001 k_) (.slice Ao13 t105.length co13) t105) ∧ Aside0 (Kd.R (Kd.int .i64) 3 w' w.heap.size (fun k_ => nb u116001 k_) (.slice Ao13 t105.length co13) t105) ∧ Aside0 (Kd.R (Kd.int .i64) 3 w' w.heap.size (fun k_ => nb (.slice Ao13 t105.length co13) k_ ∧ nb (.slice Ao13 t105.length co13) k_) u116001 x116001_2) ∧ Aside0 (w'.heap[gb101]? = some (.cells #[.int .i64 0, (.slice none 0 0)] 24 (0, 0))) ∧ Aside0 (w'.heap[gb102]? = some (.cells #[.int .i64 0, (.slice none 0 0)] 24 (0, 0))) ∧ Aside0 (w'.heap[gb110]? = some (.cells #[.int .i64 t104, (.slice Ao13 t105.length co13)] 24 (0, 0))) ∧ Aside0 (w'.heap[gb115]? = some (.cells #[.int .i64 (wrap64 (2 * t104)), u116001] 24 (0, 0))) ∧ Aside0 (Below w.heap.size w w'))
   case atStart => exact ⟨(0), (([] : List Int)), (.slice none 0 0), gR, H', ⟨Nat.le_refl _⟩, ⟨by (try refine rp ?_); exact Kd.R_mono (Kd.R_far (p := ⟨gb115, 1, none⟩) (Kd.R_far (p := ⟨gb115, 0, none⟩) (Kd.R_types HO_111001.out BK115.out (by decide)) (fun _ hk => hk.2) (.int .i64 (wrap64 (2 * t104)))) (fun _ hk => hk.2) (.slice none 0 0)) (fun _ hk => (by simp [Value.ownBlock]))⟩, ⟨by (try refine rp ?_); exact Kd.R_mono (Kd.R_far (p := ⟨gb115, 1, none⟩) (Kd.R_far (p := ⟨gb115, 0, none⟩) (Kd.R_types HO_111001.out BK115.out (by decide)) (fun _ hk => hk.2) (.int .i64 (wrap64 (2 * t104)))) (fun _ hk => hk.2) (.slice none 0 0)) (fun _ hk => (by simp [Value.ownBlock]))⟩, ⟨by first | exact Kd.R_nil _ _ _ _ _ | exact Kd.N_nil _ _ _ _ _ | exact Kd.V_nil _ _ _ _ _ | exact Kd.Q_nil _ _ _ _ _ | exact Kd.S_nil _ _ _ _ _⟩, ⟨by (try refine bp ?_); refine blk_far ?_ NB101_115.out _; (try refine bp ?_); refine blk_far ?_ NB101_115.out _; (first | exact bp BK101.out | exact BK101.out)⟩, ⟨by (try refine bp ?_); refine blk_far ?_ NB102_115.out _; (try refine bp ?_); refine blk_far ?_ NB102_115.out _; (first | exact bp BK102.out | exact BK102.out)⟩, ⟨by (try refine bp ?_); refine blk_far ?_ NB110_115.out _; (try refine bp ?_); refine blk_far ?_ NB110_115.out _; (first | exact bp BK110.out | exact BK110.out)⟩, ⟨by (try refine bp ?_); refine blk_put (cs := #[.int .i64 (wrap64 (2 * t104)), .slice none 0 0]) ?_ 1 _ rfl; (try refine bp ?_); refine blk_put (cs := #[.int .i64 0, .slice none 0 0]) ?_ 0 _ rfl; (first | exact bp BK115.out | exact BK115.out)⟩, ⟨wHB_spec_DrawAreSameVotes⟩⟩
   case round =>
    clear H'
    try clear c1
    try clear c2
    try clear p2
    try clear c3
    try clear c5
    try clear p6
    try clear c9
    try clear c10
    try clear c11
    try clear c15
    try clear c18
    try clear c19
    try clear c20
    try clear c24
    try clear c25
    try clear c26
    try clear c27
    try clear c30
    try clear c31
    try clear c32
    try clear c33
    try clear hcz12_0
    try clear hcz12_1
    try clear hcz21_0
    try clear hcz21_1
    try clear hcz28_0
    try clear hcz28_1
    try clear hcz34_0
    try clear hcz34_1
    try clear hcz35_0
    try clear hcz35_1
    try clear hfz12_0
    try clear hfz12_1
    try clear hfz21_0
    try clear hfz21_1
    try clear hfz28_0
    try clear hfz28_1
    try clear hfz34_0
    try clear hfz34_1
    try clear hfz35_0
    try clear hfz35_1
    try clear p2
    obtain ⟨x27_2, x116001_2, u116001, rfl, HA, HK2, HO_25, HO_111001, HO_116001, BK101, BK102, BK110, BK115, HB⟩ := hrel
    cases gk with
    | zero => exact absurd HA.out (by simp [spec_DrawAreSameVotes.l0])
    | succ k2 =>
     have H := HA.out
     clear HA
     simp only [spec_DrawAreSameVotes.l0] at H
     by_cases c36 : x27_2 < (t105.length : Int)
     ·rw [if_pos c36] at H
      have c36b0 := decide_eq_true c36
      clear c36
      by_cases c37 : 0 ≤ x27_2
      rotate_left
      ·rw [if_neg c37] at H
       exact absurd H (by simp)
      rw [if_pos c37] at H
      have c37b0 := decide_eq_true c37
      clear c37
      by_cases c38 : x27_2 < (t105.length : Int)
      rotate_left
      ·rw [if_neg c38] at H
       exact absurd H (by simp)
      rw [if_pos c38] at H
      have c38b0 := decide_eq_true c38
      clear c38
      by_cases c39 : x116001_2.length < 17592186044416
      rotate_left
      ·rw [if_neg c39] at H
       exact absurd H (by simp)
      rw [if_pos c39] at H
      have LMc39 := Aside0.mk c39
      clear c39
      obtain ⟨y117, hy117⟩ : ∃ y_ : List Int, y_ = (x116001_2 ++ [wrap64 (2 * (rd t105 x27_2))]) := ⟨_, rfl⟩
      replace H : (spec_DrawAreSameVotes.l0 k2 t105 (t105.length : Int) (wrap64 (x27_2 + 1)) t104 t105 (wrap64 (2 * t104)) y117) = some (r1, r2, r3, r4) := by first | (rw [hy117]; with_reducible exact H) | (have H2_ := (Option.bind_some _ _).symm.trans H; rw [hy117]; with_reducible exact H2_) | (have H2_ := (Option.bind_some _ _).symm.trans H; with_reducible exact H2_) | with_reducible exact H | (rw [hy117]; exact H) | exact H
      have Ny117 := Aside0.mk hy117
      clear hy117
      have H' := Aside0.mk H
      clear H
      have p116 : 0 ≤ (x27_2 : Int) := oD
      have q116 : x27_2 < (t105.length : Int) := oD
      obtain ⟨ad116, e116, hx116_0⟩ := Kd.at_int (Kd.R_reads' HO_25.out).2.2 x27_2 p116 q116
      cases e116
      replace p116 := eq_true p116
      replace q116 := eq_true q116
      have hnb40 := NB115_101.out
      have hnc40 := NB101_115.out
      have hnb41 := NB115_102.out
      have hnc41 := NB102_115.out
      have hnb42 := NB115_110.out
      have hnc42 := NB110_115.out
      obtain ⟨hcz43_0, hcz43_1, hfz43_0, hfz43_1⟩ := zZ BK115
      go_wp2_with (first | ((with_reducible refine gate_builtin (b := .append) (xs := #[.tmp 32, .tmp 35]) rfl ?_); at_builtin; refine Kd.R_append (Kd.int .i64) (w0 := w) w.heap.size rfl (.tmp 32) (.tmp 35) 22 3 (.int .i64 0) 8 rfl Tryz.underlying22 info3 rfl (by decide) (by omega) u116001 x116001_2 (wrap64 (2 * (rd t105 x27_2))) [.int .i64 (wrap64 (2 * (rd t105 x27_2)))] (fun k_ => nb (.slice (some ad116) t105.length co13) k_ ∧ nb (.slice (some ad116) t105.length co13) k_) (fun _ => False) rfl rfl ?aP (fun _ hk => hk.elim) ?aF ?aO ?aB ?aS ?aL ?_; (case aP => exact rfl); (case aB => exact (wB)); (case aF => exact (fun k_ hk => ⟨Kd.fresh' (Kd.R_lt (rQ HO_25)) k_ hk, Kd.fresh' (Kd.R_lt (rQ HO_111001)) k_ hk⟩)); (case aO => exact (rQ HO_116001)); (case aS => exact (below_size (wB))); (case aL => have := LMc39.out; omega); intro v118 w44 ho hb hg hat; rw [← Ny117.out] at ho; have n0_ := Aside0.mk (Kd.R_after (ok := (fun _ => True)) (by (try refine rp ?_); exact Kd.R_mono HO_25.out (fun _ hk => ⟨trivial, hk⟩)) hg hat); have n1_ := Aside0.mk (Kd.R_after (ok := (fun _ => True)) (by (try refine rp ?_); exact Kd.R_mono HO_111001.out (fun _ hk => ⟨trivial, hk⟩)) hg hat); have n2_ := Aside0.mk (blk_grown (g := gb101) (o := .cells #[.int .i64 0, .slice none 0 0] 24 (0, 0)) (bQ BK101) hg (Kd.R_ne HO_116001.out BK101.out (by decide))); have n3_ := Aside0.mk (blk_grown (g := gb102) (o := .cells #[.int .i64 0, .slice none 0 0] 24 (0, 0)) (bQ BK102) hg (Kd.R_ne HO_116001.out BK102.out (by decide))); have n4_ := Aside0.mk (blk_grown (g := gb110) (o := .cells #[.int .i64 t104, .slice (some ad116) t105.length co13] 24 (0, 0)) (bQ BK110) hg (Kd.R_ne HO_116001.out BK110.out (by decide))); have n5_ := Aside0.mk (blk_grown (g := gb115) (o := .cells #[.int .i64 (wrap64 (2 * t104)), u116001] 24 (0, 0)) (bQ BK115) hg (Kd.R_ne HO_116001.out BK115.out (by decide))); have n6_ := Aside0.mk (hb); have n7_ := Aside0.mk (ho); clear HO_25; clear HO_111001; clear BK101; clear BK102; clear BK110; clear BK115; clear HB; clear HO_116001; have HO_25 := n0_; have HO_111001 := n1_; have BK101 := n2_; have BK102 := n3_; have BK110 := n4_; have BK115 := n5_; have HB := n6_; have HO119 := n7_; clear n0_ n1_ n2_ n3_ n4_ n5_ n6_ n7_; clear ho hb hg hat; obtain ⟨Ao45, co45, eo45⟩ := Kd.R_slice HO119.out; subst eo45; obtain ⟨hcz46_0, hcz46_1, hfz46_0, hfz46_1⟩ := zZ BK115))
      go_roundg k2
      case measure => have := HJ2.out; have := HK2.out; omega
      case rel => exact ⟨(wrap64 (x27_2 + 1)), (y117), (.slice Ao45 y117.length co45), gR, H', ⟨by have := HJ2.out; have := HK2.out; omega⟩, ⟨by (try refine rp ?_); exact Kd.R_mono (Kd.R_far (p := ⟨gb115, 1, none⟩) (Kd.R_types HO_25.out BK115.out (by decide)) (fun _ hk => hk.2) (.slice Ao45 y117.length co45)) (fun _ hk => hk.1.2)⟩, ⟨by (try refine rp ?_); exact Kd.R_mono (Kd.R_far (p := ⟨gb115, 1, none⟩) (Kd.R_types HO_111001.out BK115.out (by decide)) (fun _ hk => hk.2) (.slice Ao45 y117.length co45)) (fun _ hk => hk.1.2)⟩, ⟨by (try refine rp ?_); exact Kd.R_mono (Kd.R_far (p := ⟨gb115, 1, none⟩) (Kd.R_types HO119.out BK115.out (by decide)) (fun _ hk => hk.2) (.slice Ao45 y117.length co45)) (fun _ hk => ⟨hk.1.1, hk.1.2⟩)⟩, ⟨by (try refine bp ?_); refine blk_far ?_ NB101_115.out _; (first | exact bp BK101.out | exact BK101.out)⟩, ⟨by (try refine bp ?_); refine blk_far ?_ NB102_115.out _; (first | exact bp BK102.out | exact BK102.out)⟩, ⟨by (try refine bp ?_); refine blk_far ?_ NB110_115.out _; (first | exact bp BK110.out | exact BK110.out)⟩, ⟨by (try refine bp ?_); refine blk_put (cs := #[.int .i64 (wrap64 (2 * t104)), u116001]) ?_ 1 _ rfl; (first | exact bp BK115.out | exact BK115.out)⟩, ⟨wB⟩⟩
     rw [if_neg c36] at H
     have c36b0 : decide (x27_2 < (t105.length : Int)) = false := decide_eq_false c36
     clear c36
     simp only [Option.some.injEq, Prod.mk.injEq] at H
     obtain ⟨rfl, rfl, rfl, rfl⟩ := H
     try go_wp2
     have n0_ := rD HO_25
     have n1_ := rD HO_111001
     have n2_ := rD HO_116001
     have n3_ := bD BK101
     have n4_ := bD BK102
     have n5_ := bD BK110
     have n6_ := bD BK115
     have n7_ := Aside0.mk (below_drew1 HB.out)
     clear HO_25
     clear HO_111001
     clear HO_116001
     clear BK101
     clear BK102
     clear BK110
     clear BK115
     clear HB
     have HO_25 := n0_
     have HO_111001 := n1_
     have HO_116001 := n2_
     have BK101 := n3_
     have BK102 := n4_
     have BK110 := n5_
     have BK115 := n6_
     have HB := n7_
     clear n0_ n1_ n2_ n3_ n4_ n5_ n6_ n7_
     obtain ⟨Ao51, co51, eo51⟩ := Kd.R_slice HO_116001.out
     (first | subst eo51 | (injection eo51 with f1_ f2_ f3_; have f4_ := f1_.symm; have f5_ := f3_.symm; clear f1_ f2_ f3_; subst f4_; subst f5_))
     refine start_ (n := 4) (S := fun w' => w'.cell? ⟨gb110, 0, none⟩ = some (.int .i64 t104) ∧ w'.cell? ⟨gb110, 1, none⟩ = some (.slice Ao13 t105.length co13) ∧ w'.cell? ⟨gb115, 0, none⟩ = some (.int .i64 (wrap64 (2 * t104))) ∧ w'.cell? ⟨gb115, 1, none⟩ = some (.slice Ao51 x116001_2.length co51)) (ds := []) #[false, false, false, false] (by kernel_rfl) rfl rfl ⟨(blk_cell BK110.out 0).trans rfl, (blk_cell BK110.out 1).trans rfl, (blk_cell BK115.out 0).trans rfl, (blk_cell BK115.out 1).trans rfl⟩ (fun hHeld => ?_)
     generalize wr.drew = w47 at HO_25 HO_111001 HO_116001 BK101 BK102 BK110 BK115 HB hHeld ⊢
     refine take_ (i := 0) (N := some 39) (v := ?_) (a' := ?_) #[true, false, false, false] rfl rfl (by kernel_rfl) (fun _ _ _ h => h) (Or.inl ⟨by rfl, ?_⟩) hHeld ?_ ?_
     rotate_left
     ·rintro w' ⟨s0, s1, s2, s3⟩
      go_simp
      with_reducible rfl
     rotate_left
     ·simp only [Act.put, sA, sZ, sS, i64_w, i32_w]
      rfl
     refine take_ (i := 1) (N := some 40) (v := ?_) (a' := ?_) #[true, true, false, false] rfl rfl (by kernel_rfl) (fun _ _ _ h => h) (Or.inl ⟨by rfl, ?_⟩) hHeld ?_ ?_
     rotate_left
     ·rintro w' ⟨s0, s1, s2, s3⟩
      go_simp
      with_reducible rfl
     rotate_left
     ·simp only [Act.put, sA, sZ, sS, i64_w, i32_w]
      rfl
     refine one_ (i := 2) (N := none) #[true, true, true, false] rfl rfl (by kernel_rfl) (by decide) (fun K hK => ?_)
     have hs48 : w47.cell? ⟨gb101, 0, none⟩ = some (.int .i64 0) := (blk_cell BK101.out 0).trans rfl
     have hfs48 := blk_frozen BK101.out 0
     have hns48_1 := NB102_101.out
     have hns48_2 := NB110_101.out
     have hns48_3 := NB115_101.out
     have hms48_1 := NB101_102.out
     have hms48_2 := NB101_110.out
     have hms48_3 := NB101_115.out
     have hs49 : w47.cell? ⟨gb101, 1, none⟩ = some (.slice none 0 0) := (blk_cell BK101.out 1).trans rfl
     have hfs49 := blk_frozen BK101.out 1
     have hns49_1 := NB102_101.out
     have hns49_2 := NB110_101.out
     have hns49_3 := NB115_101.out
     have hms49_1 := NB101_102.out
     have hms49_2 := NB101_110.out
     have hms49_3 := NB101_115.out
     refine skip_ (w1 := ?_) (by rfl) rfl ?_ ?_
     rotate_left
     ·go_simp
      rfl
     refine hK.out _ _ ⟨((cell_far (p := ⟨gb101, _, none⟩) NB110_101.out _).trans (((cell_far (p := ⟨gb101, _, none⟩) NB110_101.out _).trans (hHeld.1)))), ((cell_far (p := ⟨gb101, _, none⟩) NB110_101.out _).trans (((cell_far (p := ⟨gb101, _, none⟩) NB110_101.out _).trans (hHeld.2.1)))), ((cell_far (p := ⟨gb101, _, none⟩) NB115_101.out _).trans (((cell_far (p := ⟨gb101, _, none⟩) NB115_101.out _).trans (hHeld.2.2.1)))), ((cell_far (p := ⟨gb101, _, none⟩) NB115_101.out _).trans (((cell_far (p := ⟨gb101, _, none⟩) NB115_101.out _).trans (hHeld.2.2.2))))⟩ (fun hHeld => ?_)
     clear hK K
     refine one_ (i := 3) (N := none) #[true, true, true, true] rfl rfl (by kernel_rfl) (by decide) (fun K hK => ?_)
     have hs50 : w47.cell? ⟨gb102, 0, none⟩ = some (.int .i64 0) := (blk_cell BK102.out 0).trans rfl
     have hfs50 := blk_frozen BK102.out 0
     have hns50_0 := NB101_102.out
     have hns50_2 := NB110_102.out
     have hns50_3 := NB115_102.out
     have hms50_0 := NB102_101.out
     have hms50_2 := NB102_110.out
     have hms50_3 := NB102_115.out
     have hs52 : w47.cell? ⟨gb102, 1, none⟩ = some (.slice none 0 0) := (blk_cell BK102.out 1).trans rfl
     have hfs52 := blk_frozen BK102.out 1
     have hns52_0 := NB101_102.out
     have hns52_2 := NB110_102.out
     have hns52_3 := NB115_102.out
     have hms52_0 := NB102_101.out
     have hms52_2 := NB102_110.out
     have hms52_3 := NB102_115.out
     refine skip_ (w1 := ?_) (by rfl) rfl ?_ ?_
     rotate_left
     ·go_simp
      rfl
     refine hK.out _ _ ⟨((cell_far (p := ⟨gb102, _, none⟩) NB110_102.out _).trans (((cell_far (p := ⟨gb102, _, none⟩) NB110_102.out _).trans (hHeld.1)))), ((cell_far (p := ⟨gb102, _, none⟩) NB110_102.out _).trans (((cell_far (p := ⟨gb102, _, none⟩) NB110_102.out _).trans (hHeld.2.1)))), ((cell_far (p := ⟨gb102, _, none⟩) NB115_102.out _).trans (((cell_far (p := ⟨gb102, _, none⟩) NB115_102.out _).trans (hHeld.2.2.1)))), ((cell_far (p := ⟨gb102, _, none⟩) NB115_102.out _).trans (((cell_far (p := ⟨gb102, _, none⟩) NB115_102.out _).trans (hHeld.2.2.2))))⟩ (fun hHeld => ?_)
     clear hK K
     refine done_ (by kernel_rfl) ?_
     try go_wp2
     refine bodyPost_ret (results_cc rfl _ _ gb101 gb102 24 24 #[.int .i64 t104, .slice Ao13 t105.length co13] #[.int .i64 (wrap64 (2 * t104)), .slice Ao51 x116001_2.length co51] (0, 0) (0, 0) _ _ rfl (by (try refine bp ?_); refine blk_far ?_ NB101_102.out _; (try refine bp ?_); refine blk_far ?_ NB101_102.out _; (try refine bp ?_); refine blk_put (cs := #[.int .i64 t104, .slice none 0 0]) ?_ 1 _ rfl; (try refine bp ?_); refine blk_put (cs := #[.int .i64 0, .slice none 0 0]) ?_ 0 _ rfl; (first | exact bp BK101.out | exact BK101.out)) Tryz.underlying24 rfl (by kernel_rfl) rfl (by (try refine bp ?_); refine blk_put (cs := #[.int .i64 (wrap64 (2 * t104)), .slice none 0 0]) ?_ 1 _ rfl; (try refine bp ?_); refine blk_put (cs := #[.int .i64 0, .slice none 0 0]) ?_ 0 _ rfl; (try refine bp ?_); refine blk_far ?_ NB102_101.out _; (try refine bp ?_); refine blk_far ?_ NB102_101.out _; (first | exact bp BK102.out | exact BK102.out)) Tryz.underlying24 rfl (by kernel_rfl)) rfl ?_
     exact ⟨_, _, fR, by (try refine rp ?_); exact Kd.R_mono (Kd.R_far (p := ⟨gb102, 1, none⟩) (Kd.R_far (p := ⟨gb102, 0, none⟩) (Kd.R_far (p := ⟨gb101, 1, none⟩) (Kd.R_far (p := ⟨gb101, 0, none⟩) (Kd.R_types (Kd.R_types HO_111001.out BK101.out (by decide)) BK102.out (by decide)) (fun _ hk => hk.1.2) (.int .i64 t104)) (fun _ hk => hk.1.2) (.slice Ao13 t105.length co13)) (fun _ hk => hk.2) (.int .i64 (wrap64 (2 * t104)))) (fun _ hk => hk.2) (.slice Ao51 x116001_2.length co51)) (fun _ hk => hk.1.1), by (try refine rp ?_); exact Kd.R_mono (Kd.R_far (p := ⟨gb102, 1, none⟩) (Kd.R_far (p := ⟨gb102, 0, none⟩) (Kd.R_far (p := ⟨gb101, 1, none⟩) (Kd.R_far (p := ⟨gb101, 0, none⟩) (Kd.R_types (Kd.R_types HO_116001.out BK101.out (by decide)) BK102.out (by decide)) (fun _ hk => hk.1.2) (.int .i64 t104)) (fun _ hk => hk.1.2) (.slice Ao13 t105.length co13)) (fun _ hk => hk.2) (.int .i64 (wrap64 (2 * t104)))) (fun _ hk => hk.2) (.slice Ao51 x116001_2.length co51)) (fun _ hk => hk.1.1.2), wB⟩
def spec_DrawIsCommittee.f (k : Nat) (l0 : List Int) : Option (Int × List Int) := (spec_l1Cur_committee.f k l0 0 0 6).bind fun bt103 => (some (bt103.1, bt103.2.1))
theorem spec_DrawIsCommittee.calls (k : Nat) (A0 : Option Addr) (c0 : Nat) (l0 : List Int) (r1 : Int) (r2 : List Int) (w : World) (hr0 : Kd.C (Kd.int .u8) w A0 l0.length l0) (hc0 : l0.length ≤ c0) (h : spec_DrawIsCommittee.f k l0 = some (r1, r2)) :
  Calls Tryz.prog 56 #[.slice A0 l0.length c0] w fun e w' => ∃ v1_ : Value, e = .returned (.agg #[.int .i64 r1, v1_]) ∧ Kd.R (Kd.int .i64) 3 w' w.heap.size (fun _ => True) v1_ r2 ∧ Below w.heap.size w w' := by
 have hu24 := Tryz.underlying24
 have hu81 := Tryz.underlying81
 have HR0 := Aside0.mk hr0
 have HC0 := Aside0.mk hc0
 clear hr0 hc0
 have HB := Aside0.mk (Below.refl w.heap.size w)
 have H := h
 unfold spec_DrawIsCommittee.f at H
 clear h
 replace H := oB H
 obtain ⟨⟨t103, t104, t107, t108⟩, A20, H⟩ := H
 replace H : (some (t103, t104)) = some (r1, r2) := H
 have A2 := Aside0.mk A20
 clear A20
 simp only [Option.some.injEq, Prod.mk.injEq] at H
 obtain ⟨rfl, rfl⟩ := H
 go_enter Tryz.func56, Tryz.ntmps56
 go_wp2_with (first | ((with_reducible refine gate_dst (N := 2) rfl ?_); refine box_event ?hg (N := 2) ?hd (cs := #[.int .i64 0, .slice none 0 0]) (t := 24) ?hr ?_; (case hd => rfl); (case hg => rfl); (case hr => first | (go_simp; done) | (go_simp; rfl)); intro gb101 hg w3 hbox hb; have n0_ := sQ hb; have n1_ := Aside0.mk (hbox); have n2_ := Aside0.mk ((by rw [hg]; exact (below_size (wB)) : w.heap.size ≤ gb101)); have n3_ := Aside0.mk ((by rw [hg]; exact (below_size (wB)) : w.heap.size ≤ gb101)); clear HB; have HB := n0_; have BK101 := n1_; have GW101 := n2_; have GE101 := n3_; clear n0_ n1_ n2_ n3_; clear hb hbox hg) | ((with_reducible refine gate_dst (N := 6) rfl ?_); refine box_event ?hg (N := 6) ?hd (cs := #[.slice A0 l0.length c0, .int .i64 0, .int .u64 0]) (t := 81) ?hr ?_; (case hd => rfl); (case hg => rfl); (case hr => first | (go_simp; done) | (go_simp; rfl)); intro gb102 hg w4 hbox hb; have n0_ := bP BK101 hb; have n1_ := sQ hb; have n2_ := Aside0.mk (hbox); have n3_ := Aside0.mk ((by rw [hg]; exact (below_size (wB)) : w.heap.size ≤ gb102)); have n4_ := Aside0.mk ((by rw [hg]; exact (below_size (wB)) : w.heap.size ≤ gb102)); have n5_ := Aside0.mk ((by rw [hg]; exact Nat.ne_of_lt (blk_lt (g := gb101) (o := .cells #[.int .i64 0, .slice none 0 0] 24 (0, 0)) (bQ BK101)) : gb101 ≠ gb102)); have n6_ := Aside0.mk ((by rw [hg]; exact Nat.ne_of_gt (blk_lt (g := gb101) (o := .cells #[.int .i64 0, .slice none 0 0] 24 (0, 0)) (bQ BK101)) : gb102 ≠ gb101)); have n7_ := Aside0.mk ((show IsS81 w _ gb102 l0 0 0 from ⟨A0, c0, hbox, (by rw [hg]; exact (below_size (wB))), HR0.out⟩)); clear BK101; clear HB; have BK101 := n0_; have HB := n1_; have BK102 := n2_; have GW102 := n3_; have GE102 := n4_; have NB101_102 := n5_; have NB102_101 := n6_; have HI102 := n7_; clear n0_ n1_ n2_ n3_ n4_ n5_ n6_ n7_; clear hb hbox hg) | ((with_reducible refine gate_callee (f := 52) rfl ?_); refine gL 8 Tryz.func52 #[.pointer (some ⟨gb102, 0, none⟩), .int .i64 6] ?_; (with_reducible refine (spec_l1Cur_committee.calls k gb102 l0 0 0 6 t103 t104 t107 t108 w _ ?side1 ?side2 A2.out).mono ?_); (case side1 => repeat (first | (with_reducible first | exact HI102.out | apply IsS81.alloc | apply IsS81.drewN | apply IsS81.drew | apply IsS81.set_1 | apply IsS81.set_2 | refine IsS81.far ?_ NB102_101.out _) | exact HI102.out)); (case side2 => repeat (first | (with_reducible first | exact HB.out | apply ba | apply bd | apply be | refine bs ?_ (IsS81.ge HI102.out) | refine bs ?_ GE101.out) | exact HB.out)); rintro e w5 ⟨v105, rfl, ho0, hi, hb, hk⟩; refine ⟨_, rfl, ?_⟩; have n0_ := Aside0.mk (KeepBut.blk hk (g' := gb101) (o := .cells #[.int .i64 0, .slice none 0 0] 24 (0, 0)) (bQ BK101) NB101_102.out (by simp)); have n1_ := Aside0.mk (Kd.R_lower ho0 (below_size (by repeat (first | (with_reducible first | exact HB.out | apply ba | apply bd | apply be | refine bs ?_ (IsS81.ge HI102.out) | refine bs ?_ GE101.out) | exact HB.out)))); have n2_ := Aside0.mk (hb); have n3_ := Aside0.mk (hi); clear BK101; clear HB; clear HI102; have BK101 := n0_; have HO106 := n1_; have HB := n2_; have HI102 := n3_; clear n0_ n1_ n2_ n3_; (try clear hb); (try clear hb2); (try clear hk); (try clear hi); (try clear ho0); have hnb6 := NB101_102.out; have hnc6 := NB102_101.out; obtain ⟨hcz7_0, hcz7_1, hfz7_0, hfz7_1⟩ := zZ BK101; obtain ⟨Ao8, co8, eo8⟩ := Kd.R_slice HO106.out; subst eo8))
 refine bodyPost_ret (results_cell_row rfl _ _ gb101 24 #[.int .i64 t103, .slice Ao8 t104.length co8] (0, 0) _ rfl (by (try refine bp ?_); refine blk_put (cs := #[.int .i64 t103, .slice none 0 0]) ?_ 1 _ rfl; (try refine bp ?_); refine blk_put (cs := #[.int .i64 0, .slice none 0 0]) ?_ 0 _ rfl; (first | exact bp BK101.out | exact BK101.out)) Tryz.underlying24 rfl (by kernel_rfl)) rfl ?_
 exact ⟨_, fR, by (try refine rp ?_); exact Kd.R_mono (Kd.R_far (p := ⟨gb101, 1, none⟩) (Kd.R_far (p := ⟨gb101, 0, none⟩) (Kd.R_types HO106.out BK101.out (by decide)) (fun _ hk => hk.2) (.int .i64 t103)) (fun _ hk => hk.2) (.slice Ao8 t104.length co8)) (fun _ hk => trivial), by repeat (first | (with_reducible first | exact HB.out | apply ba | apply bd | apply be | refine bs ?_ (IsS81.ge HI102.out) | refine bs ?_ GE101.out) | exact HB.out)⟩
def spec_DrawCommitteeText.f (k : Nat) (l0 : List Int) : Option (Int × List Int) := (spec_DrawIsCommittee.f k l0).bind fun bt102 => (some (bt102.1, bt102.2))
theorem spec_DrawCommitteeText.calls (k : Nat) (A0 : Option Addr) (c0 : Nat) (l0 : List Int) (r1 : Int) (r2 : List Int) (w : World) (hr0 : Kd.C (Kd.int .u8) w A0 l0.length l0) (hc0 : l0.length ≤ c0) (h : spec_DrawCommitteeText.f k l0 = some (r1, r2)) :
  Calls Tryz.prog 25 #[.slice A0 l0.length c0] w fun e w' => ∃ v1_ : Value, e = .returned (.agg #[.int .i64 r1, v1_]) ∧ Kd.R (Kd.int .i64) 3 w' w.heap.size (fun _ => True) v1_ r2 ∧ Below w.heap.size w w' := by
 have hu24 := Tryz.underlying24
 have HR0 := Aside0.mk hr0
 have HC0 := Aside0.mk hc0
 clear hr0 hc0
 have HB := Aside0.mk (Below.refl w.heap.size w)
 have H := h
 unfold spec_DrawCommitteeText.f at H
 clear h
 replace H := oB H
 obtain ⟨⟨t102, t103⟩, A20, H⟩ := H
 replace H : (some (t102, t103)) = some (r1, r2) := H
 have A2 := Aside0.mk A20
 clear A20
 simp only [Option.some.injEq, Prod.mk.injEq] at H
 obtain ⟨rfl, rfl⟩ := H
 go_enter Tryz.func25, Tryz.ntmps25
 go_wp2_with (first | ((with_reducible refine gate_dst (N := 2) rfl ?_); refine box_event ?hg (N := 2) ?hd (cs := #[.int .i64 0, .slice none 0 0]) (t := 24) ?hr ?_; (case hd => rfl); (case hg => rfl); (case hr => first | (go_simp; done) | (go_simp; rfl)); intro gb101 hg w3 hbox hb; have n0_ := sQ hb; have n1_ := Aside0.mk (hbox); have n2_ := Aside0.mk ((by rw [hg]; exact (below_size (wB)) : w.heap.size ≤ gb101)); have n3_ := Aside0.mk ((by rw [hg]; exact (below_size (wB)) : w.heap.size ≤ gb101)); clear HB; have HB := n0_; have BK101 := n1_; have GW101 := n2_; have GE101 := n3_; clear n0_ n1_ n2_ n3_; clear hb hbox hg) | ((with_reducible refine gate_callee (f := 56) rfl ?_); refine gL 4 Tryz.func56 #[.slice A0 l0.length c0] ?_; (with_reducible refine (spec_DrawIsCommittee.calls k _ _ l0 t102 t103 _ ?side1 ?side2 A2.out).mono ?_); (case side1 => have hx_ := (Kd.C_below HR0.out HB.out); exact cC); (case side2 => exact HC0.out); rintro e w4 ⟨v104, rfl, ho0, hb⟩; refine ⟨_, rfl, ?_⟩; have n0_ := Aside0.mk (Kd.R_lower ho0 (below_size (wB))); have n1_ := bP BK101 hb; have n2_ := sQ hb; clear BK101; clear HB; have HO105 := n0_; have BK101 := n1_; have HB := n2_; clear n0_ n1_ n2_; (try clear hb); (try clear hb2); (try clear hk); (try clear hi); (try clear ho0); obtain ⟨hcz5_0, hcz5_1, hfz5_0, hfz5_1⟩ := zZ BK101; obtain ⟨Ao6, co6, eo6⟩ := Kd.R_slice HO105.out; subst eo6))
 refine bodyPost_ret (results_cell_row rfl _ _ gb101 24 #[.int .i64 t102, .slice Ao6 t103.length co6] (0, 0) _ rfl (by (try refine bp ?_); refine blk_put (cs := #[.int .i64 t102, .slice none 0 0]) ?_ 1 _ rfl; (try refine bp ?_); refine blk_put (cs := #[.int .i64 0, .slice none 0 0]) ?_ 0 _ rfl; (first | exact bp BK101.out | exact BK101.out)) Tryz.underlying24 rfl (by kernel_rfl)) rfl ?_
 exact ⟨_, fR, by (try refine rp ?_); exact Kd.R_mono (Kd.R_far (p := ⟨gb101, 1, none⟩) (Kd.R_far (p := ⟨gb101, 0, none⟩) (Kd.R_types HO105.out BK101.out (by decide)) (fun _ hk => hk.2) (.int .i64 t102)) (fun _ hk => hk.2) (.slice Ao6 t103.length co6)) (fun _ hk => trivial), wB⟩
mutual
def spec_l1Cur_spoilt.l0 : Nat → ByteArray → ByteArray → Int → List Int → Int → Int → Option (ByteArray × Int × Int)
 | 0, _, _, _, _, _, _ => none
 | k + 1, x1, x2, x7, x1000, x1001, x1002 => if x7 > 0 then (spec_l1Cur_spoilt.j1 k x1 x2 x7 (decide ((x1.size : Int) > 0)) x1000 x1001 x1002) else (spec_l1Cur_spoilt.j1 k x1 x2 x7 false x1000 x1001 x1002)
def spec_l1Cur_spoilt.j1 : Nat → ByteArray → ByteArray → Int → Bool → List Int → Int → Int → Option (ByteArray × Int × Int)
 | 0, _, _, _, _, _, _, _ => none
 | k + 1, x1, x2, x7, x19, x1000, x1001, x1002 => if x19 = true then ((spec_l1Cur_pick.f x1000 x1001 x1002 (x1.size : Int)).bind fun bt104 => ((spec_l1Cur_pick.f x1000 bt104.2.1 bt104.2.2 (x2.size : Int)).bind fun bt107 => (if 0 ≤ bt107.1 then (if bt107.1 < (x2.size : Int) then ((some (([bt x2 bt107.1] : List Int) : List Int)).bind fun y110 => ((spec_l1Cur_pick.f x1000 bt107.2.1 bt107.2.2 3).bind fun bt113 => (if bt113.1 = 0 then (if 0 ≤ bt104.1 then (if bt104.1 ≤ (x1.size : Int) then (if (x1.extract 0 (bt104.1 : Int).toNat).size + (strOfNums y110).size ≤ 9223372036854775807 then (if ((x1.extract 0 (bt104.1 : Int).toNat) ++ (strOfNums y110)).size + (x1.extract (bt104.1 : Int).toNat x1.size).size ≤ 9223372036854775807 then (spec_l1Cur_spoilt.l0 k (((x1.extract 0 (bt104.1 : Int).toNat) ++ (strOfNums y110)) ++ (x1.extract (bt104.1 : Int).toNat x1.size)) x2 (wrap64 (x7 - 1)) x1000 bt113.2.1 bt113.2.2) else (none)) else (none)) else (none)) else (none)) else (if bt113.1 = 1 then (if 0 ≤ bt104.1 then (if bt104.1 ≤ (x1.size : Int) then (if (x1.extract 0 (bt104.1 : Int).toNat).size + (strOfNums y110).size ≤ 9223372036854775807 then (if 0 ≤ (wrap64 (bt104.1 + 1)) then (if (wrap64 (bt104.1 + 1)) ≤ (x1.size : Int) then (if ((x1.extract 0 (bt104.1 : Int).toNat) ++ (strOfNums y110)).size + (x1.extract ((wrap64 (bt104.1 + 1)) : Int).toNat x1.size).size ≤ 9223372036854775807 then (spec_l1Cur_spoilt.l0 k (((x1.extract 0 (bt104.1 : Int).toNat) ++ (strOfNums y110)) ++ (x1.extract ((wrap64 (bt104.1 + 1)) : Int).toNat x1.size)) x2 (wrap64 (x7 - 1)) x1000 bt113.2.1 bt113.2.2) else (none)) else (none)) else (none)) else (none)) else (none)) else (none)) else (if 0 ≤ bt104.1 then (if bt104.1 ≤ (x1.size : Int) then (if 0 ≤ (wrap64 (bt104.1 + 1)) then (if (wrap64 (bt104.1 + 1)) ≤ (x1.size : Int) then (if (x1.extract 0 (bt104.1 : Int).toNat).size + (x1.extract ((wrap64 (bt104.1 + 1)) : Int).toNat x1.size).size ≤ 9223372036854775807 then (spec_l1Cur_spoilt.l0 k ((x1.extract 0 (bt104.1 : Int).toNat) ++ (x1.extract ((wrap64 (bt104.1 + 1)) : Int).toNat x1.size)) x2 (wrap64 (x7 - 1)) x1000 bt113.2.1 bt113.2.2) else (none)) else (none)) else (none)) else (none)) else (none)))))) else (none)) else (none)))) else (some (x1, x1001, x1002))
end
def spec_l1Cur_spoilt.f (k : Nat) (s0_0 : List Int) (s0_1 : Int) (s0_2 : Int) (a1 : ByteArray) (a2 : ByteArray) : Option (ByteArray × Int × Int) := (spec_l1Cur_pick.f s0_0 s0_1 s0_2 2).bind fun bt101 => (spec_l1Cur_spoilt.l0 k a1 a2 (wrap64 (1 + bt101.1)) s0_0 bt101.2.1 bt101.2.2)
theorem wHI0_spec_l1Cur_spoilt {p : Prop} (h : p := by repeat (first | (with_reducible first | exact HI0.out | apply IsS81.alloc | apply IsS81.drewN | apply IsS81.drew | apply IsS81.set_1 | apply IsS81.set_2) | exact HI0.out)) : p := h
theorem wHB_spec_l1Cur_spoilt {p : Prop} (h : p := by repeat (first | (with_reducible first | exact HB.out | apply ba | apply bd | apply be | refine bs ?_ (IsS81.ge HI0.out)) | exact HB.out)) : p := h
theorem wHK_spec_l1Cur_spoilt {p : Prop} (h : p := by repeat (first | (with_reducible first | exact HK.out | apply KeepBut.set_ | apply keep_drewN | apply keep_drew | apply keep_alloc) | exact HK.out)) : p := h
theorem spec_l1Cur_spoilt.calls (k : Nat) (g : Nat) (s0_0 : List Int) (s0_1 : Int) (s0_2 : Int) (a1 : ByteArray) (a2 : ByteArray) (r1 : ByteArray) (r2 : Int) (r3 : Int) (w0 w : World) (hI : IsS81 w0 w g s0_0 s0_1 s0_2) (hB : Below w0.heap.size w0 w) (h : spec_l1Cur_spoilt.f k s0_0 s0_1 s0_2 a1 a2 = some (r1, r2, r3)) :
  Calls Tryz.prog 58 #[.pointer (some ⟨g, 0, none⟩), .string a1, .string a2] w fun e w' => e = .returned (.string r1) ∧ IsS81 w0 w' g s0_0 r2 r3 ∧ Below w0.heap.size w0 w' ∧ KeepBut w w' g none := by
 have HI0 := Aside0.mk hI
 have HK := Aside0.mk (KeepBut.refl w g none)
 have HL := Aside0.mk hB.size
 clear hI
 have HW0 := Aside0.mk hB.size
 have HB := Aside0.mk hB
 clear hB
 have H := h
 unfold spec_l1Cur_spoilt.f at H
 clear h
 replace H := oB H
 obtain ⟨⟨t101, t102, t103⟩, A40, H⟩ := H
 replace H : (spec_l1Cur_spoilt.l0 k a1 a2 (wrap64 (1 + t101)) s0_0 t102 t103) = some (r1, r2, r3) := H
 have A4 := Aside0.mk A40
 clear A40
 have H' := Aside0.mk H
 clear H
 go_enter Tryz.func58, Tryz.ntmps58
 go_wp2_with (first | (go_at_call 54; (with_reducible refine (spec_l1Cur_pick.calls g s0_0 s0_1 s0_2 2 t101 t102 t103 w0 _ ?side1 ?side2 A4.out).mono ?_); (case side1 => exact wHI0_spec_l1Cur_spoilt); (case side2 => exact wHB_spec_l1Cur_spoilt); rintro e w5 ⟨rfl, hi, hb, hk⟩; have n0_ := Aside0.mk (KeepBut.trans (wHK_spec_l1Cur_spoilt) hk (.inl rfl)); have n1_ := Aside0.mk (hb); have n2_ := Aside0.mk (hi); clear HK; clear HB; clear HI0; have HK := n0_; have HB := n1_; have HI0 := n2_; clear n0_ n1_ n2_; (try clear hb); (try clear hb2); (try clear hk); (try clear hi)))
 repeat (go_quiet (first | (go_at_call 54; (with_reducible refine (spec_l1Cur_pick.calls g s0_0 s0_1 s0_2 2 t101 t102 t103 w0 _ ?side1 ?side2 A4.out).mono ?_); (case side1 => exact wHI0_spec_l1Cur_spoilt); (case side2 => exact wHB_spec_l1Cur_spoilt); rintro e w5 ⟨rfl, hi, hb, hk⟩; have n0_ := Aside0.mk (KeepBut.trans (wHK_spec_l1Cur_spoilt) hk (.inl rfl)); have n1_ := Aside0.mk (hb); have n2_ := Aside0.mk (hi); clear HK; clear HB; clear HI0; have HK := n0_; have HB := n1_; have HI0 := n2_; clear n0_ n1_ n2_; (try clear hb); (try clear hb2); (try clear hk); (try clear hi))); try go_wp2_with (first | (go_at_call 54; (with_reducible refine (spec_l1Cur_pick.calls g s0_0 s0_1 s0_2 2 t101 t102 t103 w0 _ ?side1 ?side2 A4.out).mono ?_); (case side1 => exact wHI0_spec_l1Cur_spoilt); (case side2 => exact wHB_spec_l1Cur_spoilt); rintro e w5 ⟨rfl, hi, hb, hk⟩; have n0_ := Aside0.mk (KeepBut.trans (wHK_spec_l1Cur_spoilt) hk (.inl rfl)); have n1_ := Aside0.mk (hb); have n2_ := Aside0.mk (hi); clear HK; clear HB; clear HI0; have HK := n0_; have HB := n1_; have HI0 := n2_; clear n0_ n1_ n2_; (try clear hb); (try clear hb2); (try clear hk); (try clear hi))))
 go_loopg [1, 7] k (fun kq v1 v7 w' => ∃ (x1_1 : ByteArray) (x7_1 : Int) (x1001_1 : Int) (x1002_1 : Int), v1 = .string x1_1 ∧ v7 = .int .i64 x7_1 ∧ Aside0 (spec_l1Cur_spoilt.l0 kq x1_1 a2 x7_1 s0_0 x1001_1 x1002_1 = some (r1, r2, r3)) ∧ Aside0 (kq ≤ k) ∧ Aside0 (IsS81 w0 w' g s0_0 x1001_1 x1002_1) ∧ Aside0 (KeepBut w w' g none) ∧ Aside0 (Below w0.heap.size w0 w'))
 case atStart => exact ⟨(a1), (wrap64 (1 + t101)), (t102), (t103), gR, gR, H', ⟨Nat.le_refl _⟩, ⟨wHI0_spec_l1Cur_spoilt⟩, ⟨wHK_spec_l1Cur_spoilt⟩, ⟨wHB_spec_l1Cur_spoilt⟩⟩
 case round =>
  clear H'
  try clear p2
  try clear c5
  obtain ⟨x1_1, x7_1, x1001_1, x1002_1, rfl, rfl, HA, HK1, HI0, HK, HB⟩ := hrel
  cases gk with
  | zero => exact absurd HA.out (by simp [spec_l1Cur_spoilt.l0])
  | succ k1 =>
   have H := HA.out
   clear HA
   simp only [spec_l1Cur_spoilt.l0] at H
   have HC6 := Aside0.mk H
   clear H
   go_upto_region 2 with (fail)
   repeat (go_quiet (fail); go_upto_region 2 with (fail))
   go_cut [19] (fun v19 wc => ∃ (kq : Nat) (x19_5 : Bool), v19 = .bool x19_5 ∧ Aside0 (spec_l1Cur_spoilt.j1 kq x1_1 a2 x7_1 x19_5 s0_0 x1001_1 x1002_1 = some (r1, r2, r3)) ∧ Aside0 (kq ≤ k1) ∧ Aside0 (IsS81 w0 wc g s0_0 x1001_1 x1002_1) ∧ Aside0 (KeepBut w wc g none) ∧ Aside0 (Below w0.heap.size w0 wc))
   case first =>
    have H := HC6.out
    clear HC6
    by_cases c7 : x7_1 > 0
    rotate_left
    ·rw [if_neg c7] at H
     have c7b0 : decide (0 < x7_1) = false := decide_eq_false c7
     clear c7
     (first | rw [c7b0] | (simp only [i64_w, i32_w]; rw [c7b0]) | skip)
     have H' := Aside0.mk H
     clear H
     go_wp2
     repeat (go_quiet (fail); try go_wp2)
     go_meet
     case rel => exact ⟨_, (false), gR, H', ⟨oN'⟩, ⟨wHI0_spec_l1Cur_spoilt⟩, ⟨wHK_spec_l1Cur_spoilt⟩, ⟨wHB_spec_l1Cur_spoilt⟩⟩
    rw [if_pos c7] at H
    have c7b0 : decide (0 < x7_1) = true := decide_eq_true c7
    clear c7
    (first | rw [c7b0] | (simp only [i64_w, i32_w]; rw [c7b0]) | skip)
    have H' := Aside0.mk H
    clear H
    go_wp2
    repeat (go_quiet (fail); try go_wp2)
    go_meet
    case rel => exact ⟨_, (decide ((x1_1.size : Int) > 0)), gR, H', ⟨oN'⟩, ⟨wHI0_spec_l1Cur_spoilt⟩, ⟨wHK_spec_l1Cur_spoilt⟩, ⟨wHB_spec_l1Cur_spoilt⟩⟩
   case rest =>
    clear HC6
    try clear p2
    try clear c5
    try clear p6
    try clear c7
    try clear c7b0
    try clear p2
    obtain ⟨kq, x19_5, rfl, HA, HJ5, HI0, HK, HB⟩ := hcut
    cases kq with
    | zero => exact absurd HA.out (by simp [spec_l1Cur_spoilt.j1])
    | succ kj5 =>
     have H := HA.out
     clear HA
     simp only [spec_l1Cur_spoilt.j1] at H
     by_cases c8 : x19_5 = true
     rotate_left
     ·replace c8 := Bool.eq_false_iff.mpr c8
      subst c8
      replace H := iF H
      simp only [Option.some.injEq, Prod.mk.injEq] at H
      obtain ⟨rfl, rfl, rfl⟩ := H
      go_wp2
      repeat (go_quiet (fail); try go_wp2)
      go_ret
      exact ⟨fR, wHI0_spec_l1Cur_spoilt, wHB_spec_l1Cur_spoilt, wHK_spec_l1Cur_spoilt⟩
     subst c8
     replace H := iT H
     replace H := oB H
     obtain ⟨⟨t104, t105, t106⟩, A90, H⟩ := H
     replace H : ((spec_l1Cur_pick.f s0_0 t105 t106 (a2.size : Int)).bind fun bt107 => (if 0 ≤ bt107.1 then (if bt107.1 < (a2.size : Int) then ((some (([bt a2 bt107.1] : List Int) : List Int)).bind fun y110 => ((spec_l1Cur_pick.f s0_0 bt107.2.1 bt107.2.2 3).bind fun bt113 => (if bt113.1 = 0 then (if 0 ≤ t104 then (if t104 ≤ (x1_1.size : Int) then (if (x1_1.extract 0 (t104 : Int).toNat).size + (strOfNums y110).size ≤ 9223372036854775807 then (if ((x1_1.extract 0 (t104 : Int).toNat) ++ (strOfNums y110)).size + (x1_1.extract (t104 : Int).toNat x1_1.size).size ≤ 9223372036854775807 then (spec_l1Cur_spoilt.l0 kj5 (((x1_1.extract 0 (t104 : Int).toNat) ++ (strOfNums y110)) ++ (x1_1.extract (t104 : Int).toNat x1_1.size)) a2 (wrap64 (x7_1 - 1)) s0_0 bt113.2.1 bt113.2.2) else (none)) else (none)) else (none)) else (none)) else (if bt113.1 = 1 then (if 0 ≤ t104 then (if t104 ≤ (x1_1.size : Int) then (if (x1_1.extract 0 (t104 : Int).toNat).size + (strOfNums y110).size ≤ 9223372036854775807 then (if 0 ≤ (wrap64 (t104 + 1)) then (if (wrap64 (t104 + 1)) ≤ (x1_1.size : Int) then (if ((x1_1.extract 0 (t104 : Int).toNat) ++ (strOfNums y110)).size + (x1_1.extract ((wrap64 (t104 + 1)) : Int).toNat x1_1.size).size ≤ 9223372036854775807 then (spec_l1Cur_spoilt.l0 kj5 (((x1_1.extract 0 (t104 : Int).toNat) ++ (strOfNums y110)) ++ (x1_1.extract ((wrap64 (t104 + 1)) : Int).toNat x1_1.size)) a2 (wrap64 (x7_1 - 1)) s0_0 bt113.2.1 bt113.2.2) else (none)) else (none)) else (none)) else (none)) else (none)) else (none)) else (if 0 ≤ t104 then (if t104 ≤ (x1_1.size : Int) then (if 0 ≤ (wrap64 (t104 + 1)) then (if (wrap64 (t104 + 1)) ≤ (x1_1.size : Int) then (if (x1_1.extract 0 (t104 : Int).toNat).size + (x1_1.extract ((wrap64 (t104 + 1)) : Int).toNat x1_1.size).size ≤ 9223372036854775807 then (spec_l1Cur_spoilt.l0 kj5 ((x1_1.extract 0 (t104 : Int).toNat) ++ (x1_1.extract ((wrap64 (t104 + 1)) : Int).toNat x1_1.size)) a2 (wrap64 (x7_1 - 1)) s0_0 bt113.2.1 bt113.2.2) else (none)) else (none)) else (none)) else (none)) else (none)))))) else (none)) else (none))) = some (r1, r2, r3) := H
     have A9 := Aside0.mk A90
     clear A90
     replace H := oB H
     obtain ⟨⟨t107, t108, t109⟩, A100, H⟩ := H
     replace H : (if 0 ≤ t107 then (if t107 < (a2.size : Int) then ((some (([bt a2 t107] : List Int) : List Int)).bind fun y110 => ((spec_l1Cur_pick.f s0_0 t108 t109 3).bind fun bt113 => (if bt113.1 = 0 then (if 0 ≤ t104 then (if t104 ≤ (x1_1.size : Int) then (if (x1_1.extract 0 (t104 : Int).toNat).size + (strOfNums y110).size ≤ 9223372036854775807 then (if ((x1_1.extract 0 (t104 : Int).toNat) ++ (strOfNums y110)).size + (x1_1.extract (t104 : Int).toNat x1_1.size).size ≤ 9223372036854775807 then (spec_l1Cur_spoilt.l0 kj5 (((x1_1.extract 0 (t104 : Int).toNat) ++ (strOfNums y110)) ++ (x1_1.extract (t104 : Int).toNat x1_1.size)) a2 (wrap64 (x7_1 - 1)) s0_0 bt113.2.1 bt113.2.2) else (none)) else (none)) else (none)) else (none)) else (if bt113.1 = 1 then (if 0 ≤ t104 then (if t104 ≤ (x1_1.size : Int) then (if (x1_1.extract 0 (t104 : Int).toNat).size + (strOfNums y110).size ≤ 9223372036854775807 then (if 0 ≤ (wrap64 (t104 + 1)) then (if (wrap64 (t104 + 1)) ≤ (x1_1.size : Int) then (if ((x1_1.extract 0 (t104 : Int).toNat) ++ (strOfNums y110)).size + (x1_1.extract ((wrap64 (t104 + 1)) : Int).toNat x1_1.size).size ≤ 9223372036854775807 then (spec_l1Cur_spoilt.l0 kj5 (((x1_1.extract 0 (t104 : Int).toNat) ++ (strOfNums y110)) ++ (x1_1.extract ((wrap64 (t104 + 1)) : Int).toNat x1_1.size)) a2 (wrap64 (x7_1 - 1)) s0_0 bt113.2.1 bt113.2.2) else (none)) else (none)) else (none)) else (none)) else (none)) else (none)) else (if 0 ≤ t104 then (if t104 ≤ (x1_1.size : Int) then (if 0 ≤ (wrap64 (t104 + 1)) then (if (wrap64 (t104 + 1)) ≤ (x1_1.size : Int) then (if (x1_1.extract 0 (t104 : Int).toNat).size + (x1_1.extract ((wrap64 (t104 + 1)) : Int).toNat x1_1.size).size ≤ 9223372036854775807 then (spec_l1Cur_spoilt.l0 kj5 ((x1_1.extract 0 (t104 : Int).toNat) ++ (x1_1.extract ((wrap64 (t104 + 1)) : Int).toNat x1_1.size)) a2 (wrap64 (x7_1 - 1)) s0_0 bt113.2.1 bt113.2.2) else (none)) else (none)) else (none)) else (none)) else (none)))))) else (none)) else (none)) = some (r1, r2, r3) := H
     have A10 := Aside0.mk A100
     clear A100
     by_cases c11 : 0 ≤ t107
     rotate_left
     ·rw [if_neg c11] at H
      exact absurd H (by simp)
     rw [if_pos c11] at H
     have c11b0 := decide_eq_true c11
     clear c11
     by_cases c12 : t107 < (a2.size : Int)
     rotate_left
     ·rw [if_neg c12] at H
      exact absurd H (by simp)
     rw [if_pos c12] at H
     have c12b0 := decide_eq_true c12
     clear c12
     obtain ⟨y110, hy110⟩ : ∃ y_ : List Int, y_ = (([bt a2 t107] : List Int)) := ⟨_, rfl⟩
     replace H : ((spec_l1Cur_pick.f s0_0 t108 t109 3).bind fun bt113 => (if bt113.1 = 0 then (if 0 ≤ t104 then (if t104 ≤ (x1_1.size : Int) then (if (x1_1.extract 0 (t104 : Int).toNat).size + (strOfNums y110).size ≤ 9223372036854775807 then (if ((x1_1.extract 0 (t104 : Int).toNat) ++ (strOfNums y110)).size + (x1_1.extract (t104 : Int).toNat x1_1.size).size ≤ 9223372036854775807 then (spec_l1Cur_spoilt.l0 kj5 (((x1_1.extract 0 (t104 : Int).toNat) ++ (strOfNums y110)) ++ (x1_1.extract (t104 : Int).toNat x1_1.size)) a2 (wrap64 (x7_1 - 1)) s0_0 bt113.2.1 bt113.2.2) else (none)) else (none)) else (none)) else (none)) else (if bt113.1 = 1 then (if 0 ≤ t104 then (if t104 ≤ (x1_1.size : Int) then (if (x1_1.extract 0 (t104 : Int).toNat).size + (strOfNums y110).size ≤ 9223372036854775807 then (if 0 ≤ (wrap64 (t104 + 1)) then (if (wrap64 (t104 + 1)) ≤ (x1_1.size : Int) then (if ((x1_1.extract 0 (t104 : Int).toNat) ++ (strOfNums y110)).size + (x1_1.extract ((wrap64 (t104 + 1)) : Int).toNat x1_1.size).size ≤ 9223372036854775807 then (spec_l1Cur_spoilt.l0 kj5 (((x1_1.extract 0 (t104 : Int).toNat) ++ (strOfNums y110)) ++ (x1_1.extract ((wrap64 (t104 + 1)) : Int).toNat x1_1.size)) a2 (wrap64 (x7_1 - 1)) s0_0 bt113.2.1 bt113.2.2) else (none)) else (none)) else (none)) else (none)) else (none)) else (none)) else (if 0 ≤ t104 then (if t104 ≤ (x1_1.size : Int) then (if 0 ≤ (wrap64 (t104 + 1)) then (if (wrap64 (t104 + 1)) ≤ (x1_1.size : Int) then (if (x1_1.extract 0 (t104 : Int).toNat).size + (x1_1.extract ((wrap64 (t104 + 1)) : Int).toNat x1_1.size).size ≤ 9223372036854775807 then (spec_l1Cur_spoilt.l0 kj5 ((x1_1.extract 0 (t104 : Int).toNat) ++ (x1_1.extract ((wrap64 (t104 + 1)) : Int).toNat x1_1.size)) a2 (wrap64 (x7_1 - 1)) s0_0 bt113.2.1 bt113.2.2) else (none)) else (none)) else (none)) else (none)) else (none))))) = some (r1, r2, r3) := by first | (rw [hy110]; with_reducible exact H) | (have H2_ := (Option.bind_some _ _).symm.trans H; rw [hy110]; with_reducible exact H2_) | (have H2_ := (Option.bind_some _ _).symm.trans H; with_reducible exact H2_) | with_reducible exact H | (rw [hy110]; exact H) | exact H
     have Ny110 := Aside0.mk hy110
     clear hy110
     replace H := oB H
     obtain ⟨⟨t113, t114, t115⟩, A140, H⟩ := H
     replace H : (if t113 = 0 then (if 0 ≤ t104 then (if t104 ≤ (x1_1.size : Int) then (if (x1_1.extract 0 (t104 : Int).toNat).size + (strOfNums y110).size ≤ 9223372036854775807 then (if ((x1_1.extract 0 (t104 : Int).toNat) ++ (strOfNums y110)).size + (x1_1.extract (t104 : Int).toNat x1_1.size).size ≤ 9223372036854775807 then (spec_l1Cur_spoilt.l0 kj5 (((x1_1.extract 0 (t104 : Int).toNat) ++ (strOfNums y110)) ++ (x1_1.extract (t104 : Int).toNat x1_1.size)) a2 (wrap64 (x7_1 - 1)) s0_0 t114 t115) else (none)) else (none)) else (none)) else (none)) else (if t113 = 1 then (if 0 ≤ t104 then (if t104 ≤ (x1_1.size : Int) then (if (x1_1.extract 0 (t104 : Int).toNat).size + (strOfNums y110).size ≤ 9223372036854775807 then (if 0 ≤ (wrap64 (t104 + 1)) then (if (wrap64 (t104 + 1)) ≤ (x1_1.size : Int) then (if ((x1_1.extract 0 (t104 : Int).toNat) ++ (strOfNums y110)).size + (x1_1.extract ((wrap64 (t104 + 1)) : Int).toNat x1_1.size).size ≤ 9223372036854775807 then (spec_l1Cur_spoilt.l0 kj5 (((x1_1.extract 0 (t104 : Int).toNat) ++ (strOfNums y110)) ++ (x1_1.extract ((wrap64 (t104 + 1)) : Int).toNat x1_1.size)) a2 (wrap64 (x7_1 - 1)) s0_0 t114 t115) else (none)) else (none)) else (none)) else (none)) else (none)) else (none)) else (if 0 ≤ t104 then (if t104 ≤ (x1_1.size : Int) then (if 0 ≤ (wrap64 (t104 + 1)) then (if (wrap64 (t104 + 1)) ≤ (x1_1.size : Int) then (if (x1_1.extract 0 (t104 : Int).toNat).size + (x1_1.extract ((wrap64 (t104 + 1)) : Int).toNat x1_1.size).size ≤ 9223372036854775807 then (spec_l1Cur_spoilt.l0 kj5 ((x1_1.extract 0 (t104 : Int).toNat) ++ (x1_1.extract ((wrap64 (t104 + 1)) : Int).toNat x1_1.size)) a2 (wrap64 (x7_1 - 1)) s0_0 t114 t115) else (none)) else (none)) else (none)) else (none)) else (none)))) = some (r1, r2, r3) := H
     have A14 := Aside0.mk A140
     clear A140
     by_cases c15 : t113 = 0
     ·rw [if_pos c15] at H
      have c15b0 : (t113 == 0) = true := beq_iff_eq.mpr c15
      have c15b1 : (t113 != 0) = false := bne_eq_false_iff_eq.mpr c15
      clear c15
      by_cases c16 : 0 ≤ t104
      rotate_left
      ·rw [if_neg c16] at H
       exact absurd H (by simp)
      rw [if_pos c16] at H
      have c16b0 := eq_true c16
      have c16b1 := decide_eq_true c16
      clear c16
      by_cases c17 : t104 ≤ (x1_1.size : Int)
      rotate_left
      ·rw [if_neg c17] at H
       exact absurd H (by simp)
      rw [if_pos c17] at H
      have c17b0 := eq_true c17
      have c17b1 := decide_eq_true c17
      clear c17
      by_cases c18 : (x1_1.extract 0 (t104 : Int).toNat).size + (strOfNums y110).size ≤ 9223372036854775807
      rotate_left
      ·rw [if_neg c18] at H
       exact absurd H (by simp)
      rw [if_pos c18] at H
      have c18b0 := eq_true c18
      have c18b1 := decide_eq_true c18
      try have c18b2 : (9223372036854775807 < (x1_1.extract 0 (t104 : Int).toNat).size + (strOfNums y110).size) = False := eq_false (Nat.not_lt.2 c18)
      have c19b0 := eq_true (oD : 0 ≤ t104)
      have c20b0 := eq_true (oD : t104 ≤ (x1_1.size : Int))
      by_cases c21 : ((x1_1.extract 0 (t104 : Int).toNat) ++ (strOfNums y110)).size + (x1_1.extract (t104 : Int).toNat x1_1.size).size ≤ 9223372036854775807
      rotate_left
      ·rw [if_neg c21] at H
       exact absurd H (by simp)
      rw [if_pos c21] at H
      have c21b0 := eq_true c21
      have c21b1 := decide_eq_true c21
      try have c21b2 : (9223372036854775807 < ((x1_1.extract 0 (t104 : Int).toNat) ++ (strOfNums y110)).size + (x1_1.extract (t104 : Int).toNat x1_1.size).size) = False := eq_false (Nat.not_lt.2 c21)
      have H' := Aside0.mk H
      clear H
      go_wp2_with (first | (go_at_call 54; (with_reducible refine (spec_l1Cur_pick.calls g s0_0 x1001_1 x1002_1 (x1_1.size : Int) t104 t105 t106 w0 _ ?side1 ?side2 A9.out).mono ?_); (case side1 => exact wHI0_spec_l1Cur_spoilt); (case side2 => exact wHB_spec_l1Cur_spoilt); rintro e w22 ⟨rfl, hi, hb, hk⟩; have n0_ := Aside0.mk (KeepBut.trans (wHK_spec_l1Cur_spoilt) hk (.inl rfl)); have n1_ := Aside0.mk (hb); have n2_ := Aside0.mk (hi); clear HK; clear HB; clear HI0; have HK := n0_; have HB := n1_; have HI0 := n2_; clear n0_ n1_ n2_; (try clear hb); (try clear hb2); (try clear hk); (try clear hi)) | (go_at_call 54; (with_reducible refine (spec_l1Cur_pick.calls g s0_0 t105 t106 (a2.size : Int) t107 t108 t109 w0 _ ?side1 ?side2 A10.out).mono ?_); (case side1 => exact wHI0_spec_l1Cur_spoilt); (case side2 => exact wHB_spec_l1Cur_spoilt); rintro e w23 ⟨rfl, hi, hb, hk⟩; have n0_ := Aside0.mk (KeepBut.trans (wHK_spec_l1Cur_spoilt) hk (.inl rfl)); have n1_ := Aside0.mk (hb); have n2_ := Aside0.mk (hi); clear HK; clear HB; clear HI0; have HK := n0_; have HB := n1_; have HI0 := n2_; clear n0_ n1_ n2_; (try clear hb); (try clear hb2); (try clear hk); (try clear hi); have p13 : 0 ≤ (t107 : Int) := oD; have q13 : t107 < (a2.size : Int) := oD; have hx13 := bt_at a2 t107; replace p13 := eq_true p13; replace q13 := eq_true q13) | ((with_reducible refine gate_dst (N := 32) rfl ?_); (try (refine gate_guard (by rfl) ?_; dsimp only)); refine Kd.R_lit (Kd.int .u8) _ 5 ?hg (N := 32) ?hd (xs := ([bt a2 t107] : List Int)) (inner := [.int .u8 (bt a2 t107)]) (ok := fun _ => True) (okp := fun _ => True) ?hr ?hp (fun _ hk => hk) trivial (Below.refl _ _) (Nat.le_refl _) (by simp) ?_; (case hd => rfl); (case hg => rfl); (case hr => first | (go_simp; done) | (go_simp; rfl)); (case hp => exact (Reps.one (show Kd.M (Kd.int .u8) _ _ _ (bt a2 t107) [.int .u8 (bt a2 t107)] from rfl) (Reps.none _ _))); intro v111 w24 ho25 hb hg_ hnew_; clear hg_ hnew_; (first | rw [← Ny110.out] at ho25 | (simp only [Int.reduceToNat] at ho25; rw [← Ny110.out] at ho25)); have n0_ := Aside0.mk (Kd.R_lower ho25 (keep_size (w := w) (g := g) (row := none) (wHK_spec_l1Cur_spoilt))); have n1_ := Aside0.mk (IsS81.below (wHI0_spec_l1Cur_spoilt) hb); have n2_ := Aside0.mk (KeepBut.trans (wHK_spec_l1Cur_spoilt) (KeepBut.of_below hb g none) (.inl rfl)); have n3_ := Aside0.mk (below_step (wHB_spec_l1Cur_spoilt) hb); clear HI0; clear HK; clear HB; have HO112 := n0_; have HI0 := n1_; have HK := n2_; have HB := n3_; clear n0_ n1_ n2_ n3_; clear hb ho25; have hcv26 := own_string (P := Tryz.prog) Tryz.underlying43 Tryz.underlying5 Tryz.underlying9 (Kd.own_of_R HO112.out)) | (go_at_call 54; (with_reducible refine (spec_l1Cur_pick.calls g s0_0 t108 t109 3 t113 t114 t115 w0 _ ?side1 ?side2 A14.out).mono ?_); (case side1 => exact wHI0_spec_l1Cur_spoilt); (case side2 => exact wHB_spec_l1Cur_spoilt); rintro e w27 ⟨rfl, hi, hb, hk⟩; have n0_ := Aside0.mk (Kd.R_mono (Kd.R_keep (IsS81.apart (show IsS81 w0 _ g s0_0 t108 t109 from wHI0_spec_l1Cur_spoilt) (rQ HO112) (by decide)) hk (fun _ h => h.2)) (fun _ h => h.1)); have n1_ := Aside0.mk (KeepBut.trans (wHK_spec_l1Cur_spoilt) hk (.inl rfl)); have n2_ := Aside0.mk (hb); have n3_ := Aside0.mk (hi); clear HO112; clear HK; clear HB; clear HI0; have HO112 := n0_; have HK := n1_; have HB := n2_; have HI0 := n3_; clear n0_ n1_ n2_ n3_; (try clear hb); (try clear hb2); (try clear hk); (try clear hi)))
      repeat (go_quiet (first | (go_at_call 54; (with_reducible refine (spec_l1Cur_pick.calls g s0_0 x1001_1 x1002_1 (x1_1.size : Int) t104 t105 t106 w0 _ ?side1 ?side2 A9.out).mono ?_); (case side1 => exact wHI0_spec_l1Cur_spoilt); (case side2 => exact wHB_spec_l1Cur_spoilt); rintro e w22 ⟨rfl, hi, hb, hk⟩; have n0_ := Aside0.mk (KeepBut.trans (wHK_spec_l1Cur_spoilt) hk (.inl rfl)); have n1_ := Aside0.mk (hb); have n2_ := Aside0.mk (hi); clear HK; clear HB; clear HI0; have HK := n0_; have HB := n1_; have HI0 := n2_; clear n0_ n1_ n2_; (try clear hb); (try clear hb2); (try clear hk); (try clear hi)) | (go_at_call 54; (with_reducible refine (spec_l1Cur_pick.calls g s0_0 t105 t106 (a2.size : Int) t107 t108 t109 w0 _ ?side1 ?side2 A10.out).mono ?_); (case side1 => exact wHI0_spec_l1Cur_spoilt); (case side2 => exact wHB_spec_l1Cur_spoilt); rintro e w23 ⟨rfl, hi, hb, hk⟩; have n0_ := Aside0.mk (KeepBut.trans (wHK_spec_l1Cur_spoilt) hk (.inl rfl)); have n1_ := Aside0.mk (hb); have n2_ := Aside0.mk (hi); clear HK; clear HB; clear HI0; have HK := n0_; have HB := n1_; have HI0 := n2_; clear n0_ n1_ n2_; (try clear hb); (try clear hb2); (try clear hk); (try clear hi); have p13 : 0 ≤ (t107 : Int) := oD; have q13 : t107 < (a2.size : Int) := oD; have hx13 := bt_at a2 t107; replace p13 := eq_true p13; replace q13 := eq_true q13) | ((with_reducible refine gate_dst (N := 32) rfl ?_); (try (refine gate_guard (by rfl) ?_; dsimp only)); refine Kd.R_lit (Kd.int .u8) _ 5 ?hg (N := 32) ?hd (xs := ([bt a2 t107] : List Int)) (inner := [.int .u8 (bt a2 t107)]) (ok := fun _ => True) (okp := fun _ => True) ?hr ?hp (fun _ hk => hk) trivial (Below.refl _ _) (Nat.le_refl _) (by simp) ?_; (case hd => rfl); (case hg => rfl); (case hr => first | (go_simp; done) | (go_simp; rfl)); (case hp => exact (Reps.one (show Kd.M (Kd.int .u8) _ _ _ (bt a2 t107) [.int .u8 (bt a2 t107)] from rfl) (Reps.none _ _))); intro v111 w24 ho25 hb hg_ hnew_; clear hg_ hnew_; (first | rw [← Ny110.out] at ho25 | (simp only [Int.reduceToNat] at ho25; rw [← Ny110.out] at ho25)); have n0_ := Aside0.mk (Kd.R_lower ho25 (keep_size (w := w) (g := g) (row := none) (wHK_spec_l1Cur_spoilt))); have n1_ := Aside0.mk (IsS81.below (wHI0_spec_l1Cur_spoilt) hb); have n2_ := Aside0.mk (KeepBut.trans (wHK_spec_l1Cur_spoilt) (KeepBut.of_below hb g none) (.inl rfl)); have n3_ := Aside0.mk (below_step (wHB_spec_l1Cur_spoilt) hb); clear HI0; clear HK; clear HB; have HO112 := n0_; have HI0 := n1_; have HK := n2_; have HB := n3_; clear n0_ n1_ n2_ n3_; clear hb ho25; have hcv26 := own_string (P := Tryz.prog) Tryz.underlying43 Tryz.underlying5 Tryz.underlying9 (Kd.own_of_R HO112.out)) | (go_at_call 54; (with_reducible refine (spec_l1Cur_pick.calls g s0_0 t108 t109 3 t113 t114 t115 w0 _ ?side1 ?side2 A14.out).mono ?_); (case side1 => exact wHI0_spec_l1Cur_spoilt); (case side2 => exact wHB_spec_l1Cur_spoilt); rintro e w27 ⟨rfl, hi, hb, hk⟩; have n0_ := Aside0.mk (Kd.R_mono (Kd.R_keep (IsS81.apart (show IsS81 w0 _ g s0_0 t108 t109 from wHI0_spec_l1Cur_spoilt) (rQ HO112) (by decide)) hk (fun _ h => h.2)) (fun _ h => h.1)); have n1_ := Aside0.mk (KeepBut.trans (wHK_spec_l1Cur_spoilt) hk (.inl rfl)); have n2_ := Aside0.mk (hb); have n3_ := Aside0.mk (hi); clear HO112; clear HK; clear HB; clear HI0; have HO112 := n0_; have HK := n1_; have HB := n2_; have HI0 := n3_; clear n0_ n1_ n2_ n3_; (try clear hb); (try clear hb2); (try clear hk); (try clear hi))); try go_wp2_with (first | (go_at_call 54; (with_reducible refine (spec_l1Cur_pick.calls g s0_0 x1001_1 x1002_1 (x1_1.size : Int) t104 t105 t106 w0 _ ?side1 ?side2 A9.out).mono ?_); (case side1 => exact wHI0_spec_l1Cur_spoilt); (case side2 => exact wHB_spec_l1Cur_spoilt); rintro e w22 ⟨rfl, hi, hb, hk⟩; have n0_ := Aside0.mk (KeepBut.trans (wHK_spec_l1Cur_spoilt) hk (.inl rfl)); have n1_ := Aside0.mk (hb); have n2_ := Aside0.mk (hi); clear HK; clear HB; clear HI0; have HK := n0_; have HB := n1_; have HI0 := n2_; clear n0_ n1_ n2_; (try clear hb); (try clear hb2); (try clear hk); (try clear hi)) | (go_at_call 54; (with_reducible refine (spec_l1Cur_pick.calls g s0_0 t105 t106 (a2.size : Int) t107 t108 t109 w0 _ ?side1 ?side2 A10.out).mono ?_); (case side1 => exact wHI0_spec_l1Cur_spoilt); (case side2 => exact wHB_spec_l1Cur_spoilt); rintro e w23 ⟨rfl, hi, hb, hk⟩; have n0_ := Aside0.mk (KeepBut.trans (wHK_spec_l1Cur_spoilt) hk (.inl rfl)); have n1_ := Aside0.mk (hb); have n2_ := Aside0.mk (hi); clear HK; clear HB; clear HI0; have HK := n0_; have HB := n1_; have HI0 := n2_; clear n0_ n1_ n2_; (try clear hb); (try clear hb2); (try clear hk); (try clear hi); have p13 : 0 ≤ (t107 : Int) := oD; have q13 : t107 < (a2.size : Int) := oD; have hx13 := bt_at a2 t107; replace p13 := eq_true p13; replace q13 := eq_true q13) | ((with_reducible refine gate_dst (N := 32) rfl ?_); (try (refine gate_guard (by rfl) ?_; dsimp only)); refine Kd.R_lit (Kd.int .u8) _ 5 ?hg (N := 32) ?hd (xs := ([bt a2 t107] : List Int)) (inner := [.int .u8 (bt a2 t107)]) (ok := fun _ => True) (okp := fun _ => True) ?hr ?hp (fun _ hk => hk) trivial (Below.refl _ _) (Nat.le_refl _) (by simp) ?_; (case hd => rfl); (case hg => rfl); (case hr => first | (go_simp; done) | (go_simp; rfl)); (case hp => exact (Reps.one (show Kd.M (Kd.int .u8) _ _ _ (bt a2 t107) [.int .u8 (bt a2 t107)] from rfl) (Reps.none _ _))); intro v111 w24 ho25 hb hg_ hnew_; clear hg_ hnew_; (first | rw [← Ny110.out] at ho25 | (simp only [Int.reduceToNat] at ho25; rw [← Ny110.out] at ho25)); have n0_ := Aside0.mk (Kd.R_lower ho25 (keep_size (w := w) (g := g) (row := none) (wHK_spec_l1Cur_spoilt))); have n1_ := Aside0.mk (IsS81.below (wHI0_spec_l1Cur_spoilt) hb); have n2_ := Aside0.mk (KeepBut.trans (wHK_spec_l1Cur_spoilt) (KeepBut.of_below hb g none) (.inl rfl)); have n3_ := Aside0.mk (below_step (wHB_spec_l1Cur_spoilt) hb); clear HI0; clear HK; clear HB; have HO112 := n0_; have HI0 := n1_; have HK := n2_; have HB := n3_; clear n0_ n1_ n2_ n3_; clear hb ho25; have hcv26 := own_string (P := Tryz.prog) Tryz.underlying43 Tryz.underlying5 Tryz.underlying9 (Kd.own_of_R HO112.out)) | (go_at_call 54; (with_reducible refine (spec_l1Cur_pick.calls g s0_0 t108 t109 3 t113 t114 t115 w0 _ ?side1 ?side2 A14.out).mono ?_); (case side1 => exact wHI0_spec_l1Cur_spoilt); (case side2 => exact wHB_spec_l1Cur_spoilt); rintro e w27 ⟨rfl, hi, hb, hk⟩; have n0_ := Aside0.mk (Kd.R_mono (Kd.R_keep (IsS81.apart (show IsS81 w0 _ g s0_0 t108 t109 from wHI0_spec_l1Cur_spoilt) (rQ HO112) (by decide)) hk (fun _ h => h.2)) (fun _ h => h.1)); have n1_ := Aside0.mk (KeepBut.trans (wHK_spec_l1Cur_spoilt) hk (.inl rfl)); have n2_ := Aside0.mk (hb); have n3_ := Aside0.mk (hi); clear HO112; clear HK; clear HB; clear HI0; have HO112 := n0_; have HK := n1_; have HB := n2_; have HI0 := n3_; clear n0_ n1_ n2_ n3_; (try clear hb); (try clear hb2); (try clear hk); (try clear hi))))
      go_roundg kj5
      case measure => have := HK1.out; have := HJ5.out; omega
      case rel => exact ⟨(((x1_1.extract 0 (t104 : Int).toNat) ++ (strOfNums y110)) ++ (x1_1.extract (t104 : Int).toNat x1_1.size)), (wrap64 (x7_1 - 1)), (t114), (t115), gR, gR, H', ⟨by have := HK1.out; have := HJ5.out; omega⟩, ⟨wHI0_spec_l1Cur_spoilt⟩, ⟨wHK_spec_l1Cur_spoilt⟩, ⟨wHB_spec_l1Cur_spoilt⟩⟩
     rw [if_neg c15] at H
     have c15b0 : (t113 == 0) = false := beq_eq_false_iff_ne.mpr c15
     have c15b1 : (t113 != 0) = true := bne_iff_ne.mpr c15
     by_cases c28 : t113 = 1
     rotate_left
     ·rw [if_neg c28] at H
      have c28b0 : (t113 == 1) = false := beq_eq_false_iff_ne.mpr c28
      have c28b1 : (t113 != 1) = true := bne_iff_ne.mpr c28
      by_cases c42 : 0 ≤ t104
      rotate_left
      ·rw [if_neg c42] at H
       exact absurd H (by simp)
      rw [if_pos c42] at H
      have c42b0 := eq_true c42
      have c42b1 := decide_eq_true c42
      clear c42
      by_cases c43 : t104 ≤ (x1_1.size : Int)
      rotate_left
      ·rw [if_neg c43] at H
       exact absurd H (by simp)
      rw [if_pos c43] at H
      have c43b0 := eq_true c43
      have c43b1 := decide_eq_true c43
      clear c43
      obtain ⟨ji44, hji44⟩ : ∃ j_ : Int, (wrap64 (t104 + 1)) = j_ := ⟨_, rfl⟩
      replace H : (if 0 ≤ (ji44) then (if (ji44) ≤ (x1_1.size : Int) then (if (x1_1.extract 0 (t104 : Int).toNat).size + (x1_1.extract ((ji44) : Int).toNat x1_1.size).size ≤ 9223372036854775807 then (spec_l1Cur_spoilt.l0 kj5 ((x1_1.extract 0 (t104 : Int).toNat) ++ (x1_1.extract ((ji44) : Int).toNat x1_1.size)) a2 (wrap64 (x7_1 - 1)) s0_0 t114 t115) else (none)) else (none)) else (none)) = some (r1, r2, r3) := by first | (rw [hji44] at H; exact H) | (simp only [hji44] at H ⊢; exact H)
      (try rw [hji44] at A9)
      (try rw [hji44] at A10)
      (try rw [hji44] at A14)
      have hji44w : (IntKind.i64.wrap (t104 + 1)) = ji44 := (i64_w _).trans hji44
      by_cases c45 : 0 ≤ (ji44)
      rotate_left
      ·rw [if_neg c45] at H
       exact absurd H (by simp)
      rw [if_pos c45] at H
      have c45b0 := eq_true c45
      have c45b1 := decide_eq_true c45
      clear c45
      by_cases c46 : (ji44) ≤ (x1_1.size : Int)
      rotate_left
      ·rw [if_neg c46] at H
       exact absurd H (by simp)
      rw [if_pos c46] at H
      have c46b0 := eq_true c46
      have c46b1 := decide_eq_true c46
      clear c46
      by_cases c47 : (x1_1.extract 0 (t104 : Int).toNat).size + (x1_1.extract ((ji44) : Int).toNat x1_1.size).size ≤ 9223372036854775807
      rotate_left
      ·rw [if_neg c47] at H
       exact absurd H (by simp)
      rw [if_pos c47] at H
      have c47b0 := eq_true c47
      have c47b1 := decide_eq_true c47
      try have c47b2 : (9223372036854775807 < (x1_1.extract 0 (t104 : Int).toNat).size + (x1_1.extract ((ji44) : Int).toNat x1_1.size).size) = False := eq_false (Nat.not_lt.2 c47)
      have H' := Aside0.mk H
      clear H
      go_wp2_with (first | (go_at_call 54; (with_reducible refine (spec_l1Cur_pick.calls g s0_0 x1001_1 x1002_1 (x1_1.size : Int) t104 t105 t106 w0 _ ?side1 ?side2 A9.out).mono ?_); (case side1 => exact wHI0_spec_l1Cur_spoilt); (case side2 => exact wHB_spec_l1Cur_spoilt); rintro e w48 ⟨rfl, hi, hb, hk⟩; have n0_ := Aside0.mk (KeepBut.trans (wHK_spec_l1Cur_spoilt) hk (.inl rfl)); have n1_ := Aside0.mk (hb); have n2_ := Aside0.mk (hi); clear HK; clear HB; clear HI0; have HK := n0_; have HB := n1_; have HI0 := n2_; clear n0_ n1_ n2_; (try clear hb); (try clear hb2); (try clear hk); (try clear hi)) | (go_at_call 54; (with_reducible refine (spec_l1Cur_pick.calls g s0_0 t105 t106 (a2.size : Int) t107 t108 t109 w0 _ ?side1 ?side2 A10.out).mono ?_); (case side1 => exact wHI0_spec_l1Cur_spoilt); (case side2 => exact wHB_spec_l1Cur_spoilt); rintro e w49 ⟨rfl, hi, hb, hk⟩; have n0_ := Aside0.mk (KeepBut.trans (wHK_spec_l1Cur_spoilt) hk (.inl rfl)); have n1_ := Aside0.mk (hb); have n2_ := Aside0.mk (hi); clear HK; clear HB; clear HI0; have HK := n0_; have HB := n1_; have HI0 := n2_; clear n0_ n1_ n2_; (try clear hb); (try clear hb2); (try clear hk); (try clear hi); have p13 : 0 ≤ (t107 : Int) := oD; have q13 : t107 < (a2.size : Int) := oD; have hx13 := bt_at a2 t107; replace p13 := eq_true p13; replace q13 := eq_true q13) | ((with_reducible refine gate_dst (N := 32) rfl ?_); (try (refine gate_guard (by rfl) ?_; dsimp only)); refine Kd.R_lit (Kd.int .u8) _ 5 ?hg (N := 32) ?hd (xs := ([bt a2 t107] : List Int)) (inner := [.int .u8 (bt a2 t107)]) (ok := fun _ => True) (okp := fun _ => True) ?hr ?hp (fun _ hk => hk) trivial (Below.refl _ _) (Nat.le_refl _) (by simp) ?_; (case hd => rfl); (case hg => rfl); (case hr => first | (go_simp; done) | (go_simp; rfl)); (case hp => exact (Reps.one (show Kd.M (Kd.int .u8) _ _ _ (bt a2 t107) [.int .u8 (bt a2 t107)] from rfl) (Reps.none _ _))); intro v111 w50 ho51 hb hg_ hnew_; clear hg_ hnew_; (first | rw [← Ny110.out] at ho51 | (simp only [Int.reduceToNat] at ho51; rw [← Ny110.out] at ho51)); have n0_ := Aside0.mk (Kd.R_lower ho51 (keep_size (w := w) (g := g) (row := none) (wHK_spec_l1Cur_spoilt))); have n1_ := Aside0.mk (IsS81.below (wHI0_spec_l1Cur_spoilt) hb); have n2_ := Aside0.mk (KeepBut.trans (wHK_spec_l1Cur_spoilt) (KeepBut.of_below hb g none) (.inl rfl)); have n3_ := Aside0.mk (below_step (wHB_spec_l1Cur_spoilt) hb); clear HI0; clear HK; clear HB; have HO112 := n0_; have HI0 := n1_; have HK := n2_; have HB := n3_; clear n0_ n1_ n2_ n3_; clear hb ho51; have hcv52 := own_string (P := Tryz.prog) Tryz.underlying43 Tryz.underlying5 Tryz.underlying9 (Kd.own_of_R HO112.out)) | (go_at_call 54; (with_reducible refine (spec_l1Cur_pick.calls g s0_0 t108 t109 3 t113 t114 t115 w0 _ ?side1 ?side2 A14.out).mono ?_); (case side1 => exact wHI0_spec_l1Cur_spoilt); (case side2 => exact wHB_spec_l1Cur_spoilt); rintro e w53 ⟨rfl, hi, hb, hk⟩; have n0_ := Aside0.mk (Kd.R_mono (Kd.R_keep (IsS81.apart (show IsS81 w0 _ g s0_0 t108 t109 from wHI0_spec_l1Cur_spoilt) (rQ HO112) (by decide)) hk (fun _ h => h.2)) (fun _ h => h.1)); have n1_ := Aside0.mk (KeepBut.trans (wHK_spec_l1Cur_spoilt) hk (.inl rfl)); have n2_ := Aside0.mk (hb); have n3_ := Aside0.mk (hi); clear HO112; clear HK; clear HB; clear HI0; have HO112 := n0_; have HK := n1_; have HB := n2_; have HI0 := n3_; clear n0_ n1_ n2_ n3_; (try clear hb); (try clear hb2); (try clear hk); (try clear hi)))
      repeat (go_quiet (first | (go_at_call 54; (with_reducible refine (spec_l1Cur_pick.calls g s0_0 x1001_1 x1002_1 (x1_1.size : Int) t104 t105 t106 w0 _ ?side1 ?side2 A9.out).mono ?_); (case side1 => exact wHI0_spec_l1Cur_spoilt); (case side2 => exact wHB_spec_l1Cur_spoilt); rintro e w48 ⟨rfl, hi, hb, hk⟩; have n0_ := Aside0.mk (KeepBut.trans (wHK_spec_l1Cur_spoilt) hk (.inl rfl)); have n1_ := Aside0.mk (hb); have n2_ := Aside0.mk (hi); clear HK; clear HB; clear HI0; have HK := n0_; have HB := n1_; have HI0 := n2_; clear n0_ n1_ n2_; (try clear hb); (try clear hb2); (try clear hk); (try clear hi)) | (go_at_call 54; (with_reducible refine (spec_l1Cur_pick.calls g s0_0 t105 t106 (a2.size : Int) t107 t108 t109 w0 _ ?side1 ?side2 A10.out).mono ?_); (case side1 => exact wHI0_spec_l1Cur_spoilt); (case side2 => exact wHB_spec_l1Cur_spoilt); rintro e w49 ⟨rfl, hi, hb, hk⟩; have n0_ := Aside0.mk (KeepBut.trans (wHK_spec_l1Cur_spoilt) hk (.inl rfl)); have n1_ := Aside0.mk (hb); have n2_ := Aside0.mk (hi); clear HK; clear HB; clear HI0; have HK := n0_; have HB := n1_; have HI0 := n2_; clear n0_ n1_ n2_; (try clear hb); (try clear hb2); (try clear hk); (try clear hi); have p13 : 0 ≤ (t107 : Int) := oD; have q13 : t107 < (a2.size : Int) := oD; have hx13 := bt_at a2 t107; replace p13 := eq_true p13; replace q13 := eq_true q13) | ((with_reducible refine gate_dst (N := 32) rfl ?_); (try (refine gate_guard (by rfl) ?_; dsimp only)); refine Kd.R_lit (Kd.int .u8) _ 5 ?hg (N := 32) ?hd (xs := ([bt a2 t107] : List Int)) (inner := [.int .u8 (bt a2 t107)]) (ok := fun _ => True) (okp := fun _ => True) ?hr ?hp (fun _ hk => hk) trivial (Below.refl _ _) (Nat.le_refl _) (by simp) ?_; (case hd => rfl); (case hg => rfl); (case hr => first | (go_simp; done) | (go_simp; rfl)); (case hp => exact (Reps.one (show Kd.M (Kd.int .u8) _ _ _ (bt a2 t107) [.int .u8 (bt a2 t107)] from rfl) (Reps.none _ _))); intro v111 w50 ho51 hb hg_ hnew_; clear hg_ hnew_; (first | rw [← Ny110.out] at ho51 | (simp only [Int.reduceToNat] at ho51; rw [← Ny110.out] at ho51)); have n0_ := Aside0.mk (Kd.R_lower ho51 (keep_size (w := w) (g := g) (row := none) (wHK_spec_l1Cur_spoilt))); have n1_ := Aside0.mk (IsS81.below (wHI0_spec_l1Cur_spoilt) hb); have n2_ := Aside0.mk (KeepBut.trans (wHK_spec_l1Cur_spoilt) (KeepBut.of_below hb g none) (.inl rfl)); have n3_ := Aside0.mk (below_step (wHB_spec_l1Cur_spoilt) hb); clear HI0; clear HK; clear HB; have HO112 := n0_; have HI0 := n1_; have HK := n2_; have HB := n3_; clear n0_ n1_ n2_ n3_; clear hb ho51; have hcv52 := own_string (P := Tryz.prog) Tryz.underlying43 Tryz.underlying5 Tryz.underlying9 (Kd.own_of_R HO112.out)) | (go_at_call 54; (with_reducible refine (spec_l1Cur_pick.calls g s0_0 t108 t109 3 t113 t114 t115 w0 _ ?side1 ?side2 A14.out).mono ?_); (case side1 => exact wHI0_spec_l1Cur_spoilt); (case side2 => exact wHB_spec_l1Cur_spoilt); rintro e w53 ⟨rfl, hi, hb, hk⟩; have n0_ := Aside0.mk (Kd.R_mono (Kd.R_keep (IsS81.apart (show IsS81 w0 _ g s0_0 t108 t109 from wHI0_spec_l1Cur_spoilt) (rQ HO112) (by decide)) hk (fun _ h => h.2)) (fun _ h => h.1)); have n1_ := Aside0.mk (KeepBut.trans (wHK_spec_l1Cur_spoilt) hk (.inl rfl)); have n2_ := Aside0.mk (hb); have n3_ := Aside0.mk (hi); clear HO112; clear HK; clear HB; clear HI0; have HO112 := n0_; have HK := n1_; have HB := n2_; have HI0 := n3_; clear n0_ n1_ n2_ n3_; (try clear hb); (try clear hb2); (try clear hk); (try clear hi))); try go_wp2_with (first | (go_at_call 54; (with_reducible refine (spec_l1Cur_pick.calls g s0_0 x1001_1 x1002_1 (x1_1.size : Int) t104 t105 t106 w0 _ ?side1 ?side2 A9.out).mono ?_); (case side1 => exact wHI0_spec_l1Cur_spoilt); (case side2 => exact wHB_spec_l1Cur_spoilt); rintro e w48 ⟨rfl, hi, hb, hk⟩; have n0_ := Aside0.mk (KeepBut.trans (wHK_spec_l1Cur_spoilt) hk (.inl rfl)); have n1_ := Aside0.mk (hb); have n2_ := Aside0.mk (hi); clear HK; clear HB; clear HI0; have HK := n0_; have HB := n1_; have HI0 := n2_; clear n0_ n1_ n2_; (try clear hb); (try clear hb2); (try clear hk); (try clear hi)) | (go_at_call 54; (with_reducible refine (spec_l1Cur_pick.calls g s0_0 t105 t106 (a2.size : Int) t107 t108 t109 w0 _ ?side1 ?side2 A10.out).mono ?_); (case side1 => exact wHI0_spec_l1Cur_spoilt); (case side2 => exact wHB_spec_l1Cur_spoilt); rintro e w49 ⟨rfl, hi, hb, hk⟩; have n0_ := Aside0.mk (KeepBut.trans (wHK_spec_l1Cur_spoilt) hk (.inl rfl)); have n1_ := Aside0.mk (hb); have n2_ := Aside0.mk (hi); clear HK; clear HB; clear HI0; have HK := n0_; have HB := n1_; have HI0 := n2_; clear n0_ n1_ n2_; (try clear hb); (try clear hb2); (try clear hk); (try clear hi); have p13 : 0 ≤ (t107 : Int) := oD; have q13 : t107 < (a2.size : Int) := oD; have hx13 := bt_at a2 t107; replace p13 := eq_true p13; replace q13 := eq_true q13) | ((with_reducible refine gate_dst (N := 32) rfl ?_); (try (refine gate_guard (by rfl) ?_; dsimp only)); refine Kd.R_lit (Kd.int .u8) _ 5 ?hg (N := 32) ?hd (xs := ([bt a2 t107] : List Int)) (inner := [.int .u8 (bt a2 t107)]) (ok := fun _ => True) (okp := fun _ => True) ?hr ?hp (fun _ hk => hk) trivial (Below.refl _ _) (Nat.le_refl _) (by simp) ?_; (case hd => rfl); (case hg => rfl); (case hr => first | (go_simp; done) | (go_simp; rfl)); (case hp => exact (Reps.one (show Kd.M (Kd.int .u8) _ _ _ (bt a2 t107) [.int .u8 (bt a2 t107)] from rfl) (Reps.none _ _))); intro v111 w50 ho51 hb hg_ hnew_; clear hg_ hnew_; (first | rw [← Ny110.out] at ho51 | (simp only [Int.reduceToNat] at ho51; rw [← Ny110.out] at ho51)); have n0_ := Aside0.mk (Kd.R_lower ho51 (keep_size (w := w) (g := g) (row := none) (wHK_spec_l1Cur_spoilt))); have n1_ := Aside0.mk (IsS81.below (wHI0_spec_l1Cur_spoilt) hb); have n2_ := Aside0.mk (KeepBut.trans (wHK_spec_l1Cur_spoilt) (KeepBut.of_below hb g none) (.inl rfl)); have n3_ := Aside0.mk (below_step (wHB_spec_l1Cur_spoilt) hb); clear HI0; clear HK; clear HB; have HO112 := n0_; have HI0 := n1_; have HK := n2_; have HB := n3_; clear n0_ n1_ n2_ n3_; clear hb ho51; have hcv52 := own_string (P := Tryz.prog) Tryz.underlying43 Tryz.underlying5 Tryz.underlying9 (Kd.own_of_R HO112.out)) | (go_at_call 54; (with_reducible refine (spec_l1Cur_pick.calls g s0_0 t108 t109 3 t113 t114 t115 w0 _ ?side1 ?side2 A14.out).mono ?_); (case side1 => exact wHI0_spec_l1Cur_spoilt); (case side2 => exact wHB_spec_l1Cur_spoilt); rintro e w53 ⟨rfl, hi, hb, hk⟩; have n0_ := Aside0.mk (Kd.R_mono (Kd.R_keep (IsS81.apart (show IsS81 w0 _ g s0_0 t108 t109 from wHI0_spec_l1Cur_spoilt) (rQ HO112) (by decide)) hk (fun _ h => h.2)) (fun _ h => h.1)); have n1_ := Aside0.mk (KeepBut.trans (wHK_spec_l1Cur_spoilt) hk (.inl rfl)); have n2_ := Aside0.mk (hb); have n3_ := Aside0.mk (hi); clear HO112; clear HK; clear HB; clear HI0; have HO112 := n0_; have HK := n1_; have HB := n2_; have HI0 := n3_; clear n0_ n1_ n2_ n3_; (try clear hb); (try clear hb2); (try clear hk); (try clear hi))))
      go_roundg kj5
      case measure => have := HK1.out; have := HJ5.out; omega
      case rel => exact ⟨((x1_1.extract 0 (t104 : Int).toNat) ++ (x1_1.extract ((ji44) : Int).toNat x1_1.size)), (wrap64 (x7_1 - 1)), (t114), (t115), (by first | rfl | (simp; done) | (simp only [← hji44] <;> (first | rfl | simp)) | (simp [*]; done)), gR, H', ⟨by have := HK1.out; have := HJ5.out; omega⟩, ⟨wHI0_spec_l1Cur_spoilt⟩, ⟨wHK_spec_l1Cur_spoilt⟩, ⟨wHB_spec_l1Cur_spoilt⟩⟩
     rw [if_pos c28] at H
     have c28b0 : (t113 == 1) = true := beq_iff_eq.mpr c28
     have c28b1 : (t113 != 1) = false := bne_eq_false_iff_eq.mpr c28
     clear c28
     by_cases c29 : 0 ≤ t104
     rotate_left
     ·rw [if_neg c29] at H
      exact absurd H (by simp)
     rw [if_pos c29] at H
     have c29b0 := eq_true c29
     have c29b1 := decide_eq_true c29
     clear c29
     by_cases c30 : t104 ≤ (x1_1.size : Int)
     rotate_left
     ·rw [if_neg c30] at H
      exact absurd H (by simp)
     rw [if_pos c30] at H
     have c30b0 := eq_true c30
     have c30b1 := decide_eq_true c30
     clear c30
     by_cases c31 : (x1_1.extract 0 (t104 : Int).toNat).size + (strOfNums y110).size ≤ 9223372036854775807
     rotate_left
     ·rw [if_neg c31] at H
      exact absurd H (by simp)
     rw [if_pos c31] at H
     have c31b0 := eq_true c31
     have c31b1 := decide_eq_true c31
     try have c31b2 : (9223372036854775807 < (x1_1.extract 0 (t104 : Int).toNat).size + (strOfNums y110).size) = False := eq_false (Nat.not_lt.2 c31)
     obtain ⟨ji32, hji32⟩ : ∃ j_ : Int, (wrap64 (t104 + 1)) = j_ := ⟨_, rfl⟩
     replace H : (if 0 ≤ (ji32) then (if (ji32) ≤ (x1_1.size : Int) then (if ((x1_1.extract 0 (t104 : Int).toNat) ++ (strOfNums y110)).size + (x1_1.extract ((ji32) : Int).toNat x1_1.size).size ≤ 9223372036854775807 then (spec_l1Cur_spoilt.l0 kj5 (((x1_1.extract 0 (t104 : Int).toNat) ++ (strOfNums y110)) ++ (x1_1.extract ((ji32) : Int).toNat x1_1.size)) a2 (wrap64 (x7_1 - 1)) s0_0 t114 t115) else (none)) else (none)) else (none)) = some (r1, r2, r3) := by first | (rw [hji32] at H; exact H) | (simp only [hji32] at H ⊢; exact H)
     (try rw [hji32] at A9)
     (try rw [hji32] at A10)
     (try rw [hji32] at A14)
     have hji32w : (IntKind.i64.wrap (t104 + 1)) = ji32 := (i64_w _).trans hji32
     by_cases c33 : 0 ≤ (ji32)
     rotate_left
     ·rw [if_neg c33] at H
      exact absurd H (by simp)
     rw [if_pos c33] at H
     have c33b0 := eq_true c33
     have c33b1 := decide_eq_true c33
     clear c33
     by_cases c34 : (ji32) ≤ (x1_1.size : Int)
     rotate_left
     ·rw [if_neg c34] at H
      exact absurd H (by simp)
     rw [if_pos c34] at H
     have c34b0 := eq_true c34
     have c34b1 := decide_eq_true c34
     clear c34
     by_cases c35 : ((x1_1.extract 0 (t104 : Int).toNat) ++ (strOfNums y110)).size + (x1_1.extract ((ji32) : Int).toNat x1_1.size).size ≤ 9223372036854775807
     rotate_left
     ·rw [if_neg c35] at H
      exact absurd H (by simp)
     rw [if_pos c35] at H
     have c35b0 := eq_true c35
     have c35b1 := decide_eq_true c35
     try have c35b2 : (9223372036854775807 < ((x1_1.extract 0 (t104 : Int).toNat) ++ (strOfNums y110)).size + (x1_1.extract ((ji32) : Int).toNat x1_1.size).size) = False := eq_false (Nat.not_lt.2 c35)
     have H' := Aside0.mk H
     clear H
     go_wp2_with (first | (go_at_call 54; (with_reducible refine (spec_l1Cur_pick.calls g s0_0 x1001_1 x1002_1 (x1_1.size : Int) t104 t105 t106 w0 _ ?side1 ?side2 A9.out).mono ?_); (case side1 => exact wHI0_spec_l1Cur_spoilt); (case side2 => exact wHB_spec_l1Cur_spoilt); rintro e w36 ⟨rfl, hi, hb, hk⟩; have n0_ := Aside0.mk (KeepBut.trans (wHK_spec_l1Cur_spoilt) hk (.inl rfl)); have n1_ := Aside0.mk (hb); have n2_ := Aside0.mk (hi); clear HK; clear HB; clear HI0; have HK := n0_; have HB := n1_; have HI0 := n2_; clear n0_ n1_ n2_; (try clear hb); (try clear hb2); (try clear hk); (try clear hi)) | (go_at_call 54; (with_reducible refine (spec_l1Cur_pick.calls g s0_0 t105 t106 (a2.size : Int) t107 t108 t109 w0 _ ?side1 ?side2 A10.out).mono ?_); (case side1 => exact wHI0_spec_l1Cur_spoilt); (case side2 => exact wHB_spec_l1Cur_spoilt); rintro e w37 ⟨rfl, hi, hb, hk⟩; have n0_ := Aside0.mk (KeepBut.trans (wHK_spec_l1Cur_spoilt) hk (.inl rfl)); have n1_ := Aside0.mk (hb); have n2_ := Aside0.mk (hi); clear HK; clear HB; clear HI0; have HK := n0_; have HB := n1_; have HI0 := n2_; clear n0_ n1_ n2_; (try clear hb); (try clear hb2); (try clear hk); (try clear hi); have p13 : 0 ≤ (t107 : Int) := oD; have q13 : t107 < (a2.size : Int) := oD; have hx13 := bt_at a2 t107; replace p13 := eq_true p13; replace q13 := eq_true q13) | ((with_reducible refine gate_dst (N := 32) rfl ?_); (try (refine gate_guard (by rfl) ?_; dsimp only)); refine Kd.R_lit (Kd.int .u8) _ 5 ?hg (N := 32) ?hd (xs := ([bt a2 t107] : List Int)) (inner := [.int .u8 (bt a2 t107)]) (ok := fun _ => True) (okp := fun _ => True) ?hr ?hp (fun _ hk => hk) trivial (Below.refl _ _) (Nat.le_refl _) (by simp) ?_; (case hd => rfl); (case hg => rfl); (case hr => first | (go_simp; done) | (go_simp; rfl)); (case hp => exact (Reps.one (show Kd.M (Kd.int .u8) _ _ _ (bt a2 t107) [.int .u8 (bt a2 t107)] from rfl) (Reps.none _ _))); intro v111 w38 ho39 hb hg_ hnew_; clear hg_ hnew_; (first | rw [← Ny110.out] at ho39 | (simp only [Int.reduceToNat] at ho39; rw [← Ny110.out] at ho39)); have n0_ := Aside0.mk (Kd.R_lower ho39 (keep_size (w := w) (g := g) (row := none) (wHK_spec_l1Cur_spoilt))); have n1_ := Aside0.mk (IsS81.below (wHI0_spec_l1Cur_spoilt) hb); have n2_ := Aside0.mk (KeepBut.trans (wHK_spec_l1Cur_spoilt) (KeepBut.of_below hb g none) (.inl rfl)); have n3_ := Aside0.mk (below_step (wHB_spec_l1Cur_spoilt) hb); clear HI0; clear HK; clear HB; have HO112 := n0_; have HI0 := n1_; have HK := n2_; have HB := n3_; clear n0_ n1_ n2_ n3_; clear hb ho39; have hcv40 := own_string (P := Tryz.prog) Tryz.underlying43 Tryz.underlying5 Tryz.underlying9 (Kd.own_of_R HO112.out)) | (go_at_call 54; (with_reducible refine (spec_l1Cur_pick.calls g s0_0 t108 t109 3 t113 t114 t115 w0 _ ?side1 ?side2 A14.out).mono ?_); (case side1 => exact wHI0_spec_l1Cur_spoilt); (case side2 => exact wHB_spec_l1Cur_spoilt); rintro e w41 ⟨rfl, hi, hb, hk⟩; have n0_ := Aside0.mk (Kd.R_mono (Kd.R_keep (IsS81.apart (show IsS81 w0 _ g s0_0 t108 t109 from wHI0_spec_l1Cur_spoilt) (rQ HO112) (by decide)) hk (fun _ h => h.2)) (fun _ h => h.1)); have n1_ := Aside0.mk (KeepBut.trans (wHK_spec_l1Cur_spoilt) hk (.inl rfl)); have n2_ := Aside0.mk (hb); have n3_ := Aside0.mk (hi); clear HO112; clear HK; clear HB; clear HI0; have HO112 := n0_; have HK := n1_; have HB := n2_; have HI0 := n3_; clear n0_ n1_ n2_ n3_; (try clear hb); (try clear hb2); (try clear hk); (try clear hi)))
     repeat (go_quiet (first | (go_at_call 54; (with_reducible refine (spec_l1Cur_pick.calls g s0_0 x1001_1 x1002_1 (x1_1.size : Int) t104 t105 t106 w0 _ ?side1 ?side2 A9.out).mono ?_); (case side1 => exact wHI0_spec_l1Cur_spoilt); (case side2 => exact wHB_spec_l1Cur_spoilt); rintro e w36 ⟨rfl, hi, hb, hk⟩; have n0_ := Aside0.mk (KeepBut.trans (wHK_spec_l1Cur_spoilt) hk (.inl rfl)); have n1_ := Aside0.mk (hb); have n2_ := Aside0.mk (hi); clear HK; clear HB; clear HI0; have HK := n0_; have HB := n1_; have HI0 := n2_; clear n0_ n1_ n2_; (try clear hb); (try clear hb2); (try clear hk); (try clear hi)) | (go_at_call 54; (with_reducible refine (spec_l1Cur_pick.calls g s0_0 t105 t106 (a2.size : Int) t107 t108 t109 w0 _ ?side1 ?side2 A10.out).mono ?_); (case side1 => exact wHI0_spec_l1Cur_spoilt); (case side2 => exact wHB_spec_l1Cur_spoilt); rintro e w37 ⟨rfl, hi, hb, hk⟩; have n0_ := Aside0.mk (KeepBut.trans (wHK_spec_l1Cur_spoilt) hk (.inl rfl)); have n1_ := Aside0.mk (hb); have n2_ := Aside0.mk (hi); clear HK; clear HB; clear HI0; have HK := n0_; have HB := n1_; have HI0 := n2_; clear n0_ n1_ n2_; (try clear hb); (try clear hb2); (try clear hk); (try clear hi); have p13 : 0 ≤ (t107 : Int) := oD; have q13 : t107 < (a2.size : Int) := oD; have hx13 := bt_at a2 t107; replace p13 := eq_true p13; replace q13 := eq_true q13) | ((with_reducible refine gate_dst (N := 32) rfl ?_); (try (refine gate_guard (by rfl) ?_; dsimp only)); refine Kd.R_lit (Kd.int .u8) _ 5 ?hg (N := 32) ?hd (xs := ([bt a2 t107] : List Int)) (inner := [.int .u8 (bt a2 t107)]) (ok := fun _ => True) (okp := fun _ => True) ?hr ?hp (fun _ hk => hk) trivial (Below.refl _ _) (Nat.le_refl _) (by simp) ?_; (case hd => rfl); (case hg => rfl); (case hr => first | (go_simp; done) | (go_simp; rfl)); (case hp => exact (Reps.one (show Kd.M (Kd.int .u8) _ _ _ (bt a2 t107) [.int .u8 (bt a2 t107)] from rfl) (Reps.none _ _))); intro v111 w38 ho39 hb hg_ hnew_; clear hg_ hnew_; (first | rw [← Ny110.out] at ho39 | (simp only [Int.reduceToNat] at ho39; rw [← Ny110.out] at ho39)); have n0_ := Aside0.mk (Kd.R_lower ho39 (keep_size (w := w) (g := g) (row := none) (wHK_spec_l1Cur_spoilt))); have n1_ := Aside0.mk (IsS81.below (wHI0_spec_l1Cur_spoilt) hb); have n2_ := Aside0.mk (KeepBut.trans (wHK_spec_l1Cur_spoilt) (KeepBut.of_below hb g none) (.inl rfl)); have n3_ := Aside0.mk (below_step (wHB_spec_l1Cur_spoilt) hb); clear HI0; clear HK; clear HB; have HO112 := n0_; have HI0 := n1_; have HK := n2_; have HB := n3_; clear n0_ n1_ n2_ n3_; clear hb ho39; have hcv40 := own_string (P := Tryz.prog) Tryz.underlying43 Tryz.underlying5 Tryz.underlying9 (Kd.own_of_R HO112.out)) | (go_at_call 54; (with_reducible refine (spec_l1Cur_pick.calls g s0_0 t108 t109 3 t113 t114 t115 w0 _ ?side1 ?side2 A14.out).mono ?_); (case side1 => exact wHI0_spec_l1Cur_spoilt); (case side2 => exact wHB_spec_l1Cur_spoilt); rintro e w41 ⟨rfl, hi, hb, hk⟩; have n0_ := Aside0.mk (Kd.R_mono (Kd.R_keep (IsS81.apart (show IsS81 w0 _ g s0_0 t108 t109 from wHI0_spec_l1Cur_spoilt) (rQ HO112) (by decide)) hk (fun _ h => h.2)) (fun _ h => h.1)); have n1_ := Aside0.mk (KeepBut.trans (wHK_spec_l1Cur_spoilt) hk (.inl rfl)); have n2_ := Aside0.mk (hb); have n3_ := Aside0.mk (hi); clear HO112; clear HK; clear HB; clear HI0; have HO112 := n0_; have HK := n1_; have HB := n2_; have HI0 := n3_; clear n0_ n1_ n2_ n3_; (try clear hb); (try clear hb2); (try clear hk); (try clear hi))); try go_wp2_with (first | (go_at_call 54; (with_reducible refine (spec_l1Cur_pick.calls g s0_0 x1001_1 x1002_1 (x1_1.size : Int) t104 t105 t106 w0 _ ?side1 ?side2 A9.out).mono ?_); (case side1 => exact wHI0_spec_l1Cur_spoilt); (case side2 => exact wHB_spec_l1Cur_spoilt); rintro e w36 ⟨rfl, hi, hb, hk⟩; have n0_ := Aside0.mk (KeepBut.trans (wHK_spec_l1Cur_spoilt) hk (.inl rfl)); have n1_ := Aside0.mk (hb); have n2_ := Aside0.mk (hi); clear HK; clear HB; clear HI0; have HK := n0_; have HB := n1_; have HI0 := n2_; clear n0_ n1_ n2_; (try clear hb); (try clear hb2); (try clear hk); (try clear hi)) | (go_at_call 54; (with_reducible refine (spec_l1Cur_pick.calls g s0_0 t105 t106 (a2.size : Int) t107 t108 t109 w0 _ ?side1 ?side2 A10.out).mono ?_); (case side1 => exact wHI0_spec_l1Cur_spoilt); (case side2 => exact wHB_spec_l1Cur_spoilt); rintro e w37 ⟨rfl, hi, hb, hk⟩; have n0_ := Aside0.mk (KeepBut.trans (wHK_spec_l1Cur_spoilt) hk (.inl rfl)); have n1_ := Aside0.mk (hb); have n2_ := Aside0.mk (hi); clear HK; clear HB; clear HI0; have HK := n0_; have HB := n1_; have HI0 := n2_; clear n0_ n1_ n2_; (try clear hb); (try clear hb2); (try clear hk); (try clear hi); have p13 : 0 ≤ (t107 : Int) := oD; have q13 : t107 < (a2.size : Int) := oD; have hx13 := bt_at a2 t107; replace p13 := eq_true p13; replace q13 := eq_true q13) | ((with_reducible refine gate_dst (N := 32) rfl ?_); (try (refine gate_guard (by rfl) ?_; dsimp only)); refine Kd.R_lit (Kd.int .u8) _ 5 ?hg (N := 32) ?hd (xs := ([bt a2 t107] : List Int)) (inner := [.int .u8 (bt a2 t107)]) (ok := fun _ => True) (okp := fun _ => True) ?hr ?hp (fun _ hk => hk) trivial (Below.refl _ _) (Nat.le_refl _) (by simp) ?_; (case hd => rfl); (case hg => rfl); (case hr => first | (go_simp; done) | (go_simp; rfl)); (case hp => exact (Reps.one (show Kd.M (Kd.int .u8) _ _ _ (bt a2 t107) [.int .u8 (bt a2 t107)] from rfl) (Reps.none _ _))); intro v111 w38 ho39 hb hg_ hnew_; clear hg_ hnew_; (first | rw [← Ny110.out] at ho39 | (simp only [Int.reduceToNat] at ho39; rw [← Ny110.out] at ho39)); have n0_ := Aside0.mk (Kd.R_lower ho39 (keep_size (w := w) (g := g) (row := none) (wHK_spec_l1Cur_spoilt))); have n1_ := Aside0.mk (IsS81.below (wHI0_spec_l1Cur_spoilt) hb); have n2_ := Aside0.mk (KeepBut.trans (wHK_spec_l1Cur_spoilt) (KeepBut.of_below hb g none) (.inl rfl)); have n3_ := Aside0.mk (below_step (wHB_spec_l1Cur_spoilt) hb); clear HI0; clear HK; clear HB; have HO112 := n0_; have HI0 := n1_; have HK := n2_; have HB := n3_; clear n0_ n1_ n2_ n3_; clear hb ho39; have hcv40 := own_string (P := Tryz.prog) Tryz.underlying43 Tryz.underlying5 Tryz.underlying9 (Kd.own_of_R HO112.out)) | (go_at_call 54; (with_reducible refine (spec_l1Cur_pick.calls g s0_0 t108 t109 3 t113 t114 t115 w0 _ ?side1 ?side2 A14.out).mono ?_); (case side1 => exact wHI0_spec_l1Cur_spoilt); (case side2 => exact wHB_spec_l1Cur_spoilt); rintro e w41 ⟨rfl, hi, hb, hk⟩; have n0_ := Aside0.mk (Kd.R_mono (Kd.R_keep (IsS81.apart (show IsS81 w0 _ g s0_0 t108 t109 from wHI0_spec_l1Cur_spoilt) (rQ HO112) (by decide)) hk (fun _ h => h.2)) (fun _ h => h.1)); have n1_ := Aside0.mk (KeepBut.trans (wHK_spec_l1Cur_spoilt) hk (.inl rfl)); have n2_ := Aside0.mk (hb); have n3_ := Aside0.mk (hi); clear HO112; clear HK; clear HB; clear HI0; have HO112 := n0_; have HK := n1_; have HB := n2_; have HI0 := n3_; clear n0_ n1_ n2_ n3_; (try clear hb); (try clear hb2); (try clear hk); (try clear hi))))
     go_roundg kj5
     case measure => have := HK1.out; have := HJ5.out; omega
     case rel => exact ⟨(((x1_1.extract 0 (t104 : Int).toNat) ++ (strOfNums y110)) ++ (x1_1.extract ((ji32) : Int).toNat x1_1.size)), (wrap64 (x7_1 - 1)), (t114), (t115), (by first | rfl | (simp; done) | (simp only [← hji32] <;> (first | rfl | simp)) | (simp [*]; done)), gR, H', ⟨by have := HK1.out; have := HJ5.out; omega⟩, ⟨wHI0_spec_l1Cur_spoilt⟩, ⟨wHK_spec_l1Cur_spoilt⟩, ⟨wHB_spec_l1Cur_spoilt⟩⟩
def spec_DrawParseCommittee.f (k : Nat) (l0 : List Int) : Option (ByteArray) := (spec_l1Cur_sureCommittee.f k l0 0 0 6).bind fun bt102 => ((spec_voText.f k bt102.1 bt102.2.1).bind fun t108 => ((spec_l1Cur_one.f l0 bt102.2.2.1 bt102.2.2.2 3).bind fun bt109 => (if bt109.1 = true then ((spec_l1Cur_spoilt.f k l0 bt109.2.1 bt109.2.2 t108 (⟨#[48, 49, 50, 51, 52, 53, 54, 58, 44]⟩ : ByteArray)).bind fun bt112 => (some bt112.1)) else (some t108))))
theorem wHI101_spec_DrawParseCommittee {p : Prop} (h : p := by repeat (first | (with_reducible first | exact HI101.out | apply IsS81.alloc | apply IsS81.drewN | apply IsS81.drew | apply IsS81.set_1 | apply IsS81.set_2) | exact HI101.out)) : p := h
theorem wHB_spec_DrawParseCommittee {p : Prop} (h : p := by repeat (first | (with_reducible first | exact HB.out | apply ba | apply bd | apply be | refine bs ?_ (IsS81.ge HI101.out)) | exact HB.out)) : p := h
theorem spec_DrawParseCommittee.calls (k : Nat) (A0 : Option Addr) (c0 : Nat) (l0 : List Int) (r : ByteArray) (w : World) (hr0 : Kd.C (Kd.int .u8) w A0 l0.length l0) (hc0 : l0.length ≤ c0) (h : spec_DrawParseCommittee.f k l0 = some r) :
  Calls Tryz.prog 26 #[.slice A0 l0.length c0] w fun e w' => e = .returned (.string r) ∧ Below w.heap.size w w' := by
 have hu81 := Tryz.underlying81
 have HR0 := Aside0.mk hr0
 have HC0 := Aside0.mk hc0
 clear hr0 hc0
 have HB := Aside0.mk (Below.refl w.heap.size w)
 have H := h
 unfold spec_DrawParseCommittee.f at H
 clear h
 replace H := oB H
 obtain ⟨⟨t102, t103, t106, t107⟩, A20, H⟩ := H
 replace H : ((spec_voText.f k t102 t103).bind fun t108 => ((spec_l1Cur_one.f l0 t106 t107 3).bind fun bt109 => (if bt109.1 = true then ((spec_l1Cur_spoilt.f k l0 bt109.2.1 bt109.2.2 t108 (⟨#[48, 49, 50, 51, 52, 53, 54, 58, 44]⟩ : ByteArray)).bind fun bt112 => (some bt112.1)) else (some t108)))) = some r := H
 have A2 := Aside0.mk A20
 clear A20
 replace H := oB H
 obtain ⟨t108, A30, H⟩ := H
 replace H : ((spec_l1Cur_one.f l0 t106 t107 3).bind fun bt109 => (if bt109.1 = true then ((spec_l1Cur_spoilt.f k l0 bt109.2.1 bt109.2.2 t108 (⟨#[48, 49, 50, 51, 52, 53, 54, 58, 44]⟩ : ByteArray)).bind fun bt112 => (some bt112.1)) else (some t108))) = some r := H
 have A3 := Aside0.mk A30
 clear A30
 replace H := oB H
 obtain ⟨⟨t109, t110, t111⟩, A40, H⟩ := H
 replace H : (if t109 = true then ((spec_l1Cur_spoilt.f k l0 t110 t111 t108 (⟨#[48, 49, 50, 51, 52, 53, 54, 58, 44]⟩ : ByteArray)).bind fun bt112 => (some bt112.1)) else (some t108)) = some r := H
 have A4 := Aside0.mk A40
 clear A40
 by_cases c5 : t109 = true
 rotate_left
 ·replace c5 := Bool.eq_false_iff.mpr c5
  subst c5
  replace H := iF H
  obtain rfl := Option.some.inj H
  go_enter Tryz.func26, Tryz.ntmps26
  go_wp2_with (first | ((with_reducible refine gate_dst (N := 7) rfl ?_); refine box_event ?hg (N := 7) ?hd (cs := #[.slice A0 l0.length c0, .int .i64 0, .int .u64 0]) (t := 81) ?hr ?_; (case hd => rfl); (case hg => rfl); (case hr => first | (go_simp; done) | (go_simp; rfl)); intro gb101 hg w13 hbox hb; have n0_ := sQ hb; have n1_ := Aside0.mk (hbox); have n2_ := Aside0.mk ((by rw [hg]; exact (below_size (wB)) : w.heap.size ≤ gb101)); have n3_ := Aside0.mk ((by rw [hg]; exact (below_size (wB)) : w.heap.size ≤ gb101)); have n4_ := Aside0.mk ((show IsS81 w _ gb101 l0 0 0 from ⟨A0, c0, hbox, (by rw [hg]; exact (below_size (wB))), HR0.out⟩)); clear HB; have HB := n0_; have BK101 := n1_; have GW101 := n2_; have GE101 := n3_; have HI101 := n4_; clear n0_ n1_ n2_ n3_ n4_; clear hb hbox hg) | ((with_reducible refine gate_callee (f := 57) rfl ?_); refine gL 9 Tryz.func57 #[.pointer (some ⟨gb101, 0, none⟩), .int .i64 6] ?_; (with_reducible refine (spec_l1Cur_sureCommittee.calls k gb101 l0 0 0 6 t102 t103 t106 t107 w _ ?side1 ?side2 A2.out).mono ?_); (case side1 => exact wHI101_spec_DrawParseCommittee); (case side2 => exact wHB_spec_DrawParseCommittee); rintro e w14 ⟨v104, rfl, ho0, hi, hb, hk⟩; refine ⟨_, rfl, ?_⟩; have n0_ := Aside0.mk (Kd.R_lower ho0 (below_size (wHB_spec_DrawParseCommittee))); have n1_ := Aside0.mk (hb); have n2_ := Aside0.mk (hi); clear HB; clear HI101; have HO105 := n0_; have HB := n1_; have HI101 := n2_; clear n0_ n1_ n2_; (try clear hb); (try clear hb2); (try clear hk); (try clear hi); (try clear ho0); obtain ⟨Ao15, co15, eo15⟩ := Kd.R_slice HO105.out; subst eo15) | ((with_reducible refine gate_callee (f := 43) rfl ?_); refine gL 10 Tryz.func43 #[.agg #[.int .i64 t102, .slice Ao15 t103.length co15]] ?_; (with_reducible refine (spec_voText.calls k t102 _ _ t103 t108 _ ?side1 ?side2 A3.out).mono ?_); (case side1 => have hx_ := (Kd.R_reads' HO105.out).2.2; exact cC); (case side2 => exact (Kd.R_reads' HO105.out).2.1); rintro e w16 ⟨rfl, hb⟩; refine ⟨_, rfl, ?_⟩; have n0_ := rP HO105 hb; have n1_ := Aside0.mk (IsS81.below (wHI101_spec_DrawParseCommittee) hb); have n2_ := Aside0.mk (below_step (wHB_spec_DrawParseCommittee) hb); clear HO105; clear HI101; clear HB; have HO105 := n0_; have HI101 := n1_; have HB := n2_; clear n0_ n1_ n2_; (try clear hb); (try clear hb2); (try clear hk); (try clear hi)) | ((with_reducible refine gate_callee (f := 55) rfl ?_); refine gL 12 Tryz.func55 #[.pointer (some ⟨gb101, 0, none⟩), .int .i64 3] ?_; (with_reducible refine (spec_l1Cur_one.calls gb101 l0 t106 t107 3 false t110 t111 w _ ?side1 ?side2 A4.out).mono ?_); (case side1 => exact wHI101_spec_DrawParseCommittee); (case side2 => exact wHB_spec_DrawParseCommittee); rintro e w17 ⟨rfl, hi, hb, hk⟩; refine ⟨_, rfl, ?_⟩; have n0_ := Aside0.mk (Kd.R_mono (Kd.R_keep (IsS81.apart (show IsS81 w _ gb101 l0 t106 t107 from wHI101_spec_DrawParseCommittee) (rQ HO105) (by decide)) hk (fun _ h => h.2)) (fun _ h => h.1)); have n1_ := Aside0.mk (hb); have n2_ := Aside0.mk (hi); clear HO105; clear HB; clear HI101; have HO105 := n0_; have HB := n1_; have HI101 := n2_; clear n0_ n1_ n2_; (try clear hb); (try clear hb2); (try clear hk); (try clear hi)))
  go_ret
  exact ⟨fR, wHB_spec_DrawParseCommittee⟩
 subst c5
 replace H := iT H
 replace H := oB H
 obtain ⟨⟨t112, t113, t114⟩, A60, H⟩ := H
 replace H : (some t112) = some r := H
 have A6 := Aside0.mk A60
 clear A60
 obtain rfl := Option.some.inj H
 go_enter Tryz.func26, Tryz.ntmps26
 go_wp2_with (first | ((with_reducible refine gate_dst (N := 7) rfl ?_); refine box_event ?hg (N := 7) ?hd (cs := #[.slice A0 l0.length c0, .int .i64 0, .int .u64 0]) (t := 81) ?hr ?_; (case hd => rfl); (case hg => rfl); (case hr => first | (go_simp; done) | (go_simp; rfl)); intro gb101 hg w7 hbox hb; have n0_ := sQ hb; have n1_ := Aside0.mk (hbox); have n2_ := Aside0.mk ((by rw [hg]; exact (below_size (wB)) : w.heap.size ≤ gb101)); have n3_ := Aside0.mk ((by rw [hg]; exact (below_size (wB)) : w.heap.size ≤ gb101)); have n4_ := Aside0.mk ((show IsS81 w _ gb101 l0 0 0 from ⟨A0, c0, hbox, (by rw [hg]; exact (below_size (wB))), HR0.out⟩)); clear HB; have HB := n0_; have BK101 := n1_; have GW101 := n2_; have GE101 := n3_; have HI101 := n4_; clear n0_ n1_ n2_ n3_ n4_; clear hb hbox hg) | ((with_reducible refine gate_callee (f := 57) rfl ?_); refine gL 9 Tryz.func57 #[.pointer (some ⟨gb101, 0, none⟩), .int .i64 6] ?_; (with_reducible refine (spec_l1Cur_sureCommittee.calls k gb101 l0 0 0 6 t102 t103 t106 t107 w _ ?side1 ?side2 A2.out).mono ?_); (case side1 => exact wHI101_spec_DrawParseCommittee); (case side2 => exact wHB_spec_DrawParseCommittee); rintro e w8 ⟨v104, rfl, ho0, hi, hb, hk⟩; refine ⟨_, rfl, ?_⟩; have n0_ := Aside0.mk (Kd.R_lower ho0 (below_size (wHB_spec_DrawParseCommittee))); have n1_ := Aside0.mk (hb); have n2_ := Aside0.mk (hi); clear HB; clear HI101; have HO105 := n0_; have HB := n1_; have HI101 := n2_; clear n0_ n1_ n2_; (try clear hb); (try clear hb2); (try clear hk); (try clear hi); (try clear ho0); obtain ⟨Ao9, co9, eo9⟩ := Kd.R_slice HO105.out; subst eo9) | ((with_reducible refine gate_callee (f := 43) rfl ?_); refine gL 10 Tryz.func43 #[.agg #[.int .i64 t102, .slice Ao9 t103.length co9]] ?_; (with_reducible refine (spec_voText.calls k t102 _ _ t103 t108 _ ?side1 ?side2 A3.out).mono ?_); (case side1 => have hx_ := (Kd.R_reads' HO105.out).2.2; exact cC); (case side2 => exact (Kd.R_reads' HO105.out).2.1); rintro e w10 ⟨rfl, hb⟩; refine ⟨_, rfl, ?_⟩; have n0_ := rP HO105 hb; have n1_ := Aside0.mk (IsS81.below (wHI101_spec_DrawParseCommittee) hb); have n2_ := Aside0.mk (below_step (wHB_spec_DrawParseCommittee) hb); clear HO105; clear HI101; clear HB; have HO105 := n0_; have HI101 := n1_; have HB := n2_; clear n0_ n1_ n2_; (try clear hb); (try clear hb2); (try clear hk); (try clear hi)) | ((with_reducible refine gate_callee (f := 55) rfl ?_); refine gL 12 Tryz.func55 #[.pointer (some ⟨gb101, 0, none⟩), .int .i64 3] ?_; (with_reducible refine (spec_l1Cur_one.calls gb101 l0 t106 t107 3 true t110 t111 w _ ?side1 ?side2 A4.out).mono ?_); (case side1 => exact wHI101_spec_DrawParseCommittee); (case side2 => exact wHB_spec_DrawParseCommittee); rintro e w11 ⟨rfl, hi, hb, hk⟩; refine ⟨_, rfl, ?_⟩; have n0_ := Aside0.mk (Kd.R_mono (Kd.R_keep (IsS81.apart (show IsS81 w _ gb101 l0 t106 t107 from wHI101_spec_DrawParseCommittee) (rQ HO105) (by decide)) hk (fun _ h => h.2)) (fun _ h => h.1)); have n1_ := Aside0.mk (hb); have n2_ := Aside0.mk (hi); clear HO105; clear HB; clear HI101; have HO105 := n0_; have HB := n1_; have HI101 := n2_; clear n0_ n1_ n2_; (try clear hb); (try clear hb2); (try clear hk); (try clear hi)) | ((with_reducible refine gate_callee (f := 58) rfl ?_); refine gL 15 Tryz.func58 #[.pointer (some ⟨gb101, 0, none⟩), .string t108, .string (⟨#[48, 49, 50, 51, 52, 53, 54, 58, 44]⟩ : ByteArray)] ?_; (with_reducible refine (spec_l1Cur_spoilt.calls k gb101 l0 t110 t111 t108 (⟨#[48, 49, 50, 51, 52, 53, 54, 58, 44]⟩ : ByteArray) t112 t113 t114 w _ ?side1 ?side2 A6.out).mono ?_); (case side1 => exact wHI101_spec_DrawParseCommittee); (case side2 => exact wHB_spec_DrawParseCommittee); rintro e w12 ⟨rfl, hi, hb, hk⟩; refine ⟨_, rfl, ?_⟩; have n0_ := Aside0.mk (Kd.R_mono (Kd.R_keep (IsS81.apart (show IsS81 w _ gb101 l0 t110 t111 from wHI101_spec_DrawParseCommittee) (rQ HO105) (by decide)) hk (fun _ h => h.2)) (fun _ h => h.1)); have n1_ := Aside0.mk (hb); have n2_ := Aside0.mk (hi); clear HO105; clear HB; clear HI101; have HO105 := n0_; have HB := n1_; have HI101 := n2_; clear n0_ n1_ n2_; (try clear hb); (try clear hb2); (try clear hk); (try clear hi)))
 go_ret
 exact ⟨fR, wHB_spec_DrawParseCommittee⟩
end Go.Proofs.YtaambkdiokbdgacGreatDoor.Q
namespace Go.Proofs.YtaambkdiokbdgacGreatDoor.Q
open Go.RowKit Go.Proofs.YtaambkdiokbdgacGreatDoorX Go.Proofs.YtaambkdiokbdgacGreatDoorY Go.Proofs.YtaambkdiokbdgacGreatDoorX Go.Proofs.YtaambkdiokbdgacGreatDoorW.PrintWords Go.Proofs.YtaambkdiokbdgacGreatDoorW.PrintLast Go.Proofs.YtaambkdiokbdgacGreatDoorW.PrintMore
attribute [local go_sem] max2_int min2_int max_two min_two max_three min_three max_four min_four   -- for this text's walks alone
set_option linter.unusedVariables false
set_option linter.unusedSimpArgs false
mutual
def laws_FnCommitteesChange.j1 : Nat → List Int → Option (Bool)
 | 0, _ => none
 | k + 1, x1 => (spec_DrawDropMember.f k x1).bind fun bt141 => ((impl_DropMember.f k bt141.1 bt141.2.1 bt141.2.2).bind fun bt147 => ((spec_DropMember.f k bt141.1 bt141.2.1 bt141.2.2).bind fun bt153 => ((spec_DrawAreSameVotes.f k x1).bind fun bt159 => ((impl_AreSameVotes.f k bt159.1 bt159.2.1 bt159.2.2.1 bt159.2.2.2).bind fun bt169 => ((spec_AreSameVotes.f k bt159.1 bt159.2.1 bt159.2.2.1 bt159.2.2.2).bind fun bt171 => ((spec_DrawCommitteeText.f k x1).bind fun bt173 => ((impl_CommitteeText.f k bt173.1 bt173.2).bind fun bt178 => ((spec_CommitteeText.f k bt173.1 bt173.2).bind fun bt180 => ((spec_DrawParseCommittee.f k x1).bind fun t182 => ((impl_ParseCommittee.f k t182).bind fun bt183 => ((spec_ParseCommittee.f k t182).bind fun bt189 => (if (bt147.2.2 != bt153.2.2) = true then (none) else ((laws_mCommittee.f k bt147.1 bt147.2.1 bt153.1 bt153.2.1).bind fun t195 => (if t195 = true then (if (bt169.2 != bt171.2) = true then (none) else (if (bt169.1 != bt171.1) = true then (none) else (if (bt178.2 != bt180.2) = true then (none) else (if bt178.1.toList = bt180.1.toList then (if (bt183.2.2 != bt189.2.2) = true then (none) else ((laws_mCommittee.f k bt183.1 bt183.2.1 bt189.1 bt189.2.1).bind fun t196 => (if t196 = true then ((impl_IsCommittee.f k bt173.1 bt173.2).bind fun t197 => (if (bt178.2 != t197) = true then (none) else (if bt147.2.2 = true then ((laws_mSum.f k bt147.2.1).bind fun t198 => (if 0 ≤ bt141.2.2 then (if bt141.2.2 < (bt141.2.1.length : Int) then ((laws_mSum.f k bt141.2.1).bind fun t200 => (if (wrap64 (t198 + (rd bt141.2.1 bt141.2.2))) = t200 then (if (bt147.2.1.length : Int) = (wrap64 ((bt141.2.1.length : Int) - 1)) then (laws_FnCommitteesChange.j2 k bt169.1 bt169.2 bt178.1 bt178.2 t182 bt183.2.2 (bt147.1 != bt141.1) bt159.1 bt159.2.1 bt159.2.2.1 bt159.2.2.2 bt173.1 bt173.2 bt183.1 bt183.2.1) else (none)) else (none))) else (none)) else (none))) else (laws_FnCommitteesChange.j2 k bt169.1 bt169.2 bt178.1 bt178.2 t182 bt183.2.2 false bt159.1 bt159.2.1 bt159.2.2.1 bt159.2.2.2 bt173.1 bt173.2 bt183.1 bt183.2.1)))) else (none)))) else (none))))) else (none)))))))))))))))
def laws_FnCommitteesChange.j2 : Nat → Bool → Bool → ByteArray → Bool → ByteArray → Bool → Bool → Int → List Int → Int → List Int → Int → List Int → Int → List Int → Option (Bool)
 | 0, _, _, _, _, _, _, _, _, _, _, _, _, _, _, _ => none
 | k + 1, x29, x30, x34, x35, x38, x40, x283, x168000, x168001, x169000, x169001, x178000, x178001, x189000, x189001 => if x283 = true then (none) else (if x30 = true then ((impl_LeastWinning.f k x168000 x168001).bind fun bt201 => ((impl_LeastWinning.f k x169000 x169001).bind fun bt205 => ((impl_AreSameVotes.f k x169000 x169001 x168000 x168001).bind fun bt209 => (if bt201.2 = true then (if bt205.2 = true then (if (x168001.length : Int) = (x169001.length : Int) then ((laws_mSets.f k bt201.1 bt205.1).bind fun t211 => (if (x29 != t211) = true then (none) else (if bt209.2 = true then (if (bt209.1 != x29) = true then (none) else (laws_FnCommitteesChange.j3 k x34 x35 x38 x40 x178000 x178001 x189000 x189001)) else (none)))) else (if (x29 != false) = true then (none) else (if bt209.2 = true then (if (bt209.1 != x29) = true then (none) else (laws_FnCommitteesChange.j3 k x34 x35 x38 x40 x178000 x178001 x189000 x189001)) else (none)))) else (none)) else (none))))) else (laws_FnCommitteesChange.j3 k x34 x35 x38 x40 x178000 x178001 x189000 x189001))
def laws_FnCommitteesChange.j3 : Nat → ByteArray → Bool → ByteArray → Bool → Int → List Int → Int → List Int → Option (Bool)
 | 0, _, _, _, _, _, _, _, _ => none
 | k + 1, x34, x35, x38, x40, x178000, x178001, x189000, x189001 => if x35 = true then ((impl_ParseCommittee.f k x34).bind fun bt212 => (if bt212.2.2 = true then ((laws_mCommittee.f k bt212.1 bt212.2.1 x178000 x178001).bind fun t218 => (if t218 = true then (if x40 = true then ((impl_CommitteeText.f k x189000 x189001).bind fun bt219 => (if bt219.2 = true then (some (bt219.1.toList == x38.toList)) else (none))) else (some true)) else (none))) else (none))) else (if x40 = true then ((impl_CommitteeText.f k x189000 x189001).bind fun bt221 => (if bt221.2 = true then (some (bt221.1.toList == x38.toList)) else (none))) else (some true))
def laws_FnCommitteesChange.l0 : Nat → List Int → List Int → List Int → Int → Int → Int → List Int → Int → List Int → Option (Bool)
 | 0, _, _, _, _, _, _, _, _, _ => none
 | k + 1, x1, x12, x87, x88, x89, x110000, x110001, x116000, x116001 => if x89 < x88 then (if 0 ≤ x89 then (if x89 < (x87.length : Int) then (if 0 ≤ (rd x87 x89) then (if (rd x87 x89) < (x12.length : Int) then (if x89 < (x116001.length : Int) then (if (rd x87 x89) < (x110001.length : Int) then (if (rd x116001 x89) = (rd x110001 (rd x87 x89)) then (laws_FnCommitteesChange.l0 k x1 (x12.set ((rd x87 x89) : Int).toNat x89) x87 x88 (wrap64 (x89 + 1)) x110000 x110001 x116000 x116001) else (none)) else (none)) else (none)) else (none)) else (none)) else (none)) else (none)) else ((impl_RenameCommittee.f k x116000 x116001 x12).bind fun bt130 => ((impl_CountWinning.f k x110000 x110001).bind fun bt136 => ((impl_CountWinning.f k x116000 x116001).bind fun bt138 => (if bt130.2.2 = true then ((laws_mCommittee.f k bt130.1 bt130.2.1 x110000 x110001).bind fun t140 => (if t140 = true then (if bt136.2 = true then (if bt138.2 = true then (if bt136.1 = bt138.1 then (laws_FnCommitteesChange.j1 k x1) else (none)) else (none)) else (none)) else (none))) else (none)))))
end
def laws_FnCommitteesChange.f (k : Nat) (l0 : List Int) (l1 : List Int) : Option (Bool) := (laws_big.f l0 l1).bind fun t101 => (if t101 = true then (some true) else ((spec_DrawRenameCommittee.f k l0).bind fun bt102 => ((impl_RenameCommittee.f k bt102.1 bt102.2.1 bt102.2.2).bind fun bt110 => ((spec_RenameCommittee.f k bt102.1 bt102.2.1 bt102.2.2).bind fun bt116 => (if (bt110.2.2 != bt116.2.2) = true then (none) else ((laws_mCommittee.f k bt110.1 bt110.2.1 bt116.1 bt116.2.1).bind fun t122 => (if t122 = true then (if bt110.2.2 = true then (if 0 ≤ (bt102.2.2.length : Int) then (if ((bt102.2.2.length : Int) : Int).toNat ≤ 35184372088832 then (laws_FnCommitteesChange.l0 k l1 (List.replicate ((bt102.2.2.length : Int) : Int).toNat 0) bt102.2.2 (bt102.2.2.length : Int) 0 bt102.1 bt102.2.1 bt110.1 bt110.2.1) else (none)) else (none)) else (laws_FnCommitteesChange.j1 k l1)) else (none))))))))
def laws_FnCommitteesChange.T15 : Bool × List (List Nat × List Nat) := (true, [([], []), ([0], [0]), ([], []), ([1, 2], [1, 2]), ([3], [3]), ([], []), ([5], [5]), ([], []), ([6, 7], [6, 7]), ([8], [8]), ([4, 9], [4, 9])])
def laws_FnCommitteesChange.B15 : List Nat := [0, 1, 0, 7, 15, 0, 32, 0, 224, 480, 1023]
theorem laws_FnCommitteesChange.tab15 : rtab .any (opsOf Tryz.f4 15) = laws_FnCommitteesChange.T15 := by kernel_rfl
theorem laws_FnCommitteesChange.bits15 : waitsOk laws_FnCommitteesChange.T15.2 laws_FnCommitteesChange.B15 = true := by kernel_rfl
def laws_FnCommitteesChange.T37 : Bool × List (List Nat × List Nat) := (true, [([], []), ([0], [0]), ([1], [1]), ([2, 1], [1, 2]), ([3, 1, 1], [1, 3]), ([1], [1]), ([5, 1], [1, 5]), ([1], [1]), ([6, 7, 1], [1, 6, 7]), ([8, 1], [1, 8]), ([4, 9, 1], [1, 4, 9]), ([1], [1]), ([11, 1], [1, 11]), ([12, 4, 1], [1, 12]), ([10, 13, 1], [1, 10, 13]), ([14, 13, 1], [1, 14]), ([15], [15]), ([16, 15], [15, 16]), ([17, 15], [15, 17]), ([15], [15]), ([19, 15], [15, 19]), ([20, 15], [15, 20]), ([21, 15], [15, 21]), ([18, 22, 15], [15, 18, 22]), ([15, 23, 1], [1, 15, 23]), ([24, 15, 1], [1, 24]), ([25], [25]), ([26, 25], [25, 26]), ([25], [25]), ([28, 25], [25, 28]), ([27, 29, 25], [25, 27, 29]), ([25, 30, 1], [1, 25, 30]), ([1, 31], [1, 31])])
def laws_FnCommitteesChange.B37 : List Nat := [0, 1, 3, 7, 15, 3, 35, 3, 227, 483, 1023, 3, 2051, 6175, 16383, 32767, 65535, 131071, 262143, 65535, 589823, 1638399, 3735551, 8388607, 16777215, 33554431, 67108863, 134217727, 67108863, 335544319, 1073741823, 2147483647, 4294967295]
theorem laws_FnCommitteesChange.tab37 : rtab .any (opsOf Tryz.f4 37) = laws_FnCommitteesChange.T37 := by kernel_rfl
theorem laws_FnCommitteesChange.bits37 : waitsOk laws_FnCommitteesChange.T37.2 laws_FnCommitteesChange.B37 = true := by kernel_rfl
end Go.Proofs.YtaambkdiokbdgacGreatDoor.Q
