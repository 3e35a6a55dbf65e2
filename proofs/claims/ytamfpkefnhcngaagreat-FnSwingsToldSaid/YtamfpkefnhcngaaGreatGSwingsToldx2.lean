/- Printed functions, their contracts and plain facts on them: QSpecL1All; QSpecVoGood; QSpecVoWeight; QSpecVoAll; QSpecVoWins; QSpecPwSwings; QSpecPwCounts; QSpecSwingsOf; QImplGcd; QImplShareOf; QImplSharesOf; QImplSwingP. Conditions: as each theorem states. -/
import Derived.Test.YtamfpkefnhcngaaGreatGSwingsToldx1
set_option maxHeartbeats 40000000
set_option maxRecDepth 100000
namespace Go.Proofs.YtamfpkefnhcngaaGreat.Q
open Go.RowKit Go.Proofs.YtamfpkefnhcngaaGreatX Go.Proofs.YtamfpkefnhcngaaGreatY Go.Proofs.YtamfpkefnhcngaaGreatX Go.Proofs.YtamfpkefnhcngaaGreatW.PrintWords Go.Proofs.YtamfpkefnhcngaaGreatW.PrintLast Go.Proofs.YtamfpkefnhcngaaGreatW.PrintMore
attribute [local go_sem] max2_int min2_int max_two min_two max_three min_three max_four min_four   -- for this text's walks alone
set_option linter.unusedVariables false
set_option linter.unusedSimpArgs false
def spec_l1All.l0 : Nat → Int → Int → List Int → Int → Int → Option (Bool)
 | 0, _, _, _, _, _ => none
 | k + 1, x1, x2, x9, x10, x11 => if x11 < x10 then (if 0 ≤ x11 then (if x11 < (x9.length : Int) then ((spec_l1In.f (rd x9 x11) x1 x2).bind fun t102 => (if t102 = true then (spec_l1All.l0 k x1 x2 x9 x10 (wrap64 (x11 + 1))) else (some false))) else (none)) else (none)) else (some true)
def spec_l1All.f (k : Nat) (l0 : List Int) (a1 : Int) (a2 : Int) : Option (Bool) := spec_l1All.l0 k a1 a2 l0 (l0.length : Int) 0
theorem spec_l1All.calls (k : Nat) (A0 : Option Addr) (c0 : Nat) (l0 : List Int) (a1 : Int) (a2 : Int) (r : Bool) (w : World) (hr0 : Kd.C (Kd.int .i64) w A0 l0.length l0) (hc0 : l0.length ≤ c0) (h : spec_l1All.f k l0 a1 a2 = some r) :
  Calls Tryz.prog 198 #[.slice A0 l0.length c0, .int .i64 a1, .int .i64 a2] w fun e w' => e = .returned (.bool r) ∧ Drawn0 w w' := by
 have HR0 := Aside0.mk hr0
 have HC0 := Aside0.mk hc0
 clear hr0 hc0
 have H := h
 unfold spec_l1All.f at H
 clear h
 have H' := Aside0.mk H
 clear H
 go_enter Tryz.func198, Tryz.ntmps198
 go_wp2
 go_loopg [11] k (fun kq v11 w' => ∃ (x11_1 : Int), v11 = .int .i64 x11_1 ∧ Aside0 (spec_l1All.l0 kq a1 a2 l0 (l0.length : Int) x11_1 = some r) ∧ Aside0 (kq ≤ k) ∧ Drawn0 w w')
 case atStart => exact ⟨(0), gR, H', ⟨Nat.le_refl _⟩, dS⟩
 case round =>
  clear H'
  (try clear c1); (try clear p2)
  obtain ⟨x11_1, rfl, HA, HK1, ⟨m1, rfl⟩⟩ := hrel
  cases gk with
  | zero => exact absurd HA.out (by simp [spec_l1All.l0])
  | succ k1 =>
   have H := HA.out
   clear HA
   simp only [spec_l1All.l0] at H
   by_cases c4 : x11_1 < (l0.length : Int)
   rotate_left
   ·rw [if_neg c4] at H
    have c4b0 : decide (x11_1 < (l0.length : Int)) = false := decide_eq_false c4
    clear c4
    obtain rfl := Option.some.inj H
    go_wp2
    go_ret
    exact ⟨by first | rfl | (simp; done) | (simp [*]; done), dS⟩
   rw [if_pos c4] at H
   have c4b0 := decide_eq_true c4
   clear c4
   by_cases c5 : 0 ≤ x11_1
   rotate_left
   ·rw [if_neg c5] at H
    exact absurd H (by simp)
   rw [if_pos c5] at H
   have c5b0 := decide_eq_true c5
   clear c5
   by_cases c6 : x11_1 < (l0.length : Int)
   rotate_left
   ·rw [if_neg c6] at H
    exact absurd H (by simp)
   rw [if_pos c6] at H
   have c6b0 := decide_eq_true c6
   clear c6
   replace H := oA H
   obtain ⟨t102, A7, H⟩ := H
   (try dsimp only at H)
   by_cases c8 : t102 = true
   rotate_left
   ·replace c8 := Bool.eq_false_iff.mpr c8
    subst c8
    replace H := iF H
    obtain rfl := Option.some.inj H
    have p101 : 0 ≤ (x11_1 : Int) := oD
    have q101 : x11_1 < (l0.length : Int) := oD
    obtain ⟨ad101, e101, hx101_0⟩ := Kd.at_int HR0.out x11_1 p101 q101
    cases e101
    replace p101 := eq_true p101
    replace q101 := eq_true q101
    go_wp2_with (first | ((with_reducible refine gate_callee (f := 156) rfl ?_); refine gL 18 Tryz.func156 #[.int .i64 (rd l0 x11_1), .int .i64 a1, .int .i64 a2] ?_; (with_reducible refine (spec_l1In.calls (rd l0 x11_1) a1 a2 false _ A7.out).mono ?_); rintro e w' ⟨rfl, ⟨nd, rfl⟩⟩; refine ⟨_, rfl, ?_⟩))
    go_ret
    exact ⟨by first | rfl | (simp; done) | (simp [*]; done), dS⟩
   subst c8
   replace H := iT H
   have H' := Aside0.mk H
   clear H
   have p101 : 0 ≤ (x11_1 : Int) := oD
   have q101 : x11_1 < (l0.length : Int) := oD
   obtain ⟨ad101, e101, hx101_0⟩ := Kd.at_int HR0.out x11_1 p101 q101
   cases e101
   replace p101 := eq_true p101
   replace q101 := eq_true q101
   go_wp2_with (first | ((with_reducible refine gate_callee (f := 156) rfl ?_); refine gL 18 Tryz.func156 #[.int .i64 (rd l0 x11_1), .int .i64 a1, .int .i64 a2] ?_; (with_reducible refine (spec_l1In.calls (rd l0 x11_1) a1 a2 true _ A7.out).mono ?_); rintro e w' ⟨rfl, ⟨nd, rfl⟩⟩; refine ⟨_, rfl, ?_⟩))
   go_roundg k1
   case measure => have := HK1.out; omega
   case rel => exact ⟨(wrap64 (x11_1 + 1)), gR, H', ⟨by have := HK1.out; omega⟩, dS⟩
def spec_voGood.j0 : Nat → Bool → Int → List Int → Option (Bool)
 | 0, _, _, _ => none
 | k + 1, x13, x102000, x102001 => if x13 = true then (some false) else ((spec_voSum.f k x102001).bind fun t104 => ((spec_l1In.f x102000 1 t104).bind fun t105 => (some t105)))
def spec_voGood.f (k : Nat) (a0_0 : Int) (l0_1 : List Int) : Option (Bool) := (spec_l1In.f (l0_1.length : Int) 1 9).bind fun t102 => (if t102 = true then ((spec_l1All.f k l0_1 0 1000).bind fun t103 => (spec_voGood.j0 k (!t103) a0_0 l0_1)) else (spec_voGood.j0 k true a0_0 l0_1))
theorem spec_voGood.calls (k : Nat) (a0_0 : Int) (A0_1 : Option Addr) (c0_1 : Nat) (l0_1 : List Int) (r : Bool) (w : World) (hr0_1 : Kd.C (Kd.int .i64) w A0_1 l0_1.length l0_1) (hc0_1 : l0_1.length ≤ c0_1) (h : spec_voGood.f k a0_0 l0_1 = some r) :
  Calls Tryz.prog 129 #[.agg #[.int .i64 a0_0, .slice A0_1 l0_1.length c0_1]] w fun e w' => e = .returned (.bool r) ∧ Below w.heap.size w w' := by
 have hu26 := Tryz.underlying26
 have HR0_1 := Aside0.mk hr0_1
 have HC0_1 := Aside0.mk hc0_1
 clear hr0_1 hc0_1
 have HB := Aside0.mk (Below.refl w.heap.size w)
 have H := h
 unfold spec_voGood.f at H
 clear h
 have HC2 := Aside0.mk H
 clear H
 go_enter Tryz.func129, Tryz.ntmps129
 go_upto_region 1 with (first | ((with_reducible refine gate_dst (N := 1) rfl ?_); refine xE (N := 1) (cs := #[.int .i64 a0_0, .slice A0_1 l0_1.length c0_1]) (t := 26) ?_; intro gb101 hg w3 BK101 hb; have GW101 := gS hg HB; have GE101 := gS hg HB; replace HB := sB HB hb; clear hb hg))
 repeat (go_quiet (first | ((with_reducible refine gate_dst (N := 1) rfl ?_); refine xE (N := 1) (cs := #[.int .i64 a0_0, .slice A0_1 l0_1.length c0_1]) (t := 26) ?_; intro gb101 hg w3 BK101 hb; have GW101 := gS hg HB; have GE101 := gS hg HB; replace HB := sB HB hb; clear hb hg)); go_upto_region 1 with (first | ((with_reducible refine gate_dst (N := 1) rfl ?_); refine xE (N := 1) (cs := #[.int .i64 a0_0, .slice A0_1 l0_1.length c0_1]) (t := 26) ?_; intro gb101 hg w3 BK101 hb; have GW101 := gS hg HB; have GE101 := gS hg HB; replace HB := sB HB hb; clear hb hg)))
 (try simp only [Act.put, sA, sZ, sS])
 go_cut [13] (fun v13 wc => ∃ (kq : Nat) (x13_1 : Bool), v13 = .bool x13_1 ∧ Aside0 (spec_voGood.j0 kq x13_1 a0_0 l0_1 = some r) ∧ Aside0 (kq ≤ k) ∧ Aside0 (wc.heap[gb101]? = some (.cells #[.int .i64 a0_0, (.slice A0_1 l0_1.length c0_1)] 26 (0, 0))) ∧ Aside0 (Below w.heap.size w wc))
 case first =>
  have H := HC2.out
  clear HC2
  replace H := oA H
  obtain ⟨t102, A4, H⟩ := H
  (try dsimp only at H)
  by_cases c5 : t102 = true
  rotate_left
  ·replace c5 := Bool.eq_false_iff.mpr c5
   subst c5
   replace H := iF H
   have H' := Aside0.mk H
   clear H
   obtain ⟨hcz8_0, hcz8_1, hfz8_0, hfz8_1⟩ := zZ BK101
   go_wp2_with (first | (go_at_call 156; (with_reducible refine (spec_l1In.calls (l0_1.length : Int) 1 9 false _ A4.out).mono ?_); rintro e w' ⟨rfl, ⟨nd, rfl⟩⟩; (try exact dR)))
   repeat (go_quiet (first | (go_at_call 156; (with_reducible refine (spec_l1In.calls (l0_1.length : Int) 1 9 false _ A4.out).mono ?_); rintro e w' ⟨rfl, ⟨nd, rfl⟩⟩; (try exact dR))); try go_wp2_with (first | (go_at_call 156; (with_reducible refine (spec_l1In.calls (l0_1.length : Int) 1 9 false _ A4.out).mono ?_); rintro e w' ⟨rfl, ⟨nd, rfl⟩⟩; (try exact dR))))
   go_meet
   case rel => exact ⟨_, (true), gR, H', ⟨by first | omega | exact Nat.le_refl _⟩, ⟨bQ BK101⟩, ⟨wB⟩⟩
  subst c5
  replace H := iT H
  replace H := oA H
  obtain ⟨t103, A6, H⟩ := H
  (try dsimp only at H)
  have H' := Aside0.mk H
  clear H
  obtain ⟨hcz7_0, hcz7_1, hfz7_0, hfz7_1⟩ := zZ BK101
  go_wp2_with (first | (go_at_call 156; (with_reducible refine (spec_l1In.calls (l0_1.length : Int) 1 9 true _ A4.out).mono ?_); rintro e w' ⟨rfl, ⟨nd, rfl⟩⟩; (try exact dR)) | (go_at_call 198; (with_reducible refine (spec_l1All.calls k _ _ l0_1 0 1000 t103 _ ?side1 ?side2 A6.out).mono ?_); (case side1 =>  repeat (first | exact (Kd.C_below HR0_1.out (by repeat (first | exact HB.out | apply ba | apply bd | apply be | refine bs ?_ GE101.out))) | (with_reducible refine Kd.C_alloc ?_ _) | (with_reducible refine Kd.C_drewN ?_ _) | (with_reducible refine Kd.C_drew ?_))); (case side2 => exact HC0_1.out); rintro e w' ⟨rfl, ⟨nd, rfl⟩⟩; (try exact dR)))
  repeat (go_quiet (first | (go_at_call 156; (with_reducible refine (spec_l1In.calls (l0_1.length : Int) 1 9 true _ A4.out).mono ?_); rintro e w' ⟨rfl, ⟨nd, rfl⟩⟩; (try exact dR)) | (go_at_call 198; (with_reducible refine (spec_l1All.calls k _ _ l0_1 0 1000 t103 _ ?side1 ?side2 A6.out).mono ?_); (case side1 =>  repeat (first | exact (Kd.C_below HR0_1.out (by repeat (first | exact HB.out | apply ba | apply bd | apply be | refine bs ?_ GE101.out))) | (with_reducible refine Kd.C_alloc ?_ _) | (with_reducible refine Kd.C_drewN ?_ _) | (with_reducible refine Kd.C_drew ?_))); (case side2 => exact HC0_1.out); rintro e w' ⟨rfl, ⟨nd, rfl⟩⟩; (try exact dR))); try go_wp2_with (first | (go_at_call 156; (with_reducible refine (spec_l1In.calls (l0_1.length : Int) 1 9 true _ A4.out).mono ?_); rintro e w' ⟨rfl, ⟨nd, rfl⟩⟩; (try exact dR)) | (go_at_call 198; (with_reducible refine (spec_l1All.calls k _ _ l0_1 0 1000 t103 _ ?side1 ?side2 A6.out).mono ?_); (case side1 =>  repeat (first | exact (Kd.C_below HR0_1.out (by repeat (first | exact HB.out | apply ba | apply bd | apply be | refine bs ?_ GE101.out))) | (with_reducible refine Kd.C_alloc ?_ _) | (with_reducible refine Kd.C_drewN ?_ _) | (with_reducible refine Kd.C_drew ?_))); (case side2 => exact HC0_1.out); rintro e w' ⟨rfl, ⟨nd, rfl⟩⟩; (try exact dR))))
  go_meet
  case rel => exact ⟨_, (!t103), gR, H', ⟨by first | omega | exact Nat.le_refl _⟩, ⟨bQ BK101⟩, ⟨wB⟩⟩
 case rest =>
  clear HC2
  (try clear c1); (try clear p2); (try clear c5); (try clear hcz7_0); (try clear hcz7_1); (try clear hcz8_0); (try clear hcz8_1); (try clear hfz7_0); (try clear hfz7_1); (try clear hfz8_0); (try clear hfz8_1)
  obtain ⟨kq, x13_1, rfl, HA, HJ1, BK101, HB⟩ := hcut
  cases kq with
  | zero => exact absurd HA.out (by simp [spec_voGood.j0])
  | succ kj1 =>
   have H := HA.out
   clear HA
   simp only [spec_voGood.j0] at H
   by_cases c9 : x13_1 = true
   ·subst c9
    replace H := iT H
    obtain rfl := Option.some.inj H
    go_wp2
    repeat (go_quiet (fail); try go_wp2)
    go_ret
    exact ⟨fR, wB⟩
   replace c9 := Bool.eq_false_iff.mpr c9
   subst c9
   replace H := iF H
   replace H := oA H
   obtain ⟨t104, A10, H⟩ := H
   (try dsimp only at H)
   replace H := oA H
   obtain ⟨t105, A11, H⟩ := H
   (try dsimp only at H)
   obtain rfl := Option.some.inj H
   obtain ⟨hcz12_0, hcz12_1, hfz12_0, hfz12_1⟩ := zZ BK101
   go_wp2_with (first | (go_at_call 128; (with_reducible refine (spec_voSum.calls kj1 _ _ l0_1 t104 _ (Kd.C_below HR0_1.out HB.out) HC0_1.out A10.out).mono ?_); rintro e w' ⟨rfl, ⟨nd, rfl⟩⟩; (try exact dR)) | (go_at_call 156; (with_reducible refine (spec_l1In.calls a0_0 1 t104 t105 _ A11.out).mono ?_); rintro e w' ⟨rfl, ⟨nd, rfl⟩⟩; (try exact dR)))
   repeat (go_quiet (first | (go_at_call 128; (with_reducible refine (spec_voSum.calls kj1 _ _ l0_1 t104 _ ?side1 ?side2 A10.out).mono ?_); (case side1 => have hx_ := (Kd.C_below HR0_1.out HB.out); exact cC); (case side2 => exact HC0_1.out); rintro e w' ⟨rfl, ⟨nd, rfl⟩⟩; (try exact dR)) | (go_at_call 156; (with_reducible refine (spec_l1In.calls a0_0 1 t104 t105 _ A11.out).mono ?_); rintro e w' ⟨rfl, ⟨nd, rfl⟩⟩; (try exact dR))); try go_wp2_with (first | (go_at_call 128; (with_reducible refine (spec_voSum.calls kj1 _ _ l0_1 t104 _ ?side1 ?side2 A10.out).mono ?_); (case side1 => have hx_ := (Kd.C_below HR0_1.out HB.out); exact cC); (case side2 => exact HC0_1.out); rintro e w' ⟨rfl, ⟨nd, rfl⟩⟩; (try exact dR)) | (go_at_call 156; (with_reducible refine (spec_l1In.calls a0_0 1 t104 t105 _ A11.out).mono ?_); rintro e w' ⟨rfl, ⟨nd, rfl⟩⟩; (try exact dR))))
   go_ret
   exact ⟨fR, wB⟩
def spec_voWeight.l0 : Nat → Int → Int → List Int → Int → Int → Option (Int)
 | 0, _, _, _, _, _ => none
 | k + 1, x1, x5, x9, x10, x11 => if x11 < x10 then (if 0 ≤ x11 then (if x11 < (x9.length : Int) then (if (Int.tmod (shr .i64 x1 x11) 2) = 1 then (spec_voWeight.l0 k x1 (wrap64 (x5 + (rd x9 x11))) x9 x10 (wrap64 (x11 + 1))) else (spec_voWeight.l0 k x1 x5 x9 x10 (wrap64 (x11 + 1)))) else (none)) else (none)) else (some x5)
def spec_voWeight.f (k : Nat) (a0_0 : Int) (l0_1 : List Int) (a1 : Int) : Option (Int) := spec_voWeight.l0 k a1 0 l0_1 (l0_1.length : Int) 0
theorem spec_voWeight.calls (k : Nat) (a0_0 : Int) (A0_1 : Option Addr) (c0_1 : Nat) (l0_1 : List Int) (a1 : Int) (r : Int) (w : World) (hr0_1 : Kd.C (Kd.int .i64) w A0_1 l0_1.length l0_1) (hc0_1 : l0_1.length ≤ c0_1) (h : spec_voWeight.f k a0_0 l0_1 a1 = some r) :
  Calls Tryz.prog 125 #[.agg #[.int .i64 a0_0, .slice A0_1 l0_1.length c0_1], .int .i64 a1] w fun e w' => e = .returned (.int .i64 r) ∧ Below w.heap.size w w' := by
 have hu26 := Tryz.underlying26
 have HR0_1 := Aside0.mk hr0_1
 have HC0_1 := Aside0.mk hc0_1
 clear hr0_1 hc0_1
 have HB := Aside0.mk (Below.refl w.heap.size w)
 have H := h
 unfold spec_voWeight.f at H
 clear h
 have H' := Aside0.mk H
 clear H
 go_enter Tryz.func125, Tryz.ntmps125
 go_wp2_with (first | ((with_reducible refine gate_dst (N := 2) rfl ?_); refine xE (N := 2) (cs := #[.int .i64 a0_0, .slice A0_1 l0_1.length c0_1]) (t := 26) ?_; intro gb101 hg w3 BK101 hb; have GW101 := gS hg HB; have GE101 := gS hg HB; replace HB := sB HB hb; clear hb hg; obtain ⟨hcz4_0, hcz4_1, hfz4_0, hfz4_1⟩ := zZ BK101))
 go_loopg [5, 11] k (fun kq v5 v11 w' => ∃ (x5_1 : Int) (x11_1 : Int), v5 = .int .i64 x5_1 ∧ v11 = .int .i64 x11_1 ∧ Aside0 (spec_voWeight.l0 kq a1 x5_1 l0_1 (l0_1.length : Int) x11_1 = some r) ∧ Aside0 (kq ≤ k) ∧ Aside0 (w'.heap[gb101]? = some (.cells #[.int .i64 a0_0, (.slice A0_1 l0_1.length c0_1)] 26 (0, 0))) ∧ Aside0 (Below w.heap.size w w'))
 case atStart => exact ⟨(0), (0), gR, gR, H', ⟨Nat.le_refl _⟩, ⟨by exact BK101.out⟩, ⟨wB⟩⟩
 case round =>
  clear H'
  (try clear c1); (try clear p2); (try clear hcz4_0); (try clear hcz4_1); (try clear hfz4_0); (try clear hfz4_1)
  obtain ⟨x5_1, x11_1, rfl, rfl, HA, HK1, BK101, HB⟩ := hrel
  cases gk with
  | zero => exact absurd HA.out (by simp [spec_voWeight.l0])
  | succ k1 =>
   have H := HA.out
   clear HA
   simp only [spec_voWeight.l0] at H
   by_cases c5 : x11_1 < (l0_1.length : Int)
   rotate_left
   ·rw [if_neg c5] at H
    have c5b0 : decide (x11_1 < (l0_1.length : Int)) = false := decide_eq_false c5
    clear c5
    obtain rfl := Option.some.inj H
    go_wp2
    go_ret
    exact ⟨fR, wB⟩
   rw [if_pos c5] at H
   have c5b0 := decide_eq_true c5
   clear c5
   by_cases c6 : 0 ≤ x11_1
   rotate_left
   ·rw [if_neg c6] at H
    exact absurd H (by simp)
   rw [if_pos c6] at H
   have c6b0 := decide_eq_true c6
   clear c6
   by_cases c7 : x11_1 < (l0_1.length : Int)
   rotate_left
   ·rw [if_neg c7] at H
    exact absurd H (by simp)
   rw [if_pos c7] at H
   have c7b0 := decide_eq_true c7
   clear c7
   have c8b0 := eq_true (oD : 0 ≤ x11_1)
   obtain ⟨ji9, hji9⟩ : ∃ j_ : Int, (shr .i64 a1 x11_1) = j_ := ⟨_, rfl⟩
   replace H : (if (Int.tmod (ji9) 2) = 1 then (spec_voWeight.l0 k1 a1 (wrap64 (x5_1 + (rd l0_1 x11_1))) l0_1 (l0_1.length : Int) (wrap64 (x11_1 + 1))) else (spec_voWeight.l0 k1 a1 x5_1 l0_1 (l0_1.length : Int) (wrap64 (x11_1 + 1)))) = some r := by first | (rw [hji9] at H; exact H) | (simp only [hji9] at H ⊢; exact H)
   have hji9_ : (a1 / 2 ^ min x11_1.toNat 64) = ji9 := hji9
   have hji9z : x11_1 ≤ 64 → (a1 / 2 ^ x11_1.toNat) = ji9 := shr_small hji9
   by_cases c10 : (Int.tmod (ji9) 2) = 1
   rotate_left
   ·rw [if_neg c10] at H
    have c10b0 : ((Int.tmod (ji9) 2) == 1) = false := beq_eq_false_iff_ne.mpr c10
    have c10b1 : ((Int.tmod (ji9) 2) != 1) = true := bne_iff_ne.mpr c10
    have H' := Aside0.mk H
    clear H
    have p102 : 0 ≤ (x11_1 : Int) := oD
    have q102 : x11_1 < (l0_1.length : Int) := oD
    obtain ⟨ad102, e102, hx102_0⟩ := Kd.at_int HR0_1.out x11_1 p102 q102
    cases e102
    replace hx102_0 := (HB.out.cell (World.block_lt_of_cell? w _ hx102_0)).trans hx102_0
    replace p102 := eq_true p102
    replace q102 := eq_true q102
    go_wp2
    go_roundg k1
    case measure => have := HK1.out; omega
    case rel => exact ⟨(x5_1), (wrap64 (x11_1 + 1)), gR, gR, H', ⟨by have := HK1.out; omega⟩, ⟨by exact BK101.out⟩, ⟨wB⟩⟩
   rw [if_pos c10] at H
   have c10b0 : ((Int.tmod (ji9) 2) == 1) = true := beq_iff_eq.mpr c10
   have c10b1 : ((Int.tmod (ji9) 2) != 1) = false := bne_eq_false_iff_eq.mpr c10
   clear c10
   have H' := Aside0.mk H
   clear H
   have p102 : 0 ≤ (x11_1 : Int) := oD
   have q102 : x11_1 < (l0_1.length : Int) := oD
   obtain ⟨ad102, e102, hx102_0⟩ := Kd.at_int HR0_1.out x11_1 p102 q102
   cases e102
   replace hx102_0 := (HB.out.cell (World.block_lt_of_cell? w _ hx102_0)).trans hx102_0
   replace p102 := eq_true p102
   replace q102 := eq_true q102
   go_wp2
   go_roundg k1
   case measure => have := HK1.out; omega
   case rel => exact ⟨(wrap64 (x5_1 + (rd l0_1 x11_1))), (wrap64 (x11_1 + 1)), gR, gR, H', ⟨by have := HK1.out; omega⟩, ⟨by exact BK101.out⟩, ⟨wB⟩⟩
def spec_voAll.f (a0 : Int) : Option (Int) := if 0 ≤ a0 then (some (wrap64 ((shl .i64 1 a0) - 1))) else (none)
theorem spec_voAll.calls (a0 : Int) (r : Int) (w : World) (h : spec_voAll.f a0 = some r) :
  Calls Tryz.prog 152 #[.int .i64 a0] w fun e w' => e = .returned (.int .i64 r) ∧ Drawn0 w w' := by
 have H := h
 unfold spec_voAll.f at H
 clear h
 by_cases c2 : 0 ≤ a0
 rotate_left
 ·rw [if_neg c2] at H
  exact absurd H (by simp)
 rw [if_pos c2] at H
 have c2b0 := eq_true c2
 have c2b1 := decide_eq_true c2
 clear c2
 obtain ⟨ji3, hji3⟩ : ∃ j_ : Int, (shl .i64 1 a0) = j_ := ⟨_, rfl⟩
 replace H : (some (wrap64 ((ji3) - 1))) = some r := by first | (rw [hji3] at H; exact H) | (simp only [hji3] at H ⊢; exact H)
 have hji3_ : (IntKind.i64.wrap (1 * 2 ^ min a0.toNat 64)) = ji3 := hji3
 have hji3z : a0 ≤ 64 → (IntKind.i64.wrap (1 * 2 ^ a0.toNat)) = ji3 := shl_small hji3
 have hji3u : (IntKind.i64.wrap (2 ^ min a0.toNat 64)) = ji3 := by have h_ := hji3_; rw [Int.one_mul] at h_; exact h_
 have hji3v : a0 ≤ 64 → (IntKind.i64.wrap (2 ^ a0.toNat)) = ji3 := fun hle_ => by have h_ := hji3z hle_; rw [Int.one_mul] at h_; exact h_
 have hji3y : (wrap64 (1 * 2 ^ min a0.toNat 64)) = ji3 := (i64_w _).symm.trans hji3_
 have hji3x : a0 ≤ 64 → (wrap64 (1 * 2 ^ a0.toNat)) = ji3 := fun h_ => (i64_w _).symm.trans (hji3z h_)
 obtain rfl := Option.some.inj H
 go_enter Tryz.func152, Tryz.ntmps152
 go_wp2
 go_ret
 exact ⟨by first | rfl | (simp; done) | (simp only [← hji3] <;> (first | rfl | simp)) | (simp [*]; done), dS⟩
def spec_voWins.l0 : Nat → List Bool → Int → Int → List Int → Option (List Bool)
 | 0, _, _, _, _ => none
 | k + 1, x3, x4, x102000, x102001 => (spec_voAll.f (x102001.length : Int)).bind fun t102 => (if x4 ≤ t102 then ((spec_voWeight.f k x102000 x102001 x4).bind fun t103 => (if x3.length < 140737488355328 then (spec_voWins.l0 k (x3 ++ [decide (t103 ≥ x102000)]) (wrap64 (x4 + 1)) x102000 x102001) else (none))) else (some x3))
def spec_voWins.f (k : Nat) (a0_0 : Int) (l0_1 : List Int) : Option (List Bool) := spec_voWins.l0 k ([] : List Bool) 0 a0_0 l0_1
def spec_voWins.T5 : Bool × List (List Nat × List Nat) := (true, [([], []), ([], []), ([], []), ([1, 2], [1, 2]), ([], []), ([4], [4]), ([3, 5], [3, 5]), ([6], [6]), ([0, 7, 3], [0, 7]), ([8, 8, 0, 1, 2, 3, 4, 5, 6, 7, 8], [0, 8])])
def spec_voWins.B5 : List Nat := [0, 0, 0, 6, 0, 16, 62, 126, 255, 511]
theorem spec_voWins.tab5 : rtab .any (opsOf Tryz.f141 5) = spec_voWins.T5 := by kernel_rfl
theorem spec_voWins.bits5 : waitsOk spec_voWins.T5.2 spec_voWins.B5 = true := by kernel_rfl
theorem spec_voWins.calls (k : Nat) (a0_0 : Int) (A0_1 : Option Addr) (c0_1 : Nat) (l0_1 : List Int) (r : List Bool) (w : World) (hr0_1 : Kd.C (Kd.int .i64) w A0_1 l0_1.length l0_1) (hc0_1 : l0_1.length ≤ c0_1) (h : spec_voWins.f k a0_0 l0_1 = some r) :
  Calls Tryz.prog 141 #[.agg #[.int .i64 a0_0, .slice A0_1 l0_1.length c0_1]] w fun e w' => ∃ v0_ : Value, e = .returned (v0_) ∧ Kd.R Kd.bool 4 w' w.heap.size (fun _ => True) v0_ r ∧ Below w.heap.size w w' := by
 have hu26 := Tryz.underlying26
 have HR0_1 := Aside0.mk hr0_1
 have HC0_1 := Aside0.mk hc0_1
 clear hr0_1 hc0_1
 have HB := Aside0.mk (Below.refl w.heap.size w)
 have H := h
 unfold spec_voWins.f at H
 clear h
 have H' := Aside0.mk H
 clear H
 go_enter Tryz.func141, Tryz.ntmps141
 go_wp2_with (first | ((with_reducible refine gate_dst (N := 1) rfl ?_); refine xE (N := 1) (cs := #[.int .i64 a0_0, .slice A0_1 l0_1.length c0_1]) (t := 26) ?_; intro gb101 hg w2 BK101 hb; have GW101 := gS hg HB; have GE101 := gS hg HB; replace HB := sB HB hb; clear hb hg))
 go_loopg [3, 4] k (fun kq v3 v4 w' => ∃ (x3_1 : List Bool) (x4_1 : Int), v4 = .int .i64 x4_1 ∧ Aside0 (spec_voWins.l0 kq x3_1 x4_1 a0_0 l0_1 = some r) ∧ Aside0 (kq ≤ k) ∧ Aside0 (Kd.R Kd.bool 4 w' w.heap.size (fun _ => True) v3 x3_1) ∧ Aside0 (w'.heap[gb101]? = some (.cells #[.int .i64 a0_0, (.slice A0_1 l0_1.length c0_1)] 26 (0, 0))) ∧ Aside0 (Below w.heap.size w w'))
 case atStart => exact ⟨(([] : List Bool)), (0), gR, H', ⟨Nat.le_refl _⟩, ⟨by first | exact Kd.R_nil _ _ _ _ _ | exact Kd.N_nil _ _ _ _ _ | exact Kd.V_nil _ _ _ _ _ | exact Kd.Q_nil _ _ _ _ _ | exact Kd.S_nil _ _ _ _ _⟩, ⟨by exact BK101.out⟩, ⟨wB⟩⟩
 case round =>
  clear H'
  (try clear c1); (try clear p2)
  obtain ⟨x3_1, x4_1, rfl, HA, HK1, HO_3, BK101, HB⟩ := hrel
  cases gk with
  | zero => exact absurd HA.out (by simp [spec_voWins.l0])
  | succ k1 =>
   have H := HA.out
   clear HA
   simp only [spec_voWins.l0] at H
   replace H := oA H
   obtain ⟨t102, A3, H⟩ := H
   (try dsimp only at H)
   by_cases c4 : x4_1 ≤ t102
   rotate_left
   ·rw [if_neg c4] at H
    have c4b0 : decide (x4_1 ≤ t102) = false := decide_eq_false c4
    clear c4
    obtain rfl := Option.some.inj H
    obtain ⟨hcz11_0, hcz11_1, hfz11_0, hfz11_1⟩ := zZ BK101
    go_wp2_with (first | ((with_reducible refine gate_callee (f := 152) rfl ?_); refine gL 9 Tryz.func152 #[.int .i64 (l0_1.length : Int)] ?_; (with_reducible refine (spec_voAll.calls (l0_1.length : Int) t102 _ A3.out).mono ?_); rintro e w' ⟨rfl, ⟨nd, rfl⟩⟩; refine ⟨_, rfl, ?_⟩))
    go_ret
    exact ⟨_, fR, by (with_reducible repeat (first | apply qA | apply qN | apply qD)); exact HO_3.out, wB⟩
   rw [if_pos c4] at H
   have c4b0 := decide_eq_true c4
   clear c4
   replace H := oA H
   obtain ⟨t103, A5, H⟩ := H
   (try dsimp only at H)
   by_cases c6 : x3_1.length < 140737488355328
   rotate_left
   ·rw [if_neg c6] at H
    exact absurd H (by simp)
   rw [if_pos c6] at H
   have LMc6 := Aside0.mk c6
   clear c6
   obtain ⟨y104, hy104⟩ : ∃ y_ : List Bool, y_ = (x3_1 ++ [decide (t103 ≥ a0_0)]) := ⟨_, rfl⟩
   replace H : (spec_voWins.l0 k1 y104 (wrap64 (x4_1 + 1)) a0_0 l0_1) = some r := by first | (rw [hy104]; with_reducible exact H) | (have H2_ := (Option.bind_some _ _).symm.trans H; rw [hy104]; with_reducible exact H2_) | (have H2_ := (Option.bind_some _ _).symm.trans H; with_reducible exact H2_) | with_reducible exact H | (rw [hy104]; exact H) | exact H
   have Ny104 := Aside0.mk hy104
   clear hy104
   have H' := Aside0.mk H
   clear H
   obtain ⟨hcz7_0, hcz7_1, hfz7_0, hfz7_1⟩ := zZ BK101
   try go_wp2_with (first | ((with_reducible refine gate_callee (f := 152) rfl ?_); refine gL 9 Tryz.func152 #[.int .i64 (l0_1.length : Int)] ?_; (with_reducible refine (spec_voAll.calls (l0_1.length : Int) t102 _ A3.out).mono ?_); rintro e w' ⟨rfl, ⟨nd, rfl⟩⟩; refine ⟨_, rfl, ?_⟩))
   (try (rw [drewN_self wr]; generalize hq_ : World.drewN wr _ = wr; have n0_ : Aside0 (Kd.R Kd.bool 4 wr w.heap.size (fun _ => True) u3 x3_1) := ⟨by rw [← hq_]; exact (rQ HO_3)⟩; have n1_ : Aside0 (wr.heap[gb101]? = some (.cells #[.int .i64 a0_0, .slice A0_1 l0_1.length c0_1] 26 (0, 0))) := ⟨by rw [← hq_]; exact (bQ BK101)⟩; have n2_ : Aside0 (Below w.heap.size w wr) := ⟨by rw [← hq_]; exact (by repeat (first | exact HB.out | apply ba | apply bd | apply be | refine bs ?_ GE101.out))⟩; clear HO_3 BK101 HB hq_; have HO_3 := n0_; have BK101 := n1_; have HB := n2_; clear n0_ n1_ n2_))
   replace HO_3 := rD HO_3
   replace BK101 := bD BK101
   replace HB := Aside0.mk (below_drew1 HB.out)
   refine start_ (n := 10) (S := fun w' => w'.cell? ⟨gb101, 0, none⟩ = some (.int .i64 a0_0) ∧ w'.cell? ⟨gb101, 1, none⟩ = some (.slice A0_1 l0_1.length c0_1)) (ds := []) #[F,F,F,F,F,F,F,F,F,F] (by kernel_rfl) rfl rfl ⟨(blk_cell BK101.out 0).trans rfl, (blk_cell BK101.out 1).trans rfl⟩ (fun hHeld => ?_); refine with_tabW spec_voWins.tab5 spec_voWins.bits5 (fun HT_ HW_ => ?_)
   (try clear hcz7_0 hcz7_1 hfz7_0 hfz7_1)
   generalize wr.drew = w8 at HO_3 BK101 HB hHeld ⊢
   refine pU 0 HT_ ?_
   refine pU 2 HT_ ?_
   refine pU 4 HT_ ?_
   refine tK 1 HT_ HW_ hHeld (hy := by rintro w' ⟨s0, s1⟩; go_simp; with_reducible rfl) ?_
   refine tK 5 HT_ HW_ hHeld (hy := by rintro w' ⟨s0, s1⟩; go_simp; with_reducible rfl) ?_
   refine oN 3 HT_ (fun K hK => ?_)
   refine gE Tryz.func125 #[.agg #[.int .i64 a0_0, .slice A0_1 l0_1.length c0_1], .int .i64 x4_1] ?_
   with_reducible refine (spec_voWeight.calls k1 a0_0 _ _ l0_1 x4_1 t103 _ ?side1 ?side2 A5.out).mono ?_
   (case side1 => have hx_ := (Kd.C_below HR0_1.out HB.out); exact cC)
   (case side2 => exact HC0_1.out)
   rintro e w9 ⟨rfl, hb⟩
   refine ⟨_, rfl, ?_⟩
   replace HO_3 := rP HO_3 hb
   replace BK101 := bP BK101 hb
   replace HB := sQ hb
   (try clear hb)
   (try clear hb2)
   (try clear hk)
   (try clear hi)
   refine hK.out _ _ ⟨(blk_cell BK101.out 0).trans rfl, (blk_cell BK101.out 1).trans rfl⟩ (fun hHeld => ?_)
   clear hK K
   refine nM ?_
   refine pU 6 HT_ ?_
   refine oN 7 HT_ (fun K hK => ?_)
   refine value_ (w1 := ?_) (v := ?_) (by rfl) rfl ?_ ?_
   rotate_left 2
   ·go_simp
    constructor
    ·rfl
    rfl
   refine hK.out _ _ ⟨(blk_cell (blk_alloc BK101.out _) 0).trans rfl, (blk_cell (blk_alloc BK101.out _) 1).trans rfl⟩ (fun hHeld => ?_)
   clear hK K
   refine nM ?_
   refine oN 8 HT_ (fun K hK => ?_)
   refine Kd.R_append_step Kd.bool (w0 := w) w.heap.size (by rfl) (.tmp 13) (.tmp 20) 85 4 (.bool false) 1 rfl Tryz.underlying85 info4 rfl (by decide) (by omega) u3 x3_1 (decide (t103 ≥ a0_0)) [.bool (decide (t103 ≥ a0_0))] (fun _ => True) (fun _ => False) rfl rfl ?aP (fun _ hk => hk.elim) ?aF ?aO ?aB ?aS ?aL ?_
   (case aP => exact rfl)
   (case aB => exact (by repeat (first | exact HB.out | apply ba | apply bd | apply be | refine bs ?_ GE101.out)))
   (case aF => exact (fun _ _ => trivial))
   (case aO => exact (rQ HO_3))
   (case aS => exact (below_size (by repeat (first | exact HB.out | apply ba | apply bd | apply be | refine bs ?_ GE101.out))))
   (case aL => have := LMc6.out; omega)
   intro v105 w10 ho hb hg hat
   rw [← Ny104.out] at ho
   have HO106 := Aside0.mk (ho)
   replace BK101 := Aside0.mk (blk_grown (g := gb101) (o := .cells #[.int .i64 a0_0, .slice A0_1 l0_1.length c0_1] 26 (0, 0)) (bQ BK101) hg (Kd.R_ne HO_3.out BK101.out (by decide)))
   replace HB := Aside0.mk (hb)
   clear ho hb hg hat
   refine hK.out _ _ ⟨(blk_cell BK101.out 0).trans rfl, (blk_cell BK101.out 1).trans rfl⟩ (fun hHeld => ?_)
   clear hK K
   refine nM ?_
   refine pU 9 HT_ ?_
   refine done_ (done_of HT_.out (by kernel_rfl)) ?_
   try go_wp2
   go_roundg k1
   case measure => have := HK1.out; omega
   case rel => exact ⟨(y104), (wrap64 (x4_1 + 1)), gR, H', ⟨by have := HK1.out; omega⟩, ⟨rQ HO106⟩, ⟨bQ BK101⟩, ⟨wB⟩⟩
def spec_pwSwings.l0 : Nat → List Bool → Int → List Int → List Bool → Int → Int → Option (List Int)
 | 0, _, _, _, _, _, _ => none
 | k + 1, x0, x1, x5, x8, x9, x10 => if x10 < x9 then (if 0 ≤ x10 then (if x10 < (x8.length : Int) then (if 0 ≤ x1 then (if (Int.tmod (shr .i64 x10 x1) 2) = 0 then (if rdOf false x8 x10 = true then (spec_pwSwings.l0 k x0 x1 x5 x8 x9 (wrap64 (x10 + 1))) else (if 0 ≤ (wrap64 (x10 + (shl .i64 1 x1))) then (if (wrap64 (x10 + (shl .i64 1 x1))) < (x0.length : Int) then (if rdOf false x0 (wrap64 (x10 + (shl .i64 1 x1))) = true then (if x5.length < 17592186044416 then (spec_pwSwings.l0 k x0 x1 (x5 ++ [x10]) x8 x9 (wrap64 (x10 + 1))) else (none)) else (spec_pwSwings.l0 k x0 x1 x5 x8 x9 (wrap64 (x10 + 1)))) else (none)) else (none))) else (spec_pwSwings.l0 k x0 x1 x5 x8 x9 (wrap64 (x10 + 1)))) else (none)) else (none)) else (none)) else (some x5)
def spec_pwSwings.f (k : Nat) (l0 : List Bool) (a1 : Int) : Option (List Int) := spec_pwSwings.l0 k l0 a1 ([] : List Int) l0 (l0.length : Int) 0
theorem spec_pwSwings.calls (k : Nat) (A0 : Option Addr) (c0 : Nat) (l0 : List Bool) (a1 : Int) (r : List Int) (w : World) (hr0 : Kd.C Kd.bool w A0 l0.length l0) (hc0 : l0.length ≤ c0) (h : spec_pwSwings.f k l0 a1 = some r) :
  Calls Tryz.prog 169 #[.slice A0 l0.length c0, .int .i64 a1] w fun e w' => ∃ v0_ : Value, e = .returned (v0_) ∧ Kd.R (Kd.int .i64) 3 w' w.heap.size (fun _ => True) v0_ r ∧ Below w.heap.size w w' := by
 have HR0 := Aside0.mk hr0
 have HC0 := Aside0.mk hc0
 clear hr0 hc0
 have HB := Aside0.mk (Below.refl w.heap.size w)
 have H := h
 unfold spec_pwSwings.f at H
 clear h
 have H' := Aside0.mk H
 clear H
 go_enter Tryz.func169, Tryz.ntmps169
 go_wp2
 go_loopg [5, 10] k (fun kq v5 v10 w' => ∃ (x5_1 : List Int) (x10_1 : Int), v10 = .int .i64 x10_1 ∧ Aside0 (spec_pwSwings.l0 kq l0 a1 x5_1 l0 (l0.length : Int) x10_1 = some r) ∧ Aside0 (kq ≤ k) ∧ Aside0 (Kd.R (Kd.int .i64) 3 w' w.heap.size (fun _ => True) v5 x5_1) ∧ Aside0 (Below w.heap.size w w'))
 case atStart => exact ⟨(([] : List Int)), (0), gR, H', ⟨Nat.le_refl _⟩, ⟨by first | exact Kd.R_nil _ _ _ _ _ | exact Kd.N_nil _ _ _ _ _ | exact Kd.V_nil _ _ _ _ _ | exact Kd.Q_nil _ _ _ _ _ | exact Kd.S_nil _ _ _ _ _⟩, ⟨wB⟩⟩
 case round =>
  clear H'
  (try clear c1); (try clear p2)
  obtain ⟨x5_1, x10_1, rfl, HA, HK1, HO_5, HB⟩ := hrel
  cases gk with
  | zero => exact absurd HA.out (by simp [spec_pwSwings.l0])
  | succ k1 =>
   have H := HA.out
   clear HA
   simp only [spec_pwSwings.l0] at H
   by_cases c3 : x10_1 < (l0.length : Int)
   rotate_left
   ·rw [if_neg c3] at H
    have c3b0 : decide (x10_1 < (l0.length : Int)) = false := decide_eq_false c3
    clear c3
    obtain rfl := Option.some.inj H
    go_wp2
    go_ret
    exact ⟨_, fR, by exact HO_5.out, wB⟩
   rw [if_pos c3] at H
   have c3b0 := decide_eq_true c3
   clear c3
   by_cases c4 : 0 ≤ x10_1
   rotate_left
   ·rw [if_neg c4] at H
    exact absurd H (by simp)
   rw [if_pos c4] at H
   have c4b0 := decide_eq_true c4
   clear c4
   by_cases c5 : x10_1 < (l0.length : Int)
   rotate_left
   ·rw [if_neg c5] at H
    exact absurd H (by simp)
   rw [if_pos c5] at H
   have c5b0 := decide_eq_true c5
   clear c5
   by_cases c6 : 0 ≤ a1
   rotate_left
   ·rw [if_neg c6] at H
    exact absurd H (by simp)
   rw [if_pos c6] at H
   have c6b0 := eq_true c6
   have c6b1 := decide_eq_true c6
   clear c6
   obtain ⟨ji7, hji7⟩ : ∃ j_ : Int, (shr .i64 x10_1 a1) = j_ := ⟨_, rfl⟩
   replace H : (if (Int.tmod (ji7) 2) = 0 then (if rdOf false l0 x10_1 = true then (spec_pwSwings.l0 k1 l0 a1 x5_1 l0 (l0.length : Int) (wrap64 (x10_1 + 1))) else (if 0 ≤ (wrap64 (x10_1 + (shl .i64 1 a1))) then (if (wrap64 (x10_1 + (shl .i64 1 a1))) < (l0.length : Int) then (if rdOf false l0 (wrap64 (x10_1 + (shl .i64 1 a1))) = true then (if x5_1.length < 17592186044416 then (spec_pwSwings.l0 k1 l0 a1 (x5_1 ++ [x10_1]) l0 (l0.length : Int) (wrap64 (x10_1 + 1))) else (none)) else (spec_pwSwings.l0 k1 l0 a1 x5_1 l0 (l0.length : Int) (wrap64 (x10_1 + 1)))) else (none)) else (none))) else (spec_pwSwings.l0 k1 l0 a1 x5_1 l0 (l0.length : Int) (wrap64 (x10_1 + 1)))) = some r := by first | (rw [hji7] at H; exact H) | (simp only [hji7] at H ⊢; exact H)
   have hji7_ : (x10_1 / 2 ^ min a1.toNat 64) = ji7 := hji7
   have hji7z : a1 ≤ 64 → (x10_1 / 2 ^ a1.toNat) = ji7 := shr_small hji7
   by_cases c8 : (Int.tmod (ji7) 2) = 0
   rotate_left
   ·rw [if_neg c8] at H
    have c8b0 : ((Int.tmod (ji7) 2) == 0) = false := beq_eq_false_iff_ne.mpr c8
    have c8b1 : ((Int.tmod (ji7) 2) != 0) = true := bne_iff_ne.mpr c8
    have H' := Aside0.mk H
    clear H
    have p101 : 0 ≤ (x10_1 : Int) := oD
    have q101 : x10_1 < (l0.length : Int) := oD
    obtain ⟨ad101, e101, hx101_0⟩ := Kd.at_bool HR0.out x10_1 p101 q101
    cases e101
    replace hx101_0 := (HB.out.cell (World.block_lt_of_cell? w _ hx101_0)).trans hx101_0
    replace p101 := eq_true p101
    replace q101 := eq_true q101
    go_wp2
    go_roundg k1
    case measure => have := HK1.out; omega
    case rel => exact ⟨(x5_1), (wrap64 (x10_1 + 1)), gR, H', ⟨by have := HK1.out; omega⟩, ⟨by exact HO_5.out⟩, ⟨wB⟩⟩
   rw [if_pos c8] at H
   have c8b0 : ((Int.tmod (ji7) 2) == 0) = true := beq_iff_eq.mpr c8
   have c8b1 : ((Int.tmod (ji7) 2) != 0) = false := bne_eq_false_iff_eq.mpr c8
   clear c8
   obtain ⟨bq9, hbq9⟩ : ∃ b_ : Bool, b_ = (rdOf false l0 x10_1) := ⟨_, rfl⟩
   replace H : (if bq9 = true then (spec_pwSwings.l0 k1 l0 a1 x5_1 l0 (l0.length : Int) (wrap64 (x10_1 + 1))) else (if 0 ≤ (wrap64 (x10_1 + (shl .i64 1 a1))) then (if (wrap64 (x10_1 + (shl .i64 1 a1))) < (l0.length : Int) then (if rdOf false l0 (wrap64 (x10_1 + (shl .i64 1 a1))) = true then (if x5_1.length < 17592186044416 then (spec_pwSwings.l0 k1 l0 a1 (x5_1 ++ [x10_1]) l0 (l0.length : Int) (wrap64 (x10_1 + 1))) else (none)) else (spec_pwSwings.l0 k1 l0 a1 x5_1 l0 (l0.length : Int) (wrap64 (x10_1 + 1)))) else (none)) else (none))) = some r := by rw [← hbq9] at H; exact H
   have Nbq9 := Aside0.mk hbq9
   clear hbq9
   by_cases c10 : bq9 = true
   ·subst c10
    replace H := iT H
    have H' := Aside0.mk H
    clear H
    have p101 : 0 ≤ (x10_1 : Int) := oD
    have q101 : x10_1 < (l0.length : Int) := oD
    obtain ⟨ad101, e101, hx101_0⟩ := Kd.at_bool HR0.out x10_1 p101 q101
    (try rw [← Nbq9.out] at hx101_0)
    cases e101
    replace hx101_0 := (HB.out.cell (World.block_lt_of_cell? w _ hx101_0)).trans hx101_0
    replace p101 := eq_true p101
    replace q101 := eq_true q101
    go_wp2
    go_roundg k1
    case measure => have := HK1.out; omega
    case rel => exact ⟨(x5_1), (wrap64 (x10_1 + 1)), gR, H', ⟨by have := HK1.out; omega⟩, ⟨by exact HO_5.out⟩, ⟨wB⟩⟩
   replace c10 := Bool.eq_false_iff.mpr c10
   subst c10
   replace H := iF H
   have c11b0 := eq_true (oD : 0 ≤ a1)
   obtain ⟨ji12, hji12⟩ : ∃ j_ : Int, (shl .i64 1 a1) = j_ := ⟨_, rfl⟩
   replace H : (if 0 ≤ (wrap64 (x10_1 + (ji12))) then (if (wrap64 (x10_1 + (ji12))) < (l0.length : Int) then (if rdOf false l0 (wrap64 (x10_1 + (ji12))) = true then (if x5_1.length < 17592186044416 then (spec_pwSwings.l0 k1 l0 a1 (x5_1 ++ [x10_1]) l0 (l0.length : Int) (wrap64 (x10_1 + 1))) else (none)) else (spec_pwSwings.l0 k1 l0 a1 x5_1 l0 (l0.length : Int) (wrap64 (x10_1 + 1)))) else (none)) else (none)) = some r := by first | (rw [hji12] at H; exact H) | (simp only [hji12] at H ⊢; exact H)
   have hji12_ : (IntKind.i64.wrap (1 * 2 ^ min a1.toNat 64)) = ji12 := hji12
   have hji12z : a1 ≤ 64 → (IntKind.i64.wrap (1 * 2 ^ a1.toNat)) = ji12 := shl_small hji12
   have hji12u : (IntKind.i64.wrap (2 ^ min a1.toNat 64)) = ji12 := by have h_ := hji12_; rw [Int.one_mul] at h_; exact h_
   have hji12v : a1 ≤ 64 → (IntKind.i64.wrap (2 ^ a1.toNat)) = ji12 := fun hle_ => by have h_ := hji12z hle_; rw [Int.one_mul] at h_; exact h_
   have hji12y : (wrap64 (1 * 2 ^ min a1.toNat 64)) = ji12 := (i64_w _).symm.trans hji12_
   have hji12x : a1 ≤ 64 → (wrap64 (1 * 2 ^ a1.toNat)) = ji12 := fun h_ => (i64_w _).symm.trans (hji12z h_)
   obtain ⟨ji13, hji13⟩ : ∃ j_ : Int, (wrap64 (x10_1 + (ji12))) = j_ := ⟨_, rfl⟩
   replace H : (if 0 ≤ (ji13) then (if (ji13) < (l0.length : Int) then (if rdOf false l0 (ji13) = true then (if x5_1.length < 17592186044416 then (spec_pwSwings.l0 k1 l0 a1 (x5_1 ++ [x10_1]) l0 (l0.length : Int) (wrap64 (x10_1 + 1))) else (none)) else (spec_pwSwings.l0 k1 l0 a1 x5_1 l0 (l0.length : Int) (wrap64 (x10_1 + 1)))) else (none)) else (none)) = some r := by first | (rw [hji13] at H; exact H) | (simp only [hji13] at H ⊢; exact H)
   have hji13w : (IntKind.i64.wrap (x10_1 + (ji12))) = ji13 := (i64_w _).trans hji13
   by_cases c14 : 0 ≤ (ji13)
   rotate_left
   ·rw [if_neg c14] at H
    exact absurd H (by simp)
   rw [if_pos c14] at H
   have c14b0 := decide_eq_true c14
   clear c14
   by_cases c15 : (ji13) < (l0.length : Int)
   rotate_left
   ·rw [if_neg c15] at H
    exact absurd H (by simp)
   rw [if_pos c15] at H
   have c15b0 := decide_eq_true c15
   clear c15
   obtain ⟨bq16, hbq16⟩ : ∃ b_ : Bool, b_ = (rdOf false l0 (ji13)) := ⟨_, rfl⟩
   replace H : (if bq16 = true then (if x5_1.length < 17592186044416 then (spec_pwSwings.l0 k1 l0 a1 (x5_1 ++ [x10_1]) l0 (l0.length : Int) (wrap64 (x10_1 + 1))) else (none)) else (spec_pwSwings.l0 k1 l0 a1 x5_1 l0 (l0.length : Int) (wrap64 (x10_1 + 1)))) = some r := by rw [← hbq16] at H; exact H
   have Nbq16 := Aside0.mk hbq16
   clear hbq16
   by_cases c17 : bq16 = true
   rotate_left
   ·replace c17 := Bool.eq_false_iff.mpr c17
    subst c17
    replace H := iF H
    have H' := Aside0.mk H
    clear H
    have p101 : 0 ≤ (x10_1 : Int) := oD
    have q101 : x10_1 < (l0.length : Int) := oD
    obtain ⟨ad101, e101, hx101_0⟩ := Kd.at_bool HR0.out x10_1 p101 q101
    (try rw [← Nbq9.out] at hx101_0)
    (try rw [← Nbq16.out] at hx101_0)
    cases e101
    replace hx101_0 := (HB.out.cell (World.block_lt_of_cell? w _ hx101_0)).trans hx101_0
    replace p101 := eq_true p101
    replace q101 := eq_true q101
    have p102 : 0 ≤ ((ji13) : Int) := oD
    have q102 : (ji13) < (l0.length : Int) := oD
    obtain ⟨ad102, e102, hx102_0⟩ := Kd.at_bool HR0.out (ji13) p102 q102
    (try rw [← Nbq9.out] at hx102_0)
    (try rw [← Nbq16.out] at hx102_0)
    obtain rfl : ad101 = ad102 := (by injection e102)
    replace hx102_0 := (HB.out.cell (World.block_lt_of_cell? w _ hx102_0)).trans hx102_0
    replace p102 := eq_true p102
    replace q102 := eq_true q102
    go_wp2
    go_roundg k1
    case measure => have := HK1.out; omega
    case rel => exact ⟨(x5_1), (wrap64 (x10_1 + 1)), gR, H', ⟨by have := HK1.out; omega⟩, ⟨by exact HO_5.out⟩, ⟨wB⟩⟩
   subst c17
   replace H := iT H
   by_cases c18 : x5_1.length < 17592186044416
   rotate_left
   ·rw [if_neg c18] at H
    exact absurd H (by simp)
   rw [if_pos c18] at H
   have LMc18 := Aside0.mk c18
   clear c18
   obtain ⟨y103, hy103⟩ : ∃ y_ : List Int, y_ = (x5_1 ++ [x10_1]) := ⟨_, rfl⟩
   replace H : (spec_pwSwings.l0 k1 l0 a1 y103 l0 (l0.length : Int) (wrap64 (x10_1 + 1))) = some r := by first | (rw [hy103]; with_reducible exact H) | (have H2_ := (Option.bind_some _ _).symm.trans H; rw [hy103]; with_reducible exact H2_) | (have H2_ := (Option.bind_some _ _).symm.trans H; with_reducible exact H2_) | with_reducible exact H | (rw [hy103]; exact H) | exact H
   have Ny103 := Aside0.mk hy103
   clear hy103
   have H' := Aside0.mk H
   clear H
   have p101 : 0 ≤ (x10_1 : Int) := oD
   have q101 : x10_1 < (l0.length : Int) := oD
   obtain ⟨ad101, e101, hx101_0⟩ := Kd.at_bool HR0.out x10_1 p101 q101
   (try rw [← Nbq9.out] at hx101_0)
   (try rw [← Nbq16.out] at hx101_0)
   cases e101
   replace hx101_0 := (HB.out.cell (World.block_lt_of_cell? w _ hx101_0)).trans hx101_0
   replace p101 := eq_true p101
   replace q101 := eq_true q101
   have p102 : 0 ≤ ((ji13) : Int) := oD
   have q102 : (ji13) < (l0.length : Int) := oD
   obtain ⟨ad102, e102, hx102_0⟩ := Kd.at_bool HR0.out (ji13) p102 q102
   (try rw [← Nbq9.out] at hx102_0)
   (try rw [← Nbq16.out] at hx102_0)
   obtain rfl : ad101 = ad102 := (by injection e102)
   replace hx102_0 := (HB.out.cell (World.block_lt_of_cell? w _ hx102_0)).trans hx102_0
   replace p102 := eq_true p102
   replace q102 := eq_true q102
   go_wp2_with (first | ((with_reducible refine gate_builtin (b := .append) (xs := #[.tmp 33, .tmp 35]) rfl ?_); at_builtin; refine Kd.R_append (Kd.int .i64) (w0 := w) w.heap.size rfl (.tmp 33) (.tmp 35) 24 3 (.int .i64 0) 8 rfl Tryz.underlying24 info3 rfl (by decide) (by omega) u5 x5_1 x10_1 [.int .i64 x10_1] (fun _ => True) (fun _ => False) rfl rfl ?aP (fun _ hk => hk.elim) ?aF ?aO ?aB ?aS ?aL ?_; (case aP => exact rfl); (case aB => exact HB.out); (case aF => exact (fun _ _ => trivial)); (case aO => exact HO_5.out); (case aS => exact (below_size HB.out)); (case aL => have := LMc18.out; omega); intro v104 w19 ho hb hg hat; rw [← Ny103.out] at ho; have HO105 := Aside0.mk (ho); replace HB := Aside0.mk (hb); clear ho hb hg hat))
   go_roundg k1
   case measure => have := HK1.out; omega
   case rel => exact ⟨(y103), (wrap64 (x10_1 + 1)), gR, H', ⟨by have := HK1.out; omega⟩, ⟨by exact HO105.out⟩, ⟨wB⟩⟩
def spec_pwCounts.l0 : Nat → List Bool → Int → List Int → Int → Option (List Int)
 | 0, _, _, _, _ => none
 | k + 1, x0, x1, x5, x6 => if x6 < x1 then ((spec_pwSwings.f k x0 x6).bind fun t101 => (if x5.length < 17592186044416 then (spec_pwCounts.l0 k x0 x1 (x5 ++ [(t101.length : Int)]) (wrap64 (x6 + 1))) else (none))) else (some x5)
def spec_pwCounts.f (k : Nat) (l0 : List Bool) (a1 : Int) : Option (List Int) := spec_pwCounts.l0 k l0 a1 ([] : List Int) 0
theorem spec_pwCounts.calls (k : Nat) (A0 : Option Addr) (c0 : Nat) (l0 : List Bool) (a1 : Int) (r : List Int) (w : World) (hr0 : Kd.C Kd.bool w A0 l0.length l0) (hc0 : l0.length ≤ c0) (h : spec_pwCounts.f k l0 a1 = some r) :
  Calls Tryz.prog 158 #[.slice A0 l0.length c0, .int .i64 a1] w fun e w' => ∃ v0_ : Value, e = .returned (v0_) ∧ Kd.R (Kd.int .i64) 3 w' w.heap.size (fun _ => True) v0_ r ∧ Below w.heap.size w w' := by
 have HR0 := Aside0.mk hr0
 have HC0 := Aside0.mk hc0
 clear hr0 hc0
 have HB := Aside0.mk (Below.refl w.heap.size w)
 have H := h
 unfold spec_pwCounts.f at H
 clear h
 have H' := Aside0.mk H
 clear H
 go_enter Tryz.func158, Tryz.ntmps158
 go_wp2
 go_loopg [5, 6] k (fun kq v5 v6 w' => ∃ (x5_1 : List Int) (x6_1 : Int), v6 = .int .i64 x6_1 ∧ Aside0 (spec_pwCounts.l0 kq l0 a1 x5_1 x6_1 = some r) ∧ Aside0 (kq ≤ k) ∧ Aside0 (Kd.R (Kd.int .i64) 3 w' w.heap.size (fun _ => True) v5 x5_1) ∧ Aside0 (Below w.heap.size w w'))
 case atStart => exact ⟨(([] : List Int)), (0), gR, H', ⟨Nat.le_refl _⟩, ⟨by first | exact Kd.R_nil _ _ _ _ _ | exact Kd.N_nil _ _ _ _ _ | exact Kd.V_nil _ _ _ _ _ | exact Kd.Q_nil _ _ _ _ _ | exact Kd.S_nil _ _ _ _ _⟩, ⟨wB⟩⟩
 case round =>
  clear H'
  (try clear c1); (try clear p2)
  obtain ⟨x5_1, x6_1, rfl, HA, HK1, HO_5, HB⟩ := hrel
  cases gk with
  | zero => exact absurd HA.out (by simp [spec_pwCounts.l0])
  | succ k1 =>
   have H := HA.out
   clear HA
   simp only [spec_pwCounts.l0] at H
   by_cases c3 : x6_1 < a1
   rotate_left
   ·rw [if_neg c3] at H
    have c3b0 : decide (x6_1 < a1) = false := decide_eq_false c3
    clear c3
    obtain rfl := Option.some.inj H
    go_wp2
    go_ret
    exact ⟨_, fR, by exact HO_5.out, wB⟩
   rw [if_pos c3] at H
   have c3b0 := decide_eq_true c3
   clear c3
   replace H := oA H
   obtain ⟨t101, A4, H⟩ := H
   (try dsimp only at H)
   by_cases c5 : x5_1.length < 17592186044416
   rotate_left
   ·rw [if_neg c5] at H
    exact absurd H (by simp)
   rw [if_pos c5] at H
   have LMc5 := Aside0.mk c5
   clear c5
   obtain ⟨y104, hy104⟩ : ∃ y_ : List Int, y_ = (x5_1 ++ [(t101.length : Int)]) := ⟨_, rfl⟩
   replace H : (spec_pwCounts.l0 k1 l0 a1 y104 (wrap64 (x6_1 + 1))) = some r := by first | (rw [hy104]; with_reducible exact H) | (have H2_ := (Option.bind_some _ _).symm.trans H; rw [hy104]; with_reducible exact H2_) | (have H2_ := (Option.bind_some _ _).symm.trans H; with_reducible exact H2_) | with_reducible exact H | (rw [hy104]; exact H) | exact H
   have Ny104 := Aside0.mk hy104
   clear hy104
   have H' := Aside0.mk H
   clear H
   go_wp2_with (first | ((with_reducible refine gate_callee (f := 169) rfl ?_); refine gL 15 Tryz.func169 #[.slice A0 l0.length c0, .int .i64 x6_1] ?_; (with_reducible refine (spec_pwSwings.calls k1 _ _ l0 x6_1 t101 _ (Kd.C_below HR0.out HB.out) HC0.out A4.out).mono ?_); rintro e w6 ⟨v102, rfl, ho0, hb⟩; refine ⟨_, rfl, ?_⟩; have HO103 := Aside0.mk (Kd.R_lower (Kd.R_new' ho0 (Kd.R_lt HO_5.out)) (below_size HB.out)); replace HO_5 := rE HO_5 (Kd.R_base ho0) hb; replace HB := sB HB hb; (try clear hb); (try clear ho0); obtain ⟨Ao7, co7, eo7⟩ := Kd.R_slice HO103.out; subst eo7) | ((with_reducible refine gate_builtin (b := .append) (xs := #[.tmp 12, .tmp 17]) rfl ?_); at_builtin; refine Kd.R_append (Kd.int .i64) (w0 := w) w.heap.size rfl (.tmp 12) (.tmp 17) 24 3 (.int .i64 0) 8 rfl Tryz.underlying24 info3 rfl (by decide) (by omega) u5 x5_1 (t101.length : Int) [.int .i64 (t101.length : Int)] (fun k_ => nb (.slice Ao7 t101.length co7) k_) (fun _ => False) rfl rfl ?aP (fun _ hk => hk.elim) ?aF ?aO ?aB ?aS ?aL ?_; (case aP => exact rfl); (case aB => exact HB.out); (case aF => exact (fun k_ hk => Kd.fresh' (Kd.R_lt HO103.out) k_ hk)); (case aO => exact (by exact Kd.R_mono HO_5.out (fun _ hk => hk.2))); (case aS => exact (below_size HB.out)); (case aL => have := LMc5.out; omega); intro v105 w8 ho hb hg hat; rw [← Ny104.out] at ho; have HO106 := Aside0.mk (ho); replace HO103 := Aside0.mk (Kd.R_after (ok := (fun _ => True)) HO103.out hg hat); replace HB := Aside0.mk (hb); clear ho hb hg hat))
   go_roundg k1
   case measure => have := HK1.out; omega
   case rel => exact ⟨(y104), (wrap64 (x6_1 + 1)), gR, H', ⟨by have := HK1.out; omega⟩, ⟨by exact Kd.R_mono HO106.out (fun _ hk => trivial)⟩, ⟨wB⟩⟩
def spec_SwingsOf.f (k : Nat) (a0_0 : Int) (l0_1 : List Int) : Option (List Int × Bool) := (spec_voGood.f k a0_0 l0_1).bind fun t102 => (if t102 = true then ((spec_voWins.f k a0_0 l0_1).bind fun t103 => ((spec_pwCounts.f k t103 (l0_1.length : Int)).bind fun t106 => (some (t106, true)))) else (some (([] : List Int), false)))
def spec_SwingsOf.T3 : Bool × List (List Nat × List Nat) := (true, [([], []), ([0], [0]), ([], []), ([2], [2]), ([3], [3]), ([1, 4, 1], [1, 4]), ([5, 5, 0, 1, 2, 3, 4, 5], [5]), ([6, 0, 1, 2, 3, 4, 5, 6], [])])
def spec_SwingsOf.B3 : List Nat := [0, 1, 0, 4, 12, 31, 63, 127]
theorem spec_SwingsOf.tab3 : rtab .any (opsOf Tryz.f57 3) = spec_SwingsOf.T3 := by kernel_rfl
theorem spec_SwingsOf.bits3 : waitsOk spec_SwingsOf.T3.2 spec_SwingsOf.B3 = true := by kernel_rfl
theorem spec_SwingsOf.calls (k : Nat) (a0_0 : Int) (A0_1 : Option Addr) (c0_1 : Nat) (l0_1 : List Int) (r1 : List Int) (r2 : Bool) (w : World) (hr0_1 : Kd.C (Kd.int .i64) w A0_1 l0_1.length l0_1) (hc0_1 : l0_1.length ≤ c0_1) (h : spec_SwingsOf.f k a0_0 l0_1 = some (r1, r2)) :
  Calls Tryz.prog 57 #[.agg #[.int .i64 a0_0, .slice A0_1 l0_1.length c0_1]] w fun e w' => ∃ v0_ : Value, e = .returned (.tuple #[v0_, .bool r2]) ∧ Kd.R (Kd.int .i64) 3 w' w.heap.size (fun _ => True) v0_ r1 ∧ Below w.heap.size w w' := by
 have hu26 := Tryz.underlying26
 have HR0_1 := Aside0.mk hr0_1
 have HC0_1 := Aside0.mk hc0_1
 clear hr0_1 hc0_1
 have HB := Aside0.mk (Below.refl w.heap.size w)
 have H := h
 unfold spec_SwingsOf.f at H
 clear h
 replace H := oA H
 obtain ⟨t102, A2, H⟩ := H
 (try dsimp only at H)
 by_cases c3 : t102 = true
 rotate_left
 ·replace c3 := Bool.eq_false_iff.mpr c3
  subst c3
  replace H := iF H
  simp only [Option.some.injEq, Prod.mk.injEq] at H
  obtain ⟨rfl, rfl⟩ := H
  go_enter Tryz.func57, Tryz.ntmps57
  go_wp2_with (first | ((with_reducible refine gate_dst (N := 1) rfl ?_); refine xE (N := 1) (cs := #[.int .i64 a0_0, .slice A0_1 l0_1.length c0_1]) (t := 26) ?_; intro gb101 hg w13 BK101 hb; have GW101 := gS hg HB; have GE101 := gS hg HB; replace HB := sB HB hb; clear hb hg; obtain ⟨hcz14_0, hcz14_1, hfz14_0, hfz14_1⟩ := zZ BK101) | ((with_reducible refine gate_callee (f := 129) rfl ?_); refine gL 5 Tryz.func129 #[.agg #[.int .i64 a0_0, .slice A0_1 l0_1.length c0_1]] ?_; (with_reducible refine (spec_voGood.calls k a0_0 _ _ l0_1 false _ (Kd.C_below HR0_1.out HB.out) HC0_1.out A2.out).mono ?_); rintro e w15 ⟨rfl, hb⟩; refine ⟨_, rfl, ?_⟩; replace BK101 := bB BK101 hb; replace HB := sB HB hb; (try clear hb)))
  go_ret2
  exact ⟨_, fR, by first | exact Kd.R_nil _ _ _ _ _ | exact Kd.N_nil _ _ _ _ _ | exact Kd.V_nil _ _ _ _ _ | exact Kd.Q_nil _ _ _ _ _ | exact Kd.S_nil _ _ _ _ _, wB⟩
 subst c3
 replace H := iT H
 replace H := oA H
 obtain ⟨t103, A4, H⟩ := H
 (try dsimp only at H)
 replace H := oA H
 obtain ⟨t106, A5, H⟩ := H
 (try dsimp only at H)
 simp only [Option.some.injEq, Prod.mk.injEq] at H
 obtain ⟨rfl, rfl⟩ := H
 go_enter Tryz.func57, Tryz.ntmps57
 try go_wp2_with (first | ((with_reducible refine gate_dst (N := 1) rfl ?_); refine xE (N := 1) (cs := #[.int .i64 a0_0, .slice A0_1 l0_1.length c0_1]) (t := 26) ?_; intro gb101 hg w6 BK101 hb; have GW101 := gS hg HB; have GE101 := gS hg HB; replace HB := sB HB hb; clear hb hg; obtain ⟨hcz7_0, hcz7_1, hfz7_0, hfz7_1⟩ := zZ BK101) | ((with_reducible refine gate_callee (f := 129) rfl ?_); refine gL 5 Tryz.func129 #[.agg #[.int .i64 a0_0, .slice A0_1 l0_1.length c0_1]] ?_; (with_reducible refine (spec_voGood.calls k a0_0 _ _ l0_1 true _ (Kd.C_below HR0_1.out HB.out) HC0_1.out A2.out).mono ?_); rintro e w8 ⟨rfl, hb⟩; refine ⟨_, rfl, ?_⟩; replace BK101 := bB BK101 hb; replace HB := sB HB hb; (try clear hb)))
 replace BK101 := bD BK101
 replace HB := Aside0.mk (below_drew1 HB.out)
 refine start_ (n := 8) (S := fun w' => w'.cell? ⟨gb101, 0, none⟩ = some (.int .i64 a0_0) ∧ w'.cell? ⟨gb101, 1, none⟩ = some (.slice A0_1 l0_1.length c0_1)) (ds := []) #[F,F,F,F,F,F,F,F] (by kernel_rfl) rfl rfl ⟨(blk_cell BK101.out 0).trans rfl, (blk_cell BK101.out 1).trans rfl⟩ (fun hHeld => ?_); refine with_tabW spec_SwingsOf.tab3 spec_SwingsOf.bits3 (fun HT_ HW_ => ?_)
 (try clear hcz7_0 hcz7_1 hfz7_0 hfz7_1)
 generalize w8.drew = w9 at BK101 HB hHeld ⊢
 refine pU 2 HT_ ?_
 refine tK 0 HT_ HW_ hHeld (hy := by rintro w' ⟨s0, s1⟩; go_simp; with_reducible rfl) ?_
 refine tK 3 HT_ HW_ hHeld (hy := by rintro w' ⟨s0, s1⟩; go_simp; with_reducible rfl) ?_
 refine pU 4 HT_ ?_
 refine oN 1 HT_ (fun K hK => ?_)
 refine gE Tryz.func141 #[.agg #[.int .i64 a0_0, .slice A0_1 l0_1.length c0_1]] ?_
 with_reducible refine (spec_voWins.calls k a0_0 _ _ l0_1 t103 _ (Kd.C_below HR0_1.out HB.out) HC0_1.out A4.out).mono ?_
 rintro e w10 ⟨v104, rfl, ho0, hb⟩
 refine ⟨_, rfl, ?_⟩
 have HO105 := Aside0.mk (Kd.R_lower ho0 (below_size HB.out))
 replace BK101 := bB BK101 hb
 replace HB := sB HB hb
 (try clear hb)
 (try clear hb2)
 (try clear hk)
 (try clear hi)
 (try clear ho0)
 obtain ⟨Ao11, co11, eo11⟩ := Kd.R_slice HO105.out
 (first | subst eo11 | (injection eo11 with f1_ f2_ f3_; have f4_ := f1_.symm; have f5_ := f3_.symm; clear f1_ f2_ f3_; subst f4_; subst f5_))
 refine hK.out _ _ ⟨(blk_cell BK101.out 0).trans rfl, (blk_cell BK101.out 1).trans rfl⟩ (fun hHeld => ?_)
 clear hK K
 refine nM ?_
 refine oN 5 HT_ (fun K hK => ?_)
 refine gE Tryz.func158 #[.slice Ao11 t103.length co11, .int .i64 (l0_1.length : Int)] ?_
 with_reducible refine (spec_pwCounts.calls k _ _ t103 (l0_1.length : Int) t106 _ ?side1 ?side2 A5.out).mono ?_
 (case side1 => have hx_ := (Kd.R_reads' HO105.out).2.2; exact cC)
 (case side2 => exact (Kd.R_reads' HO105.out).2.1)
 rintro e w12 ⟨v107, rfl, ho0, hb⟩
 refine ⟨_, rfl, ?_⟩
 have HO108 := Aside0.mk (Kd.R_lower ho0 (below_size HB.out))
 replace HO105 := rB HO105 hb
 replace BK101 := bB BK101 hb
 replace HB := sB HB hb
 (try clear hb)
 (try clear hb2)
 (try clear hk)
 (try clear hi)
 (try clear ho0)
 refine hK.out _ _ ⟨(blk_cell BK101.out 0).trans rfl, (blk_cell BK101.out 1).trans rfl⟩ (fun hHeld => ?_)
 clear hK K
 refine nM ?_
 refine pU 6 HT_ ?_
 refine pU 7 HT_ ?_
 refine done_ (done_of HT_.out (by kernel_rfl)) ?_
 try go_wp2
 go_ret2
 exact ⟨_, fR, by exact HO108.out, wB⟩
def impl_gcd.l0 : Nat → Int → Int → Option (Int)
 | 0, _, _ => none
 | k + 1, x0, x1 => if x1 = 0 then (some x0) else (impl_gcd.l0 k x1 (Int.tmod x0 x1))
def impl_gcd.f (k : Nat) (a0 : Int) (a1 : Int) : Option (Int) := impl_gcd.l0 k a0 a1
theorem impl_gcd.calls (k : Nat) (a0 : Int) (a1 : Int) (r : Int) (w : World) (h : impl_gcd.f k a0 a1 = some r) :
  Calls Tryz.prog 218 #[.int .i64 a0, .int .i64 a1] w fun e w' => e = .returned (.int .i64 r) ∧ Drawn0 w w' := by
 have H : (impl_gcd.l0 k a0 a1) = some r := h
 clear h
 have H' := Aside0.mk H
 clear H
 go_enter Tryz.func218, Tryz.ntmps218
 go_wp2
 repeat (go_quiet (fail); try go_wp2)
 go_loopg [0, 1] k (fun kq v0 v1 w' => ∃ (x0_1 : Int) (x1_1 : Int), v0 = .int .i64 x0_1 ∧ v1 = .int .i64 x1_1 ∧ Aside0 (impl_gcd.l0 kq x0_1 x1_1 = some r) ∧ Aside0 (kq ≤ k) ∧ Drawn0 w w')
 case atStart => exact ⟨(a0), (a1), gR, gR, H', ⟨Nat.le_refl _⟩, dS⟩
 case round =>
  clear H'
  (try clear c2); (try clear p2)
  obtain ⟨x0_1, x1_1, rfl, rfl, HA, HK1, ⟨m1, rfl⟩⟩ := hrel
  cases gk with
  | zero => exact absurd HA.out (by simp [impl_gcd.l0])
  | succ k1 =>
   have H := HA.out
   clear HA
   simp only [impl_gcd.l0] at H
   by_cases c3 : x1_1 = 0
   ·rw [if_pos c3] at H
    have c3b0 : (x1_1 == 0) = true := beq_iff_eq.mpr c3
    have c3b1 : (x1_1 != 0) = false := bne_eq_false_iff_eq.mpr c3
    clear c3
    obtain rfl := Option.some.inj H
    go_wp2
    repeat (go_quiet (fail); try go_wp2)
    go_ret
    exact ⟨by first | rfl | (simp; done) | (simp [*]; done), dS⟩
   rw [if_neg c3] at H
   have c3b0 : (x1_1 == 0) = false := beq_eq_false_iff_ne.mpr c3
   have c3b1 : (x1_1 != 0) = true := bne_iff_ne.mpr c3
   have H' := Aside0.mk H
   clear H
   go_wp2
   repeat (go_quiet (fail); try go_wp2)
   go_roundg k1
   case measure => have := HK1.out; omega
   case rel => exact ⟨(x1_1), (Int.tmod x0_1 x1_1), gR, gR, H', ⟨by have := HK1.out; omega⟩, dS⟩
end Go.Proofs.YtamfpkefnhcngaaGreat.Q
namespace Go.Proofs.YtamfpkefnhcngaaGreat.Q
open Go.RowKit Go.Proofs.YtamfpkefnhcngaaGreatX Go.Proofs.YtamfpkefnhcngaaGreatY Go.Proofs.YtamfpkefnhcngaaGreatW.PrintWords Go.Proofs.YtamfpkefnhcngaaGreatW.PrintLast Go.Proofs.YtamfpkefnhcngaaGreatW.PrintMore
attribute [local go_sem] max2_int min2_int max_two min_two max_three min_three max_four min_four   -- for this text's walks alone
set_option linter.unusedVariables false
set_option linter.unusedSimpArgs false
def impl_shareOf.f (k : Nat) (a0 : Int) (a1 : Int) : Option (Int × Int) := (impl_gcd.f k a0 a1).bind fun t102 => (if t102 = 0 then (none) else (some (wrap64 (Int.tdiv a0 t102), wrap64 (Int.tdiv a1 t102))))
def impl_shareOf.T2 : Bool × List (List Nat × List Nat) := (true, [([], []), ([], []), ([0, 1], [0, 1]), ([], []), ([], []), ([3, 4], [3, 4]), ([2, 5], [2, 5]), ([6, 0, 1, 2, 3, 4, 5, 6], [6])])
def impl_shareOf.B2 : List Nat := [0, 0, 3, 0, 0, 24, 63, 127]
theorem impl_shareOf.tab2 : rtab .any (opsOf Tryz.f162 2) = impl_shareOf.T2 := by kernel_rfl
theorem impl_shareOf.bits2 : waitsOk impl_shareOf.T2.2 impl_shareOf.B2 = true := by kernel_rfl
theorem impl_shareOf.calls (k : Nat) (a0 : Int) (a1 : Int) (r1 : Int) (r2 : Int) (w : World) (h : impl_shareOf.f k a0 a1 = some (r1, r2)) :
  Calls Tryz.prog 162 #[.int .i64 a0, .int .i64 a1] w fun e w' => e = .returned (.agg #[.int .i64 r1, .int .i64 r2]) ∧ Below w.heap.size w w' := by
 have hu60 := Tryz.underlying60
 have HB := Aside0.mk (Below.refl w.heap.size w)
 have H := h
 unfold impl_shareOf.f at H
 clear h
 replace H := oB H
 obtain ⟨t102, A30, H⟩ := H
 replace H : (if t102 = 0 then (none) else (some (wrap64 (Int.tdiv a0 t102), wrap64 (Int.tdiv a1 t102)))) = some (r1, r2) := H
 have A3 := Aside0.mk A30
 clear A30
 by_cases c4 : t102 = 0
 ·rw [if_pos c4] at H
  exact absurd H (by simp)
 rw [if_neg c4] at H
 have c4b0 : (t102 == 0) = false := beq_eq_false_iff_ne.mpr c4
 have c4b1 : (t102 != 0) = true := bne_iff_ne.mpr c4
 simp only [Option.some.injEq, Prod.mk.injEq] at H
 obtain ⟨rfl, rfl⟩ := H
 go_enter Tryz.func162, Tryz.ntmps162
 try go_wp2_with (first | ((with_reducible refine gate_dst (N := 4) rfl ?_); refine box_event ?hg (N := 4) ?hd (cs := #[.int .i64 0, .int .i64 0]) (t := 60) ?hr ?_; (case hd => rfl); (case hg => rfl); (case hr => first | (go_simp; done) | (go_simp; rfl)); intro gb101 hg w5 hbox hb; have n0_ := sQ hb; have n1_ := Aside0.mk (hbox); have n2_ := Aside0.mk ((by rw [hg]; exact (below_size (wB)) : w.heap.size ≤ gb101)); have n3_ := Aside0.mk ((by rw [hg]; exact (below_size (wB)) : w.heap.size ≤ gb101)); clear HB; have HB := n0_; have BK101 := n1_; have GW101 := n2_; have GE101 := n3_; clear n0_ n1_ n2_ n3_; clear hb hbox hg) | ((with_reducible refine gate_callee (f := 218) rfl ?_); refine gL 8 Tryz.func218 #[.int .i64 a0, .int .i64 a1] ?_; (with_reducible refine (impl_gcd.calls k a0 a1 t102 _ A3.out).mono ?_); rintro e w' ⟨rfl, ⟨nd, rfl⟩⟩; refine ⟨_, rfl, ?_⟩; (try (rw [drewN_self w5]; generalize hq_ : World.drewN w5 _ = w5; have n0_ : Aside0 (w5.heap[gb101]? = some (.cells #[.int .i64 0, .int .i64 0] 60 (0, 0))) := ⟨by rw [← hq_]; exact (bQ BK101)⟩; have n1_ : Aside0 (Below w.heap.size w w5) := ⟨by rw [← hq_]; exact (wB)⟩; clear BK101 HB hq_; have BK101 := n0_; have HB := n1_; clear n0_ n1_))))
 have n0_ := bD BK101
 have n1_ := Aside0.mk (below_drew1 HB.out)
 clear BK101
 clear HB
 have BK101 := n0_
 have HB := n1_
 clear n0_ n1_
 refine start_ (n := 8) (S := fun w' => True) (ds := []) #[false, false, false, false, false, false, false, false] (by kernel_rfl) rfl rfl trivial (fun hHeld => ?_); refine with_tabW impl_shareOf.tab2 impl_shareOf.bits2 (fun HT_ HW_ => ?_)
 generalize w5.drew = w6 at BK101 HB hHeld ⊢
 refine pU 0 HT_ ?_
 refine pU 1 HT_ ?_
 refine pU 2 HT_ ?_
 refine pU 3 HT_ ?_
 refine pU 4 HT_ ?_
 refine pU 5 HT_ ?_
 refine pU 6 HT_ ?_
 refine oN 7 HT_ (fun K hK => ?_)
 have hs7 : w6.cell? ⟨gb101, 0, none⟩ = some (.int .i64 0) := (blk_cell BK101.out 0).trans rfl
 have hfs7 := blk_frozen BK101.out 0
 have hs8 : w6.cell? ⟨gb101, 1, none⟩ = some (.int .i64 0) := (blk_cell BK101.out 1).trans rfl
 have hfs8 := blk_frozen BK101.out 1
 refine skip_ (w1 := ?_) (by rfl) rfl ?_ ?_
 rotate_left
 ·go_simp
  rfl
 refine hK.out _ _ trivial (fun hHeld => ?_)
 clear hK K
 refine done_ (done_of HT_.out (by kernel_rfl)) ?_
 try go_wp2
 refine bodyPost_ret (results_cell_row rfl _ _ gb101 60 #[.int .i64 (wrap64 (Int.tdiv a0 t102)), .int .i64 (wrap64 (Int.tdiv a1 t102))] (0, 0) _ rfl (by (try refine bp ?_); refine blk_put (cs := #[.int .i64 (wrap64 (Int.tdiv a0 t102)), .int .i64 0]) ?_ 1 _ rfl; (try refine bp ?_); refine blk_put (cs := #[.int .i64 0, .int .i64 0]) ?_ 0 _ rfl; (first | exact bp BK101.out | exact BK101.out)) Tryz.underlying60 rfl (by kernel_rfl)) rfl ?_
 exact ⟨fR, wB⟩
end Go.Proofs.YtamfpkefnhcngaaGreat.Q
namespace Go.Proofs.YtamfpkefnhcngaaGreat.Q
open Go.RowKit Go.Proofs.YtamfpkefnhcngaaGreatX Go.Proofs.YtamfpkefnhcngaaGreatY Go.Proofs.YtamfpkefnhcngaaGreatX Go.Proofs.YtamfpkefnhcngaaGreatW.PrintWords Go.Proofs.YtamfpkefnhcngaaGreatW.PrintLast Go.Proofs.YtamfpkefnhcngaaGreatW.PrintMore
attribute [local go_sem] max2_int min2_int max_two min_two max_three min_three max_four min_four   -- for this text's walks alone
set_option linter.unusedVariables false
set_option linter.unusedSimpArgs false
def impl_sharesOf.l0 : Nat → Int → List (S60) → List Int → Int → Int → Option ((List (S60)))
 | 0, _, _, _, _, _ => none
 | k + 1, x1, x5, x9, x10, x11 => if x11 < x10 then (if 0 ≤ x11 then (if x11 < (x9.length : Int) then ((impl_shareOf.f k (rd x9 x11) x1).bind fun bt105 => (if x5.length < 8796093022208 then (impl_sharesOf.l0 k x1 (x5 ++ [(⟨bt105.1, bt105.2⟩ : S60)]) x9 x10 (wrap64 (x11 + 1))) else (none))) else (none)) else (none)) else (some x5)
def impl_sharesOf.f (k : Nat) (l0 : List Int) (a1 : Int) : Option ((List (S60))) := impl_sharesOf.l0 k a1 (([] : List (S60))) l0 (l0.length : Int) 0
theorem impl_sharesOf.calls (k : Nat) (A0 : Option Addr) (c0 : Nat) (l0 : List Int) (a1 : Int) (r : List (S60)) (w : World) (hr0 : Kd.C (Kd.int .i64) w A0 l0.length l0) (hc0 : l0.length ≤ c0) (h : impl_sharesOf.f k l0 a1 = some r) :
  Calls Tryz.prog 159 #[.slice A0 l0.length c0, .int .i64 a1] w fun e w' => ∃ v0_ : Value, e = .returned (v0_) ∧ Kd.R k60 60 w' w.heap.size (fun _ => True) v0_ r ∧ Below w.heap.size w w' := by
 have HR0 := Aside0.mk hr0
 have HC0 := Aside0.mk hc0
 clear hr0 hc0
 have HB := Aside0.mk (Below.refl w.heap.size w)
 have H := h
 unfold impl_sharesOf.f at H
 clear h
 obtain ⟨y101, hy101⟩ : ∃ y_ : List (S60), y_ = (([] : List (S60))) := ⟨_, rfl⟩
 replace H : (impl_sharesOf.l0 k a1 y101 l0 (l0.length : Int) 0) = some r := by first | (rw [hy101]; with_reducible exact H) | (have H2_ := (Option.bind_some _ _).symm.trans H; rw [hy101]; with_reducible exact H2_) | (have H2_ := (Option.bind_some _ _).symm.trans H; with_reducible exact H2_) | with_reducible exact H | (rw [hy101]; exact H) | exact H
 have Ny101 := Aside0.mk hy101
 clear hy101
 have H' := Aside0.mk H
 clear H
 go_enter Tryz.func159, Tryz.ntmps159
 go_wp2_with (first | ((with_reducible refine gate_dst (N := 8) rfl ?_); refine Kd.R_lit k60 _ 60 ?hg (N := 8) ?hd (xs := ([] : List (S60))) (inner := []) (ok := fun _ => True) (okp := fun _ => True) ?hr ?hp (fun _ hk => hk) trivial (Below.refl _ _) (Nat.le_refl _) (by simp) ?_; (case hd => rfl); (case hg => rfl); (case hr => first | (go_simp; done) | (go_simp; rfl)); (case hp => exact (Reps.none _ _)); intro v102 w3 ho4 hb hg_ hnew_; clear hg_ hnew_; (first | rw [← Ny101.out] at ho4 | (simp only [Int.reduceToNat] at ho4; rw [← Ny101.out] at ho4)); have HO103 := Aside0.mk (Kd.R_lower ho4 (below_size HB.out)); replace HB := sB HB hb; clear hb ho4))
 go_loopg [5, 11] k (fun kq v5 v11 w' => ∃ (x5_1 : List (S60)) (x11_1 : Int), v11 = .int .i64 x11_1 ∧ Aside0 (impl_sharesOf.l0 kq a1 x5_1 l0 (l0.length : Int) x11_1 = some r) ∧ Aside0 (kq ≤ k) ∧ Aside0 (Kd.R k60 60 w' w.heap.size (fun _ => True) v5 x5_1) ∧ Aside0 (Below w.heap.size w w'))
 case atStart => exact ⟨(y101), (0), gR, H', ⟨Nat.le_refl _⟩, ⟨by exact HO103.out⟩, ⟨wB⟩⟩
 case round =>
  clear H'
  (try clear c1); (try clear p2)
  obtain ⟨x5_1, x11_1, rfl, HA, HK1, HO_5, HB⟩ := hrel
  cases gk with
  | zero => exact absurd HA.out (by simp [impl_sharesOf.l0])
  | succ k1 =>
   have H := HA.out
   clear HA
   simp only [impl_sharesOf.l0] at H
   by_cases c5 : x11_1 < (l0.length : Int)
   rotate_left
   ·rw [if_neg c5] at H
    have c5b0 : decide (x11_1 < (l0.length : Int)) = false := decide_eq_false c5
    clear c5
    obtain rfl := Option.some.inj H
    go_wp2
    go_ret
    exact ⟨_, fR, by exact HO_5.out, wB⟩
   rw [if_pos c5] at H
   have c5b0 := decide_eq_true c5
   clear c5
   by_cases c6 : 0 ≤ x11_1
   rotate_left
   ·rw [if_neg c6] at H
    exact absurd H (by simp)
   rw [if_pos c6] at H
   have c6b0 := decide_eq_true c6
   clear c6
   by_cases c7 : x11_1 < (l0.length : Int)
   rotate_left
   ·rw [if_neg c7] at H
    exact absurd H (by simp)
   rw [if_pos c7] at H
   have c7b0 := decide_eq_true c7
   clear c7
   replace H := oB H
   obtain ⟨⟨t105, t106⟩, A80, H⟩ := H
   (try dsimp only at H)
   have A8 := Aside0.mk A80
   clear A80
   by_cases c9 : x5_1.length < 8796093022208
   rotate_left
   ·rw [if_neg c9] at H
    exact absurd H (by simp)
   rw [if_pos c9] at H
   have LMc9 := Aside0.mk c9
   clear c9
   obtain ⟨y107, hy107⟩ : ∃ y_ : List (S60), y_ = (x5_1 ++ [(⟨t105, t106⟩ : S60)]) := ⟨_, rfl⟩
   replace H : (impl_sharesOf.l0 k1 a1 y107 l0 (l0.length : Int) (wrap64 (x11_1 + 1))) = some r := by first | (rw [hy107]; with_reducible exact H) | (have H2_ := (Option.bind_some _ _).symm.trans H; rw [hy107]; with_reducible exact H2_) | (have H2_ := (Option.bind_some _ _).symm.trans H; with_reducible exact H2_) | with_reducible exact H | (rw [hy107]; exact H) | exact H
   have Ny107 := Aside0.mk hy107
   clear hy107
   have H' := Aside0.mk H
   clear H
   have p104 : 0 ≤ (x11_1 : Int) := oD
   have q104 : x11_1 < (l0.length : Int) := oD
   obtain ⟨ad104, e104, hx104_0⟩ := Kd.at_int HR0.out x11_1 p104 q104
   cases e104
   replace hx104_0 := (HB.out.cell (World.block_lt_of_cell? w _ hx104_0)).trans hx104_0
   replace p104 := eq_true p104
   replace q104 := eq_true q104
   go_wp2_with (first | ((with_reducible refine gate_callee (f := 162) rfl ?_); refine gL 18 Tryz.func162 #[.int .i64 (rd l0 x11_1), .int .i64 a1] ?_; (with_reducible refine (impl_shareOf.calls k1 (rd l0 x11_1) a1 t105 t106 _ A8.out).mono ?_); rintro e w10 ⟨rfl, hb⟩; refine ⟨_, rfl, ?_⟩; replace HO_5 := rB HO_5 hb; replace HB := sB HB hb; (try clear hb)) | ((with_reducible refine gate_builtin (b := .append) (xs := #[.tmp 15, .tmp 19]) rfl ?_); at_builtin; refine Kd.R_append k60 (w0 := w) w.heap.size rfl (.tmp 15) (.tmp 19) 56 60 (.agg #[(.int .i64 0), (.int .i64 0)]) 16 rfl Tryz.underlying56 info60 rfl (by decide) (by omega) u5 x5_1 (⟨t105, t106⟩ : S60) [.int .i64 t105, .int .i64 t106] (fun _ => True) (fun _ => False) rfl rfl ?aP (fun _ hk => hk.elim) ?aF ?aO ?aB ?aS ?aL ?_; (case aP => exact k60_mkM _ _ _ (⟨t105, t106⟩ : S60)); (case aB => exact HB.out); (case aF => exact (fun _ _ => trivial)); (case aO => exact HO_5.out); (case aS => exact (below_size HB.out)); (case aL => have := LMc9.out; omega); intro v108 w11 ho hb hg hat; rw [← Ny107.out] at ho; have HO109 := Aside0.mk (ho); replace HB := Aside0.mk (hb); clear ho hb hg hat))
   go_roundg k1
   case measure => have := HK1.out; omega
   case rel => exact ⟨(y107), (wrap64 (x11_1 + 1)), gR, H', ⟨by have := HK1.out; omega⟩, ⟨by exact HO109.out⟩, ⟨wB⟩⟩
def impl_SwingPowers.f (k : Nat) (a0_0 : Int) (l0_1 : List Int) : Option ((List (S60)) × Bool) := (impl_IsCommittee.f k a0_0 l0_1).bind fun t102 => (if t102 = true then ((impl_Committee_votes.f k a0_0 l0_1).bind fun bt103 => ((impl_votes_swings.f k bt103.1 bt103.2).bind fun t108 => ((impl_sharesOf.f k t108 (wrap64 ((bt103.2.length : Int) / 2))).bind fun t111 => (some (t111, true))))) else (some (([] : List (S60)), false)))
def impl_SwingPowers.T4 : Bool × List (List Nat × List Nat) := (true, [([], []), ([0], [0]), ([], []), ([2], [2]), ([3], [3]), ([4], [4]), ([1, 5, 1], [1, 5]), ([6, 6, 0, 1, 2, 3, 4, 5, 6], [6]), ([7, 0, 1, 2, 3, 4, 5, 6, 7], [])])
def impl_SwingPowers.B4 : List Nat := [0, 1, 0, 4, 12, 28, 63, 127, 255]
theorem impl_SwingPowers.tab4 : rtab .any (opsOf Tryz.f58 4) = impl_SwingPowers.T4 := by kernel_rfl
theorem impl_SwingPowers.bits4 : waitsOk impl_SwingPowers.T4.2 impl_SwingPowers.B4 = true := by kernel_rfl
theorem impl_SwingPowers.calls (k : Nat) (a0_0 : Int) (A0_1 : Option Addr) (c0_1 : Nat) (l0_1 : List Int) (r1 : List (S60)) (r2 : Bool) (w : World) (hr0_1 : Kd.C (Kd.int .i64) w A0_1 l0_1.length l0_1) (hc0_1 : l0_1.length ≤ c0_1) (h : impl_SwingPowers.f k a0_0 l0_1 = some (r1, r2)) :
  Calls Tryz.prog 58 #[.agg #[.int .i64 a0_0, .slice A0_1 l0_1.length c0_1]] w fun e w' => ∃ v0_ : Value, e = .returned (.tuple #[v0_, .bool r2]) ∧ Kd.R k60 60 w' w.heap.size (fun _ => True) v0_ r1 ∧ Below w.heap.size w w' := by
 have hu26 := Tryz.underlying26
 have hu87 := Tryz.underlying87
 have HR0_1 := Aside0.mk hr0_1
 have HC0_1 := Aside0.mk hc0_1
 clear hr0_1 hc0_1
 have HB := Aside0.mk (Below.refl w.heap.size w)
 have H := h
 unfold impl_SwingPowers.f at H
 clear h
 replace H := oA H
 obtain ⟨t102, A2, H⟩ := H
 (try dsimp only at H)
 by_cases c3 : t102 = true
 rotate_left
 ·replace c3 := Bool.eq_false_iff.mpr c3
  subst c3
  replace H := iF H
  simp only [Option.some.injEq, Prod.mk.injEq] at H
  obtain ⟨rfl, rfl⟩ := H
  go_enter Tryz.func58, Tryz.ntmps58
  go_wp2_with (first | ((with_reducible refine gate_dst (N := 1) rfl ?_); refine xE (N := 1) (cs := #[.int .i64 a0_0, .slice A0_1 l0_1.length c0_1]) (t := 26) ?_; intro gb101 hg w21 BK101 hb; have GW101 := gS hg HB; have GE101 := gS hg HB; replace HB := sB HB hb; clear hb hg; obtain ⟨hcz22_0, hcz22_1, hfz22_0, hfz22_1⟩ := zZ BK101) | ((with_reducible refine gate_callee (f := 20) rfl ?_); refine gL 6 Tryz.func20 #[.agg #[.int .i64 a0_0, .slice A0_1 l0_1.length c0_1]] ?_; (with_reducible refine (impl_IsCommittee.calls k a0_0 _ _ l0_1 false _ (Kd.C_below HR0_1.out HB.out) HC0_1.out A2.out).mono ?_); rintro e w23 ⟨rfl, hb⟩; refine ⟨_, rfl, ?_⟩; replace BK101 := bB BK101 hb; replace HB := sB HB hb; (try clear hb)))
  go_ret2
  exact ⟨_, fR, by first | exact Kd.R_nil _ _ _ _ _ | exact Kd.N_nil _ _ _ _ _ | exact Kd.V_nil _ _ _ _ _ | exact Kd.Q_nil _ _ _ _ _ | exact Kd.S_nil _ _ _ _ _, wB⟩
 subst c3
 replace H := iT H
 replace H := oB H
 obtain ⟨⟨t103, t104⟩, A40, H⟩ := H
 (try dsimp only at H)
 have A4 := Aside0.mk A40
 clear A40
 replace H := oA H
 obtain ⟨t108, A5, H⟩ := H
 (try dsimp only at H)
 replace H := oA H
 obtain ⟨t111, A6, H⟩ := H
 (try dsimp only at H)
 simp only [Option.some.injEq, Prod.mk.injEq] at H
 obtain ⟨rfl, rfl⟩ := H
 go_enter Tryz.func58, Tryz.ntmps58
 try go_wp2_with (first | ((with_reducible refine gate_dst (N := 1) rfl ?_); refine xE (N := 1) (cs := #[.int .i64 a0_0, .slice A0_1 l0_1.length c0_1]) (t := 26) ?_; intro gb101 hg w7 BK101 hb; have GW101 := gS hg HB; have GE101 := gS hg HB; replace HB := sB HB hb; clear hb hg; obtain ⟨hcz8_0, hcz8_1, hfz8_0, hfz8_1⟩ := zZ BK101) | ((with_reducible refine gate_callee (f := 20) rfl ?_); refine gL 6 Tryz.func20 #[.agg #[.int .i64 a0_0, .slice A0_1 l0_1.length c0_1]] ?_; (with_reducible refine (impl_IsCommittee.calls k a0_0 _ _ l0_1 true _ (Kd.C_below HR0_1.out HB.out) HC0_1.out A2.out).mono ?_); rintro e w9 ⟨rfl, hb⟩; refine ⟨_, rfl, ?_⟩; replace BK101 := bB BK101 hb; replace HB := sB HB hb; (try clear hb); (try clear hcz8_0 hcz8_1 hfz8_0 hfz8_1); obtain ⟨hcz10_0, hcz10_1, hfz10_0, hfz10_1⟩ := zZ BK101) | ((with_reducible refine gate_callee (f := 135) rfl ?_); refine gL 9 Tryz.func135 #[.agg #[.int .i64 a0_0, .slice A0_1 l0_1.length c0_1]] ?_; (with_reducible refine (impl_Committee_votes.calls k a0_0 _ _ l0_1 t103 t104 _ (Kd.C_below HR0_1.out HB.out) HC0_1.out A4.out).mono ?_); rintro e w11 ⟨v105, rfl, ho0, hb⟩; refine ⟨_, rfl, ?_⟩; have HO106 := Aside0.mk (Kd.R_lower ho0 (below_size HB.out)); replace BK101 := bB BK101 hb; replace HB := sB HB hb; (try clear hb); (try clear ho0)) | ((with_reducible refine gate_dst (N := 4) rfl ?_); refine xE (N := 4) (cs := #[.int .i64 0, .slice none 0 0]) (t := 87) ?_; intro gb107 hg w12 BK107 hb; have GW107 := gS hg HB; have GE107 := gS hg HB; have NB101_107 := nL hg (blk_lt BK101.out); have NB107_101 := nG hg (blk_lt BK101.out); replace HO106 := rB HO106 hb; replace BK101 := bB BK101 hb; replace HB := sB HB hb; clear hb hg; have hnb13 := NB107_101.out; have hnc13 := NB101_107.out; (try clear hcz10_0 hcz10_1 hfz10_0 hfz10_1); obtain ⟨hcz14_0, hcz14_1, hfz14_0, hfz14_1⟩ := zZ BK107; obtain ⟨Ao15, co15, eo15⟩ := Kd.R_slice HO106.out; subst eo15))
 have n0_ : Aside0 (Kd.R Kd.bool 4 ((w12.setCell ⟨gb107, 0, none⟩ (.int .i64 t103)).setCell ⟨gb107, 1, none⟩ (.slice Ao15 t104.length co15)) w.heap.size (fun _ => True) (.slice Ao15 t104.length co15) t104) := ⟨by exact Kd.R_mono (Kd.R_far (p := ⟨gb107, 1, none⟩) (Kd.R_far (p := ⟨gb107, 0, none⟩) (Kd.R_types HO106.out BK107.out (by decide)) (fun _ hk => hk.2) (.int .i64 t103)) (fun _ hk => hk.2) (.slice Ao15 t104.length co15)) (fun _ hk => trivial)⟩
 have n1_ : Aside0 (((w12.setCell ⟨gb107, 0, none⟩ (.int .i64 t103)).setCell ⟨gb107, 1, none⟩ (.slice Ao15 t104.length co15)).heap[gb101]? = some (.cells #[.int .i64 a0_0, .slice A0_1 l0_1.length c0_1] 26 (0, 0))) := ⟨by refine blk_far ?_ NB101_107.out _; refine blk_far ?_ NB101_107.out _; exact BK101.out⟩
 have n2_ : Aside0 (((w12.setCell ⟨gb107, 0, none⟩ (.int .i64 t103)).setCell ⟨gb107, 1, none⟩ (.slice Ao15 t104.length co15)).heap[gb107]? = some (.cells #[.int .i64 t103, .slice Ao15 t104.length co15] 87 (0, 0))) := ⟨by refine blk_put (cs := #[.int .i64 t103, .slice none 0 0]) ?_ 1 _ rfl; refine blk_put (cs := #[.int .i64 0, .slice none 0 0]) ?_ 0 _ rfl; exact BK107.out⟩
 have n3_ : Aside0 (Below w.heap.size w ((w12.setCell ⟨gb107, 0, none⟩ (.int .i64 t103)).setCell ⟨gb107, 1, none⟩ (.slice Ao15 t104.length co15))) := ⟨wB⟩
 (try clear HO106)
 (try clear BK101)
 (try clear BK107)
 (try clear HB)
 (try clear hcz14_0 hcz14_1 hfz14_0 hfz14_1)
 generalize ((w12.setCell ⟨gb107, 0, none⟩ (.int .i64 t103)).setCell ⟨gb107, 1, none⟩ (.slice Ao15 t104.length co15)) = w16 at n0_ n1_ n2_ n3_ ⊢
 have HO106 := n0_
 have BK101 := n1_
 have BK107 := n2_
 have HB := n3_
 clear n0_ n1_ n2_ n3_
 replace HO106 := rD HO106
 replace BK101 := bD BK101
 replace BK107 := bD BK107
 replace HB := Aside0.mk (below_drew1 HB.out)
 refine start_ (n := 9) (S := fun w' => w'.cell? ⟨gb107, 0, none⟩ = some (.int .i64 t103) ∧ w'.cell? ⟨gb107, 1, none⟩ = some (.slice Ao15 t104.length co15)) (ds := []) #[F,F,F,F,F,F,F,F,F] (by kernel_rfl) rfl rfl ⟨(blk_cell BK107.out 0).trans rfl, (blk_cell BK107.out 1).trans rfl⟩ (fun hHeld => ?_); refine with_tabW impl_SwingPowers.tab4 impl_SwingPowers.bits4 (fun HT_ HW_ => ?_)
 generalize w16.drew = w17 at HO106 BK101 BK107 HB hHeld ⊢
 refine pU 2 HT_ ?_
 refine tK 0 HT_ HW_ hHeld (hy := by rintro w' ⟨s0, s1⟩; go_simp; with_reducible rfl) ?_
 refine tK 3 HT_ HW_ hHeld (hy := by rintro w' ⟨s0, s1⟩; go_simp; with_reducible rfl) ?_
 refine pU 4 HT_ ?_
 refine pU 5 HT_ ?_
 refine oN 1 HT_ (fun K hK => ?_)
 refine gE Tryz.func157 #[.agg #[.int .i64 t103, .slice Ao15 t104.length co15]] ?_
 with_reducible refine (impl_votes_swings.calls k t103 _ _ t104 t108 _ ?side1 ?side2 A5.out).mono ?_
 (case side1 => have hx_ := (Kd.R_reads' HO106.out).2.2; exact cC)
 (case side2 => exact (Kd.R_reads' HO106.out).2.1)
 rintro e w18 ⟨v109, rfl, ho0, hb⟩
 refine ⟨_, rfl, ?_⟩
 have HO110 := Aside0.mk (Kd.R_lower ho0 (below_size HB.out))
 replace HO106 := rB HO106 hb
 replace BK101 := bB BK101 hb
 replace BK107 := bB BK107 hb
 replace HB := sB HB hb
 (try clear hb)
 (try clear hb2)
 (try clear hk)
 (try clear hi)
 (try clear ho0)
 obtain ⟨Ao19, co19, eo19⟩ := Kd.R_slice HO110.out
 (first | subst eo19 | (injection eo19 with f1_ f2_ f3_; have f4_ := f1_.symm; have f5_ := f3_.symm; clear f1_ f2_ f3_; subst f4_; subst f5_))
 refine hK.out _ _ ⟨(blk_cell BK107.out 0).trans rfl, (blk_cell BK107.out 1).trans rfl⟩ (fun hHeld => ?_)
 clear hK K
 refine nM ?_
 refine oN 6 HT_ (fun K hK => ?_)
 refine gE Tryz.func159 #[.slice Ao19 t108.length co19, .int .i64 (wrap64 ((t104.length : Int) / 2))] ?_
 with_reducible refine (impl_sharesOf.calls k _ _ t108 (wrap64 ((t104.length : Int) / 2)) t111 _ ?side1 ?side2 A6.out).mono ?_
 (case side1 => have hx_ := (Kd.R_reads' HO110.out).2.2; exact cC)
 (case side2 => exact (Kd.R_reads' HO110.out).2.1)
 rintro e w20 ⟨v112, rfl, ho0, hb⟩
 refine ⟨_, rfl, ?_⟩
 have HO113 := Aside0.mk (Kd.R_lower ho0 (below_size HB.out))
 replace HO106 := rB HO106 hb
 replace HO110 := rB HO110 hb
 replace BK101 := bB BK101 hb
 replace BK107 := bB BK107 hb
 replace HB := sB HB hb
 (try clear hb)
 (try clear hb2)
 (try clear hk)
 (try clear hi)
 (try clear ho0)
 refine hK.out _ _ ⟨(blk_cell BK107.out 0).trans rfl, (blk_cell BK107.out 1).trans rfl⟩ (fun hHeld => ?_)
 clear hK K
 refine nM ?_
 refine pU 7 HT_ ?_
 refine pU 8 HT_ ?_
 refine done_ (done_of HT_.out (by kernel_rfl)) ?_
 try go_wp2
 go_ret2
 exact ⟨_, fR, by exact HO113.out, wB⟩
def spec_pwCommon.l0 : Nat → Int → Int → Option (Int)
 | 0, _, _ => none
 | k + 1, x0, x1 => if x1 > 0 then (if x1 = 0 then (none) else (spec_pwCommon.l0 k x1 (Int.tmod x0 x1))) else (some x0)
def spec_pwCommon.f (k : Nat) (a0 : Int) (a1 : Int) : Option (Int) := spec_pwCommon.l0 k a0 a1
theorem spec_pwCommon.calls (k : Nat) (a0 : Int) (a1 : Int) (r : Int) (w : World) (h : spec_pwCommon.f k a0 a1 = some r) :
  Calls Tryz.prog 217 #[.int .i64 a0, .int .i64 a1] w fun e w' => e = .returned (.int .i64 r) ∧ Drawn0 w w' := by
 have H : (spec_pwCommon.l0 k a0 a1) = some r := h
 clear h
 have H' := Aside0.mk H
 clear H
 go_enter Tryz.func217, Tryz.ntmps217
 go_wp2
 repeat (go_quiet (fail); try go_wp2)
 go_loopg [0, 1] k (fun kq v0 v1 w' => ∃ (x0_1 : Int) (x1_1 : Int), v0 = .int .i64 x0_1 ∧ v1 = .int .i64 x1_1 ∧ Aside0 (spec_pwCommon.l0 kq x0_1 x1_1 = some r) ∧ Aside0 (kq ≤ k) ∧ Drawn0 w w')
 case atStart => exact ⟨(a0), (a1), gR, gR, H', ⟨Nat.le_refl _⟩, dS⟩
 case round =>
  clear H'
  (try clear c2); (try clear p2)
  obtain ⟨x0_1, x1_1, rfl, rfl, HA, HK1, ⟨m1, rfl⟩⟩ := hrel
  cases gk with
  | zero => exact absurd HA.out (by simp [spec_pwCommon.l0])
  | succ k1 =>
   have H := HA.out
   clear HA
   simp only [spec_pwCommon.l0] at H
   by_cases c3 : x1_1 > 0
   rotate_left
   ·rw [if_neg c3] at H
    have c3b0 : decide (0 < x1_1) = false := decide_eq_false c3
    clear c3
    obtain rfl := Option.some.inj H
    go_wp2
    repeat (go_quiet (fail); try go_wp2)
    go_ret
    exact ⟨by first | rfl | (simp; done) | (simp [*]; done), dS⟩
   rw [if_pos c3] at H
   have c3b0 : decide (0 < x1_1) = true := decide_eq_true c3
   clear c3
   by_cases c4 : x1_1 = 0
   ·rw [if_pos c4] at H
    exact absurd H (by simp)
   rw [if_neg c4] at H
   have c4b0 : (x1_1 == 0) = false := beq_eq_false_iff_ne.mpr c4
   have c4b1 : (x1_1 != 0) = true := bne_iff_ne.mpr c4
   have H' := Aside0.mk H
   clear H
   go_wp2
   repeat (go_quiet (fail); try go_wp2)
   go_roundg k1
   case measure => have := HK1.out; omega
   case rel => exact ⟨(x1_1), (Int.tmod x0_1 x1_1), gR, gR, H', ⟨by have := HK1.out; omega⟩, dS⟩
end Go.Proofs.YtamfpkefnhcngaaGreat.Q
namespace Go.Proofs.YtamfpkefnhcngaaGreat.Q
open Go.RowKit Go.Proofs.YtamfpkefnhcngaaGreatX Go.Proofs.YtamfpkefnhcngaaGreatY Go.Proofs.YtamfpkefnhcngaaGreatW.PrintWords Go.Proofs.YtamfpkefnhcngaaGreatW.PrintLast Go.Proofs.YtamfpkefnhcngaaGreatW.PrintMore
attribute [local go_sem] max2_int min2_int max_two min_two max_three min_three max_four min_four   -- for this text's walks alone
set_option linter.unusedVariables false
set_option linter.unusedSimpArgs false
def spec_pwShare.f (k : Nat) (a0 : Int) (a1 : Int) : Option (Int × Int) := (spec_pwCommon.f k a0 a1).bind fun t102 => (if t102 = 0 then (none) else (some (wrap64 (Int.tdiv a0 t102), wrap64 (Int.tdiv a1 t102))))
def spec_pwShare.T2 : Bool × List (List Nat × List Nat) := (true, [([], []), ([], []), ([0, 1], [0, 1]), ([], []), ([], []), ([3, 4], [3, 4]), ([2, 5], [2, 5]), ([6, 0, 1, 2, 3, 4, 5, 6], [6])])
def spec_pwShare.B2 : List Nat := [0, 0, 3, 0, 0, 24, 63, 127]
theorem spec_pwShare.tab2 : rtab .any (opsOf Tryz.f160 2) = spec_pwShare.T2 := by kernel_rfl
theorem spec_pwShare.bits2 : waitsOk spec_pwShare.T2.2 spec_pwShare.B2 = true := by kernel_rfl
theorem spec_pwShare.calls (k : Nat) (a0 : Int) (a1 : Int) (r1 : Int) (r2 : Int) (w : World) (h : spec_pwShare.f k a0 a1 = some (r1, r2)) :
  Calls Tryz.prog 160 #[.int .i64 a0, .int .i64 a1] w fun e w' => e = .returned (.agg #[.int .i64 r1, .int .i64 r2]) ∧ Below w.heap.size w w' := by
 have hu60 := Tryz.underlying60
 have HB := Aside0.mk (Below.refl w.heap.size w)
 have H := h
 unfold spec_pwShare.f at H
 clear h
 replace H := oB H
 obtain ⟨t102, A30, H⟩ := H
 replace H : (if t102 = 0 then (none) else (some (wrap64 (Int.tdiv a0 t102), wrap64 (Int.tdiv a1 t102)))) = some (r1, r2) := H
 have A3 := Aside0.mk A30
 clear A30
 by_cases c4 : t102 = 0
 ·rw [if_pos c4] at H
  exact absurd H (by simp)
 rw [if_neg c4] at H
 have c4b0 : (t102 == 0) = false := beq_eq_false_iff_ne.mpr c4
 have c4b1 : (t102 != 0) = true := bne_iff_ne.mpr c4
 simp only [Option.some.injEq, Prod.mk.injEq] at H
 obtain ⟨rfl, rfl⟩ := H
 go_enter Tryz.func160, Tryz.ntmps160
 try go_wp2_with (first | ((with_reducible refine gate_dst (N := 4) rfl ?_); refine box_event ?hg (N := 4) ?hd (cs := #[.int .i64 0, .int .i64 0]) (t := 60) ?hr ?_; (case hd => rfl); (case hg => rfl); (case hr => first | (go_simp; done) | (go_simp; rfl)); intro gb101 hg w5 hbox hb; have n0_ := sQ hb; have n1_ := Aside0.mk (hbox); have n2_ := Aside0.mk ((by rw [hg]; exact (below_size (wB)) : w.heap.size ≤ gb101)); have n3_ := Aside0.mk ((by rw [hg]; exact (below_size (wB)) : w.heap.size ≤ gb101)); clear HB; have HB := n0_; have BK101 := n1_; have GW101 := n2_; have GE101 := n3_; clear n0_ n1_ n2_ n3_; clear hb hbox hg) | ((with_reducible refine gate_callee (f := 217) rfl ?_); refine gL 8 Tryz.func217 #[.int .i64 a0, .int .i64 a1] ?_; (with_reducible refine (spec_pwCommon.calls k a0 a1 t102 _ A3.out).mono ?_); rintro e w' ⟨rfl, ⟨nd, rfl⟩⟩; refine ⟨_, rfl, ?_⟩; (try (rw [drewN_self w5]; generalize hq_ : World.drewN w5 _ = w5; have n0_ : Aside0 (w5.heap[gb101]? = some (.cells #[.int .i64 0, .int .i64 0] 60 (0, 0))) := ⟨by rw [← hq_]; exact (bQ BK101)⟩; have n1_ : Aside0 (Below w.heap.size w w5) := ⟨by rw [← hq_]; exact (wB)⟩; clear BK101 HB hq_; have BK101 := n0_; have HB := n1_; clear n0_ n1_))))
 have n0_ := bD BK101
 have n1_ := Aside0.mk (below_drew1 HB.out)
 clear BK101
 clear HB
 have BK101 := n0_
 have HB := n1_
 clear n0_ n1_
 refine start_ (n := 8) (S := fun w' => True) (ds := []) #[false, false, false, false, false, false, false, false] (by kernel_rfl) rfl rfl trivial (fun hHeld => ?_); refine with_tabW spec_pwShare.tab2 spec_pwShare.bits2 (fun HT_ HW_ => ?_)
 generalize w5.drew = w6 at BK101 HB hHeld ⊢
 refine pU 0 HT_ ?_
 refine pU 1 HT_ ?_
 refine pU 2 HT_ ?_
 refine pU 3 HT_ ?_
 refine pU 4 HT_ ?_
 refine pU 5 HT_ ?_
 refine pU 6 HT_ ?_
 refine oN 7 HT_ (fun K hK => ?_)
 have hs7 : w6.cell? ⟨gb101, 0, none⟩ = some (.int .i64 0) := (blk_cell BK101.out 0).trans rfl
 have hfs7 := blk_frozen BK101.out 0
 have hs8 : w6.cell? ⟨gb101, 1, none⟩ = some (.int .i64 0) := (blk_cell BK101.out 1).trans rfl
 have hfs8 := blk_frozen BK101.out 1
 refine skip_ (w1 := ?_) (by rfl) rfl ?_ ?_
 rotate_left
 ·go_simp
  rfl
 refine hK.out _ _ trivial (fun hHeld => ?_)
 clear hK K
 refine done_ (done_of HT_.out (by kernel_rfl)) ?_
 try go_wp2
 refine bodyPost_ret (results_cell_row rfl _ _ gb101 60 #[.int .i64 (wrap64 (Int.tdiv a0 t102)), .int .i64 (wrap64 (Int.tdiv a1 t102))] (0, 0) _ rfl (by (try refine bp ?_); refine blk_put (cs := #[.int .i64 (wrap64 (Int.tdiv a0 t102)), .int .i64 0]) ?_ 1 _ rfl; (try refine bp ?_); refine blk_put (cs := #[.int .i64 0, .int .i64 0]) ?_ 0 _ rfl; (first | exact bp BK101.out | exact BK101.out)) Tryz.underlying60 rfl (by kernel_rfl)) rfl ?_
 exact ⟨fR, wB⟩
end Go.Proofs.YtamfpkefnhcngaaGreat.Q
namespace Go.Proofs.YtamfpkefnhcngaaGreat.Q
open Go.RowKit Go.Proofs.YtamfpkefnhcngaaGreatX Go.Proofs.YtamfpkefnhcngaaGreatY Go.Proofs.YtamfpkefnhcngaaGreatX Go.Proofs.YtamfpkefnhcngaaGreatW.PrintWords Go.Proofs.YtamfpkefnhcngaaGreatW.PrintLast Go.Proofs.YtamfpkefnhcngaaGreatW.PrintMore
attribute [local go_sem] max2_int min2_int max_two min_two max_three min_three max_four min_four   -- for this text's walks alone
set_option linter.unusedVariables false
set_option linter.unusedSimpArgs false
def spec_SwingPowers.l0 : Nat → Int → List (S60) → List Int → Int → Int → Option ((List (S60)) × Bool)
 | 0, _, _, _, _, _ => none
 | k + 1, x4, x5, x17, x18, x19 => if x19 < x18 then (if 0 ≤ x19 then (if x19 < (x17.length : Int) then (if 0 ≤ (wrap64 (x4 - 1)) then ((spec_pwShare.f k (rd x17 x19) (shl .i64 1 (wrap64 (x4 - 1)))).bind fun bt110 => (if x5.length < 8796093022208 then (spec_SwingPowers.l0 k x4 (x5 ++ [(⟨bt110.1, bt110.2⟩ : S60)]) x17 x18 (wrap64 (x19 + 1))) else (none))) else (none)) else (none)) else (none)) else (some (x5, true))
def spec_SwingPowers.f (k : Nat) (a0_0 : Int) (l0_1 : List Int) : Option ((List (S60)) × Bool) := (spec_voGood.f k a0_0 l0_1).bind fun t102 => (if t102 = true then ((spec_voWins.f k a0_0 l0_1).bind fun t103 => ((spec_pwCounts.f k t103 (l0_1.length : Int)).bind fun t106 => (spec_SwingPowers.l0 k (l0_1.length : Int) ([] : List (S60)) t106 (t106.length : Int) 0))) else (some (([] : List (S60)), false)))
theorem spec_SwingPowers.calls (k : Nat) (a0_0 : Int) (A0_1 : Option Addr) (c0_1 : Nat) (l0_1 : List Int) (r1 : List (S60)) (r2 : Bool) (w : World) (hr0_1 : Kd.C (Kd.int .i64) w A0_1 l0_1.length l0_1) (hc0_1 : l0_1.length ≤ c0_1) (h : spec_SwingPowers.f k a0_0 l0_1 = some (r1, r2)) :
  Calls Tryz.prog 59 #[.agg #[.int .i64 a0_0, .slice A0_1 l0_1.length c0_1]] w fun e w' => ∃ v0_ : Value, e = .returned (.tuple #[v0_, .bool r2]) ∧ Kd.R k60 60 w' w.heap.size (fun _ => True) v0_ r1 ∧ Below w.heap.size w w' := by
 have hu26 := Tryz.underlying26
 have HR0_1 := Aside0.mk hr0_1
 have HC0_1 := Aside0.mk hc0_1
 clear hr0_1 hc0_1
 have HB := Aside0.mk (Below.refl w.heap.size w)
 have H := h
 unfold spec_SwingPowers.f at H
 clear h
 replace H := oA H
 obtain ⟨t102, A2, H⟩ := H
 (try dsimp only at H)
 by_cases c3 : t102 = true
 rotate_left
 ·replace c3 := Bool.eq_false_iff.mpr c3
  subst c3
  replace H := iF H
  simp only [Option.some.injEq, Prod.mk.injEq] at H
  obtain ⟨rfl, rfl⟩ := H
  go_enter Tryz.func59, Tryz.ntmps59
  go_wp2_with (first | ((with_reducible refine gate_dst (N := 1) rfl ?_); refine xE (N := 1) (cs := #[.int .i64 a0_0, .slice A0_1 l0_1.length c0_1]) (t := 26) ?_; intro gb101 hg w24 BK101 hb; have GW101 := gS hg HB; have GE101 := gS hg HB; replace HB := sB HB hb; clear hb hg; obtain ⟨hcz25_0, hcz25_1, hfz25_0, hfz25_1⟩ := zZ BK101) | ((with_reducible refine gate_callee (f := 129) rfl ?_); refine gL 9 Tryz.func129 #[.agg #[.int .i64 a0_0, .slice A0_1 l0_1.length c0_1]] ?_; (with_reducible refine (spec_voGood.calls k a0_0 _ _ l0_1 false _ (Kd.C_below HR0_1.out HB.out) HC0_1.out A2.out).mono ?_); rintro e w26 ⟨rfl, hb⟩; refine ⟨_, rfl, ?_⟩; replace BK101 := bB BK101 hb; replace HB := sB HB hb; (try clear hb)))
  go_ret2
  exact ⟨_, fR, by first | exact Kd.R_nil _ _ _ _ _ | exact Kd.N_nil _ _ _ _ _ | exact Kd.V_nil _ _ _ _ _ | exact Kd.Q_nil _ _ _ _ _ | exact Kd.S_nil _ _ _ _ _, wB⟩
 subst c3
 replace H := iT H
 replace H := oA H
 obtain ⟨t103, A4, H⟩ := H
 (try dsimp only at H)
 replace H := oA H
 obtain ⟨t106, A5, H⟩ := H
 (try dsimp only at H)
 have H' := Aside0.mk H
 clear H
 go_enter Tryz.func59, Tryz.ntmps59
 go_wp2_with (first | ((with_reducible refine gate_dst (N := 1) rfl ?_); refine xE (N := 1) (cs := #[.int .i64 a0_0, .slice A0_1 l0_1.length c0_1]) (t := 26) ?_; intro gb101 hg w6 BK101 hb; have GW101 := gS hg HB; have GE101 := gS hg HB; replace HB := sB HB hb; clear hb hg; obtain ⟨hcz7_0, hcz7_1, hfz7_0, hfz7_1⟩ := zZ BK101) | ((with_reducible refine gate_callee (f := 129) rfl ?_); refine gL 9 Tryz.func129 #[.agg #[.int .i64 a0_0, .slice A0_1 l0_1.length c0_1]] ?_; (with_reducible refine (spec_voGood.calls k a0_0 _ _ l0_1 true _ (Kd.C_below HR0_1.out HB.out) HC0_1.out A2.out).mono ?_); rintro e w8 ⟨rfl, hb⟩; refine ⟨_, rfl, ?_⟩; replace BK101 := bB BK101 hb; replace HB := sB HB hb; (try clear hb); (try clear hcz7_0 hcz7_1 hfz7_0 hfz7_1); obtain ⟨hcz9_0, hcz9_1, hfz9_0, hfz9_1⟩ := zZ BK101) | ((with_reducible refine gate_callee (f := 141) rfl ?_); refine gL 15 Tryz.func141 #[.agg #[.int .i64 a0_0, .slice A0_1 l0_1.length c0_1]] ?_; (with_reducible refine (spec_voWins.calls k a0_0 _ _ l0_1 t103 _ (Kd.C_below HR0_1.out HB.out) HC0_1.out A4.out).mono ?_); rintro e w10 ⟨v104, rfl, ho0, hb⟩; refine ⟨_, rfl, ?_⟩; have HO105 := Aside0.mk (Kd.R_lower ho0 (below_size HB.out)); replace BK101 := bB BK101 hb; replace HB := sB HB hb; (try clear hb); (try clear ho0); obtain ⟨Ao11, co11, eo11⟩ := Kd.R_slice HO105.out; subst eo11) | ((with_reducible refine gate_callee (f := 158) rfl ?_); refine gL 17 Tryz.func158 #[.slice Ao11 t103.length co11, .int .i64 (l0_1.length : Int)] ?_; (with_reducible refine (spec_pwCounts.calls k _ _ t103 (l0_1.length : Int) t106 _ ?side1 ?side2 A5.out).mono ?_); (case side1 => have hx_ := (Kd.R_reads' HO105.out).2.2; exact cC); (case side2 => exact (Kd.R_reads' HO105.out).2.1); rintro e w12 ⟨v107, rfl, ho0, hb⟩; refine ⟨_, rfl, ?_⟩; have HO108 := Aside0.mk (Kd.R_lower ho0 (below_size HB.out)); replace HO105 := rB HO105 hb; replace BK101 := bB BK101 hb; replace HB := sB HB hb; (try clear hb); (try clear ho0); obtain ⟨Ao13, co13, eo13⟩ := Kd.R_slice HO108.out; subst eo13))
 go_loopg [5, 19] k (fun kq v5 v19 w' => ∃ (x5_1 : List (S60)) (x19_1 : Int), v19 = .int .i64 x19_1 ∧ Aside0 (spec_SwingPowers.l0 kq (l0_1.length : Int) x5_1 t106 (t106.length : Int) x19_1 = some (r1, r2)) ∧ Aside0 (kq ≤ k) ∧ Aside0 (Kd.R k60 60 w' w.heap.size (fun _ => True) v5 x5_1) ∧ Aside0 (Kd.R (Kd.int .i64) 3 w' w.heap.size (fun _ => True) (.slice Ao13 t106.length co13) t106) ∧ Aside0 (w'.heap[gb101]? = some (.cells #[.int .i64 a0_0, (.slice A0_1 l0_1.length c0_1)] 26 (0, 0))) ∧ Aside0 (Below w.heap.size w w'))
 case atStart => exact ⟨(([] : List (S60))), (0), gR, H', ⟨Nat.le_refl _⟩, ⟨by first | exact Kd.R_nil _ _ _ _ _ | exact Kd.N_nil _ _ _ _ _ | exact Kd.V_nil _ _ _ _ _ | exact Kd.Q_nil _ _ _ _ _ | exact Kd.S_nil _ _ _ _ _⟩, ⟨by exact HO108.out⟩, ⟨by exact BK101.out⟩, ⟨wB⟩⟩
 case round =>
  clear H'
  (try clear c1); (try clear p2); (try clear c3); (try clear c5); (try clear c12); (try clear hcz9_0); (try clear hcz9_1); (try clear hfz9_0); (try clear hfz9_1)
  obtain ⟨x5_1, x19_1, rfl, HA, HK1, HO_5, HO_17, BK101, HB⟩ := hrel
  cases gk with
  | zero => exact absurd HA.out (by simp [spec_SwingPowers.l0])
  | succ k1 =>
   have H := HA.out
   clear HA
   simp only [spec_SwingPowers.l0] at H
   by_cases c14 : x19_1 < (t106.length : Int)
   rotate_left
   ·rw [if_neg c14] at H
    have c14b0 : decide (x19_1 < (t106.length : Int)) = false := decide_eq_false c14
    clear c14
    simp only [Option.some.injEq, Prod.mk.injEq] at H
    obtain ⟨rfl, rfl⟩ := H
    go_wp2
    go_ret2
    exact ⟨_, fR, by exact HO_5.out, wB⟩
   rw [if_pos c14] at H
   have c14b0 := decide_eq_true c14
   clear c14
   by_cases c15 : 0 ≤ x19_1
   rotate_left
   ·rw [if_neg c15] at H
    exact absurd H (by simp)
   rw [if_pos c15] at H
   have c15b0 := decide_eq_true c15
   clear c15
   by_cases c16 : x19_1 < (t106.length : Int)
   rotate_left
   ·rw [if_neg c16] at H
    exact absurd H (by simp)
   rw [if_pos c16] at H
   have c16b0 := decide_eq_true c16
   clear c16
   obtain ⟨ji17, hji17⟩ : ∃ j_ : Int, (wrap64 ((l0_1.length : Int) - 1)) = j_ := ⟨_, rfl⟩
   replace H : (if 0 ≤ (ji17) then ((spec_pwShare.f k1 (rd t106 x19_1) (shl .i64 1 (ji17))).bind fun bt110 => (if x5_1.length < 8796093022208 then (spec_SwingPowers.l0 k1 (l0_1.length : Int) (x5_1 ++ [(⟨bt110.1, bt110.2⟩ : S60)]) t106 (t106.length : Int) (wrap64 (x19_1 + 1))) else (none))) else (none)) = some (r1, r2) := by first | (rw [hji17] at H; exact H) | (simp only [hji17] at H ⊢; exact H)
   have hji17w : (IntKind.i64.wrap ((l0_1.length : Int) - 1)) = ji17 := (i64_w _).trans hji17
   by_cases c18 : 0 ≤ (ji17)
   rotate_left
   ·rw [if_neg c18] at H
    exact absurd H (by simp)
   rw [if_pos c18] at H
   have c18b0 := eq_true c18
   have c18b1 := decide_eq_true c18
   clear c18
   obtain ⟨ji19, hji19⟩ : ∃ j_ : Int, (shl .i64 1 (ji17)) = j_ := ⟨_, rfl⟩
   replace H : ((spec_pwShare.f k1 (rd t106 x19_1) (ji19)).bind fun bt110 => (if x5_1.length < 8796093022208 then (spec_SwingPowers.l0 k1 (l0_1.length : Int) (x5_1 ++ [(⟨bt110.1, bt110.2⟩ : S60)]) t106 (t106.length : Int) (wrap64 (x19_1 + 1))) else (none))) = some (r1, r2) := by first | (rw [hji19] at H; exact H) | (simp only [hji19] at H ⊢; exact H)
   have hji19_ : (IntKind.i64.wrap (1 * 2 ^ min (ji17).toNat 64)) = ji19 := hji19
   have hji19z : (ji17) ≤ 64 → (IntKind.i64.wrap (1 * 2 ^ (ji17).toNat)) = ji19 := shl_small hji19
   have hji19u : (IntKind.i64.wrap (2 ^ min (ji17).toNat 64)) = ji19 := by have h_ := hji19_; rw [Int.one_mul] at h_; exact h_
   have hji19v : (ji17) ≤ 64 → (IntKind.i64.wrap (2 ^ (ji17).toNat)) = ji19 := fun hle_ => by have h_ := hji19z hle_; rw [Int.one_mul] at h_; exact h_
   have hji19y : (wrap64 (1 * 2 ^ min (ji17).toNat 64)) = ji19 := (i64_w _).symm.trans hji19_
   have hji19x : (ji17) ≤ 64 → (wrap64 (1 * 2 ^ (ji17).toNat)) = ji19 := fun h_ => (i64_w _).symm.trans (hji19z h_)
   replace H := oB H
   obtain ⟨⟨t110, t111⟩, A200, H⟩ := H
   (try dsimp only at H)
   have A20 := Aside0.mk A200
   clear A200
   by_cases c21 : x5_1.length < 8796093022208
   rotate_left
   ·rw [if_neg c21] at H
    exact absurd H (by simp)
   rw [if_pos c21] at H
   have LMc21 := Aside0.mk c21
   clear c21
   obtain ⟨y112, hy112⟩ : ∃ y_ : List (S60), y_ = (x5_1 ++ [(⟨t110, t111⟩ : S60)]) := ⟨_, rfl⟩
   replace H : (spec_SwingPowers.l0 k1 (l0_1.length : Int) y112 t106 (t106.length : Int) (wrap64 (x19_1 + 1))) = some (r1, r2) := by first | (rw [hy112]; with_reducible exact H) | (have H2_ := (Option.bind_some _ _).symm.trans H; rw [hy112]; with_reducible exact H2_) | (have H2_ := (Option.bind_some _ _).symm.trans H; with_reducible exact H2_) | with_reducible exact H | (rw [hy112]; exact H) | exact H
   have Ny112 := Aside0.mk hy112
   clear hy112
   have H' := Aside0.mk H
   clear H
   have p109 : 0 ≤ (x19_1 : Int) := oD
   have q109 : x19_1 < (t106.length : Int) := oD
   obtain ⟨ad109, e109, hx109_0⟩ := Kd.at_int (Kd.R_reads' HO_17.out).2.2 x19_1 p109 q109
   cases e109
   replace p109 := eq_true p109
   replace q109 := eq_true q109
   go_wp2_with (first | ((with_reducible refine gate_callee (f := 160) rfl ?_); refine goesL_ (some 28) rfl rfl Tryz.func160 (by kernel_rfl) rfl #[.int .i64 (rd t106 x19_1), .int .i64 ji19] rfl (by (try simp only [mA, mC, mN]); first | done | (simp only [hji19]; rfl) | rfl | (simp only [List.length_drop, List.length_take]; rfl)) ?_; (with_reducible refine (spec_pwShare.calls k1 (rd t106 x19_1) ji19 t110 t111 _ A20.out).mono ?_); rintro e w22 ⟨rfl, hb⟩; refine ⟨_, rfl, ?_⟩; replace HO_5 := rB HO_5 hb; replace HO_17 := rB HO_17 hb; replace BK101 := bB BK101 hb; replace HB := sB HB hb; (try clear hb)) | ((with_reducible refine gate_builtin (b := .append) (xs := #[.tmp 23, .tmp 29]) rfl ?_); at_builtin; refine Kd.R_append k60 (w0 := w) w.heap.size rfl (.tmp 23) (.tmp 29) 56 60 (.agg #[(.int .i64 0), (.int .i64 0)]) 16 rfl Tryz.underlying56 info60 rfl (by decide) (by omega) u5 x5_1 (⟨t110, t111⟩ : S60) [.int .i64 t110, .int .i64 t111] (fun _ => True) (fun _ => False) rfl rfl ?aP (fun _ hk => hk.elim) ?aF ?aO ?aB ?aS ?aL ?_; (case aP => exact k60_mkM _ _ _ (⟨t110, t111⟩ : S60)); (case aB => exact HB.out); (case aF => exact (fun _ _ => trivial)); (case aO => exact HO_5.out); (case aS => exact (below_size HB.out)); (case aL => have := LMc21.out; omega); intro v113 w23 ho hb hg hat; rw [← Ny112.out] at ho; have HO114 := Aside0.mk (ho); replace HO_17 := Aside0.mk (Kd.R_over' HO_17.out (Kd.R_typed HO_5.out) (by decide) hg); replace BK101 := Aside0.mk (blk_grown (g := gb101) (o := .cells #[.int .i64 a0_0, .slice A0_1 l0_1.length c0_1] 26 (0, 0)) BK101.out hg (Kd.R_ne HO_5.out BK101.out (by decide))); replace HB := Aside0.mk (hb); clear ho hb hg hat))
   go_roundg k1
   case measure => have := HK1.out; omega
   case rel => exact ⟨(y112), (wrap64 (x19_1 + 1)), gR, H', ⟨by have := HK1.out; omega⟩, ⟨by exact HO114.out⟩, ⟨by exact HO_17.out⟩, ⟨by exact BK101.out⟩, ⟨wB⟩⟩
def impl_SwingShares.f (k : Nat) (a0_0 : Int) (l0_1 : List Int) : Option ((List (S60)) × Bool) := (impl_IsCommittee.f k a0_0 l0_1).bind fun t102 => (if t102 = true then ((impl_Committee_votes.f k a0_0 l0_1).bind fun bt103 => ((impl_votes_swings.f k bt103.1 bt103.2).bind fun t107 => ((impl_sumOf.f k t107).bind fun t110 => ((impl_sharesOf.f k t107 t110).bind fun t111 => (some (t111, true)))))) else (some (([] : List (S60)), false)))
theorem impl_SwingShares.calls (k : Nat) (a0_0 : Int) (A0_1 : Option Addr) (c0_1 : Nat) (l0_1 : List Int) (r1 : List (S60)) (r2 : Bool) (w : World) (hr0_1 : Kd.C (Kd.int .i64) w A0_1 l0_1.length l0_1) (hc0_1 : l0_1.length ≤ c0_1) (h : impl_SwingShares.f k a0_0 l0_1 = some (r1, r2)) :
  Calls Tryz.prog 60 #[.agg #[.int .i64 a0_0, .slice A0_1 l0_1.length c0_1]] w fun e w' => ∃ v0_ : Value, e = .returned (.tuple #[v0_, .bool r2]) ∧ Kd.R k60 60 w' w.heap.size (fun _ => True) v0_ r1 ∧ Below w.heap.size w w' := by
 have hu26 := Tryz.underlying26
 have HR0_1 := Aside0.mk hr0_1
 have HC0_1 := Aside0.mk hc0_1
 clear hr0_1 hc0_1
 have HB := Aside0.mk (Below.refl w.heap.size w)
 have H := h
 unfold impl_SwingShares.f at H
 clear h
 replace H := oA H
 obtain ⟨t102, A2, H⟩ := H
 (try dsimp only at H)
 by_cases c3 : t102 = true
 rotate_left
 ·replace c3 := Bool.eq_false_iff.mpr c3
  subst c3
  replace H := iF H
  simp only [Option.some.injEq, Prod.mk.injEq] at H
  obtain ⟨rfl, rfl⟩ := H
  go_enter Tryz.func60, Tryz.ntmps60
  go_wp2_with (first | ((with_reducible refine gate_dst (N := 1) rfl ?_); refine xE (N := 1) (cs := #[.int .i64 a0_0, .slice A0_1 l0_1.length c0_1]) (t := 26) ?_; intro gb101 hg w17 BK101 hb; have GW101 : Aside0 (w.heap.size ≤ gb101) := gT hg; have GE101 : Aside0 (w.heap.size ≤ gb101) := gT hg; replace HB := sQ hb; clear hb hg; (try clear hcz11_0 hcz11_1 hfz11_0 hfz11_1); obtain ⟨hcz18_0, hcz18_1, hfz18_0, hfz18_1⟩ := zZ BK101) | ((with_reducible refine gate_callee (f := 20) rfl ?_); refine gL 6 Tryz.func20 #[.agg #[.int .i64 a0_0, .slice A0_1 l0_1.length c0_1]] ?_; (with_reducible refine (impl_IsCommittee.calls k a0_0 _ _ l0_1 false _ ?side1 ?side2 A2.out).mono ?_); (case side1 => have hx_ := (Kd.C_below HR0_1.out HB.out); exact cC); (case side2 => exact HC0_1.out); rintro e w19 ⟨rfl, hb⟩; refine ⟨_, rfl, ?_⟩; replace BK101 := bP BK101 hb; replace HB := sQ hb; (try clear hb)))
  go_ret2
  exact ⟨_, fR, by first | exact Kd.R_nil _ _ _ _ _ | exact Kd.N_nil _ _ _ _ _ | exact Kd.V_nil _ _ _ _ _ | exact Kd.Q_nil _ _ _ _ _ | exact Kd.S_nil _ _ _ _ _, wB⟩
 subst c3
 replace H := iT H
 replace H := oB H
 obtain ⟨⟨t103, t104⟩, A40, H⟩ := H
 (try dsimp only at H)
 have A4 := Aside0.mk A40
 clear A40
 replace H := oA H
 obtain ⟨t107, A5, H⟩ := H
 (try dsimp only at H)
 replace H := oA H
 obtain ⟨t110, A6, H⟩ := H
 (try dsimp only at H)
 replace H := oA H
 obtain ⟨t111, A7, H⟩ := H
 (try dsimp only at H)
 simp only [Option.some.injEq, Prod.mk.injEq] at H
 obtain ⟨rfl, rfl⟩ := H
 go_enter Tryz.func60, Tryz.ntmps60
 go_wp2_with (first | ((with_reducible refine gate_dst (N := 1) rfl ?_); refine xE (N := 1) (cs := #[.int .i64 a0_0, .slice A0_1 l0_1.length c0_1]) (t := 26) ?_; intro gb101 hg w8 BK101 hb; have GW101 := gS hg HB; have GE101 := gS hg HB; replace HB := sB HB hb; clear hb hg; obtain ⟨hcz9_0, hcz9_1, hfz9_0, hfz9_1⟩ := zZ BK101) | ((with_reducible refine gate_callee (f := 20) rfl ?_); refine gL 6 Tryz.func20 #[.agg #[.int .i64 a0_0, .slice A0_1 l0_1.length c0_1]] ?_; (with_reducible refine (impl_IsCommittee.calls k a0_0 _ _ l0_1 true _ (Kd.C_below HR0_1.out HB.out) HC0_1.out A2.out).mono ?_); rintro e w10 ⟨rfl, hb⟩; refine ⟨_, rfl, ?_⟩; replace BK101 := bB BK101 hb; replace HB := sB HB hb; (try clear hb); (try clear hcz9_0 hcz9_1 hfz9_0 hfz9_1); obtain ⟨hcz11_0, hcz11_1, hfz11_0, hfz11_1⟩ := zZ BK101) | ((with_reducible refine gate_callee (f := 135) rfl ?_); refine gL 9 Tryz.func135 #[.agg #[.int .i64 a0_0, .slice A0_1 l0_1.length c0_1]] ?_; (with_reducible refine (impl_Committee_votes.calls k a0_0 _ _ l0_1 t103 t104 _ (Kd.C_below HR0_1.out HB.out) HC0_1.out A4.out).mono ?_); rintro e w12 ⟨v105, rfl, ho0, hb⟩; refine ⟨_, rfl, ?_⟩; have HO106 := Aside0.mk (Kd.R_lower ho0 (below_size HB.out)); replace BK101 := bB BK101 hb; replace HB := sB HB hb; (try clear hb); (try clear ho0); obtain ⟨Ao13, co13, eo13⟩ := Kd.R_slice HO106.out; subst eo13) | ((with_reducible refine gate_callee (f := 157) rfl ?_); refine gL 10 Tryz.func157 #[.agg #[.int .i64 t103, .slice Ao13 t104.length co13]] ?_; (with_reducible refine (impl_votes_swings.calls k t103 _ _ t104 t107 _ ?side1 ?side2 A5.out).mono ?_); (case side1 => have hx_ := (Kd.R_reads' HO106.out).2.2; exact cC); (case side2 => exact (Kd.R_reads' HO106.out).2.1); rintro e w14 ⟨v108, rfl, ho0, hb⟩; refine ⟨_, rfl, ?_⟩; have HO109 := Aside0.mk (Kd.R_lower ho0 (below_size HB.out)); replace HO106 := rB HO106 hb; replace BK101 := bB BK101 hb; replace HB := sB HB hb; (try clear hb); (try clear ho0); obtain ⟨Ao15, co15, eo15⟩ := Kd.R_slice HO109.out; subst eo15) | ((with_reducible refine gate_callee (f := 127) rfl ?_); refine gL 13 Tryz.func127 #[.slice Ao15 t107.length co15] ?_; (with_reducible refine (impl_sumOf.calls k _ _ t107 t110 _ ?side1 ?side2 A6.out).mono ?_); (case side1 => have hx_ := (Kd.R_reads' HO109.out).2.2; exact cC); (case side2 => exact (Kd.R_reads' HO109.out).2.1); rintro e w' ⟨rfl, ⟨nd, rfl⟩⟩; refine ⟨_, rfl, ?_⟩) | ((with_reducible refine gate_callee (f := 159) rfl ?_); refine gL 14 Tryz.func159 #[.slice Ao15 t107.length co15, .int .i64 t110] ?_; (with_reducible refine (impl_sharesOf.calls k _ _ t107 t110 t111 _ ?side1 ?side2 A7.out).mono ?_); (case side1 => have hx_ := (Kd.R_reads' HO109.out).2.2; exact cC); (case side2 => exact (Kd.R_reads' HO109.out).2.1); rintro e w16 ⟨v112, rfl, ho0, hb⟩; refine ⟨_, rfl, ?_⟩; have HO113 := Aside0.mk (Kd.R_lower ho0 (below_size (by repeat (first | exact HB.out | apply ba | apply bd | apply be | refine bs ?_ GE101.out)))); replace HO106 := rP HO106 hb; replace HO109 := rP HO109 hb; replace BK101 := bP BK101 hb; replace HB := sQ hb; (try clear hb); (try clear ho0)))
 go_ret2
 exact ⟨_, fR, by (with_reducible repeat (first | apply qA | apply qN | apply qD)); exact HO113.out, wB⟩
def spec_pwShares.l0 : Nat → List Int → List (S60) → List Int → Int → Int → Option ((List (S60)))
 | 0, _, _, _, _, _ => none
 | k + 1, x5, x6, x12, x13, x14 => if x14 < x13 then (if 0 ≤ x14 then (if x14 < (x12.length : Int) then ((spec_voSum.f k x5).bind fun t105 => ((spec_pwShare.f k (rd x12 x14) t105).bind fun bt106 => (if x6.length < 8796093022208 then (spec_pwShares.l0 k x5 (x6 ++ [(⟨bt106.1, bt106.2⟩ : S60)]) x12 x13 (wrap64 (x14 + 1))) else (none)))) else (none)) else (none)) else (some x6)
def spec_pwShares.f (k : Nat) (l0 : List Bool) (a1 : Int) : Option ((List (S60))) := (spec_pwCounts.f k l0 a1).bind fun t101 => (spec_pwShares.l0 k t101 ([] : List (S60)) t101 (t101.length : Int) 0)
theorem spec_pwShares.calls (k : Nat) (A0 : Option Addr) (c0 : Nat) (l0 : List Bool) (a1 : Int) (r : List (S60)) (w : World) (hr0 : Kd.C Kd.bool w A0 l0.length l0) (hc0 : l0.length ≤ c0) (h : spec_pwShares.f k l0 a1 = some r) :
  Calls Tryz.prog 161 #[.slice A0 l0.length c0, .int .i64 a1] w fun e w' => ∃ v0_ : Value, e = .returned (v0_) ∧ Kd.R k60 60 w' w.heap.size (fun _ => True) v0_ r ∧ Below w.heap.size w w' := by
 have HR0 := Aside0.mk hr0
 have HC0 := Aside0.mk hc0
 clear hr0 hc0
 have HB := Aside0.mk (Below.refl w.heap.size w)
 have H := h
 unfold spec_pwShares.f at H
 clear h
 replace H := oA H
 obtain ⟨t101, A3, H⟩ := H
 (try dsimp only at H)
 have H' := Aside0.mk H
 clear H
 go_enter Tryz.func161, Tryz.ntmps161
 go_wp2_with (first | ((with_reducible refine gate_callee (f := 158) rfl ?_); refine gL 11 Tryz.func158 #[.slice A0 l0.length c0, .int .i64 a1] ?_; (with_reducible refine (spec_pwCounts.calls k _ _ l0 a1 t101 _ HR0.out HC0.out A3.out).mono ?_); rintro e w4 ⟨v102, rfl, ho0, hb⟩; refine ⟨_, rfl, ?_⟩; have HO103 := Aside0.mk (Kd.R_lower ho0 (below_size HB.out)); replace HB := sB HB hb; (try clear hb); (try clear ho0); obtain ⟨Ao5, co5, eo5⟩ := Kd.R_slice HO103.out; subst eo5))
 go_loopg [6, 14] k (fun kq v6 v14 w' => ∃ (x6_1 : List (S60)) (x14_1 : Int), v14 = .int .i64 x14_1 ∧ Aside0 (spec_pwShares.l0 kq t101 x6_1 t101 (t101.length : Int) x14_1 = some r) ∧ Aside0 (kq ≤ k) ∧ Aside0 (Kd.R (Kd.int .i64) 3 w' w.heap.size (fun _ => True) (.slice Ao5 t101.length co5) t101) ∧ Aside0 (Kd.R k60 60 w' w.heap.size (fun _ => True) v6 x6_1) ∧ Aside0 (Kd.R (Kd.int .i64) 3 w' w.heap.size (fun _ => True) (.slice Ao5 t101.length co5) t101) ∧ Aside0 (Below w.heap.size w w'))
 case atStart => exact ⟨(([] : List (S60))), (0), gR, H', ⟨Nat.le_refl _⟩, ⟨by exact HO103.out⟩, ⟨by first | exact Kd.R_nil _ _ _ _ _ | exact Kd.N_nil _ _ _ _ _ | exact Kd.V_nil _ _ _ _ _ | exact Kd.Q_nil _ _ _ _ _ | exact Kd.S_nil _ _ _ _ _⟩, ⟨by exact HO103.out⟩, ⟨wB⟩⟩
 case round =>
  clear H'
  (try clear c1); (try clear p2)
  obtain ⟨x6_1, x14_1, rfl, HA, HK1, HO_5, HO_6, HO_12, HB⟩ := hrel
  cases gk with
  | zero => exact absurd HA.out (by simp [spec_pwShares.l0])
  | succ k1 =>
   have H := HA.out
   clear HA
   simp only [spec_pwShares.l0] at H
   by_cases c6 : x14_1 < (t101.length : Int)
   rotate_left
   ·rw [if_neg c6] at H
    have c6b0 : decide (x14_1 < (t101.length : Int)) = false := decide_eq_false c6
    clear c6
    obtain rfl := Option.some.inj H
    go_wp2
    go_ret
    exact ⟨_, fR, by (with_reducible repeat (first | apply qA | apply qN | apply qD)); exact HO_6.out, wB⟩
   rw [if_pos c6] at H
   have c6b0 := decide_eq_true c6
   clear c6
   by_cases c7 : 0 ≤ x14_1
   rotate_left
   ·rw [if_neg c7] at H
    exact absurd H (by simp)
   rw [if_pos c7] at H
   have c7b0 := decide_eq_true c7
   clear c7
   by_cases c8 : x14_1 < (t101.length : Int)
   rotate_left
   ·rw [if_neg c8] at H
    exact absurd H (by simp)
   rw [if_pos c8] at H
   have c8b0 := decide_eq_true c8
   clear c8
   replace H := oA H
   obtain ⟨t105, A9, H⟩ := H
   (try dsimp only at H)
   replace H := oB H
   obtain ⟨⟨t106, t107⟩, A100, H⟩ := H
   (try dsimp only at H)
   have A10 := Aside0.mk A100
   clear A100
   by_cases c11 : x6_1.length < 8796093022208
   rotate_left
   ·rw [if_neg c11] at H
    exact absurd H (by simp)
   rw [if_pos c11] at H
   have LMc11 := Aside0.mk c11
   clear c11
   obtain ⟨y108, hy108⟩ : ∃ y_ : List (S60), y_ = (x6_1 ++ [(⟨t106, t107⟩ : S60)]) := ⟨_, rfl⟩
   replace H : (spec_pwShares.l0 k1 t101 y108 t101 (t101.length : Int) (wrap64 (x14_1 + 1))) = some r := by first | (rw [hy108]; with_reducible exact H) | (have H2_ := (Option.bind_some _ _).symm.trans H; rw [hy108]; with_reducible exact H2_) | (have H2_ := (Option.bind_some _ _).symm.trans H; with_reducible exact H2_) | with_reducible exact H | (rw [hy108]; exact H) | exact H
   have Ny108 := Aside0.mk hy108
   clear hy108
   have H' := Aside0.mk H
   clear H
   have p104 : 0 ≤ (x14_1 : Int) := oD
   have q104 : x14_1 < (t101.length : Int) := oD
   obtain ⟨ad104, e104, hx104_0⟩ := Kd.at_int (Kd.R_reads' HO_12.out).2.2 x14_1 p104 q104
   cases e104
   replace p104 := eq_true p104
   replace q104 := eq_true q104
   go_wp2_with (first | ((with_reducible refine gate_callee (f := 128) rfl ?_); refine gL 21 Tryz.func128 #[.slice (some ad104) t101.length co5] ?_; (with_reducible refine (spec_voSum.calls k1 _ _ t101 t105 _ ?side1 ?side2 A9.out).mono ?_); (case side1 => have hx_ := (Kd.R_reads' HO_5.out).2.2; exact cC); (case side2 => exact (Kd.R_reads' HO_5.out).2.1); rintro e w' ⟨rfl, ⟨nd, rfl⟩⟩; refine ⟨_, rfl, ?_⟩) | ((with_reducible refine gate_callee (f := 160) rfl ?_); refine gL 22 Tryz.func160 #[.int .i64 (rd t101 x14_1), .int .i64 t105] ?_; (with_reducible refine (spec_pwShare.calls k1 (rd t101 x14_1) t105 t106 t107 _ A10.out).mono ?_); rintro e w12 ⟨rfl, hb⟩; refine ⟨_, rfl, ?_⟩; replace HO_5 := rP HO_5 hb; replace HO_6 := rP HO_6 hb; replace HO_12 := rP HO_12 hb; replace HB := sQ hb; (try clear hb)) | ((with_reducible refine gate_builtin (b := .append) (xs := #[.tmp 18, .tmp 23]) rfl ?_); at_builtin; refine Kd.R_append k60 (w0 := w) w.heap.size rfl (.tmp 18) (.tmp 23) 56 60 (.agg #[(.int .i64 0), (.int .i64 0)]) 16 rfl Tryz.underlying56 info60 rfl (by decide) (by omega) u6 x6_1 (⟨t106, t107⟩ : S60) [.int .i64 t106, .int .i64 t107] (fun _ => True) (fun _ => False) rfl rfl ?aP (fun _ hk => hk.elim) ?aF ?aO ?aB ?aS ?aL ?_; (case aP => exact k60_mkM _ _ _ (⟨t106, t107⟩ : S60)); (case aB => exact (by repeat (first | exact HB.out | apply ba | apply bd | apply be))); (case aF => exact (fun _ _ => trivial)); (case aO => exact (rQ HO_6)); (case aS => exact (below_size (by repeat (first | exact HB.out | apply ba | apply bd | apply be)))); (case aL => have := LMc11.out; omega); intro v109 w13 ho hb hg hat; rw [← Ny108.out] at ho; have HO110 := Aside0.mk (ho); replace HO_5 := Aside0.mk (Kd.R_over' (rQ HO_5) (Kd.R_typed (rQ HO_6)) (by decide) hg); replace HO_12 := Aside0.mk (Kd.R_over' (rQ HO_12) (Kd.R_typed (rQ HO_6)) (by decide) hg); replace HB := Aside0.mk (hb); clear ho hb hg hat))
   go_roundg k1
   case measure => have := HK1.out; omega
   case rel => exact ⟨(y108), (wrap64 (x14_1 + 1)), gR, H', ⟨by have := HK1.out; omega⟩, ⟨rQ HO_5⟩, ⟨rQ HO110⟩, ⟨rQ HO_12⟩, ⟨wB⟩⟩
def spec_SwingShares.f (k : Nat) (a0_0 : Int) (l0_1 : List Int) : Option ((List (S60)) × Bool) := (spec_voGood.f k a0_0 l0_1).bind fun t102 => (if t102 = true then ((spec_voWins.f k a0_0 l0_1).bind fun t103 => ((spec_pwShares.f k t103 (l0_1.length : Int)).bind fun t106 => (some (t106, true)))) else (some (([] : List (S60)), false)))
def spec_SwingShares.T3 : Bool × List (List Nat × List Nat) := (true, [([], []), ([0], [0]), ([], []), ([2], [2]), ([3], [3]), ([1, 4, 1], [1, 4]), ([5, 5, 0, 1, 2, 3, 4, 5], [5]), ([6, 0, 1, 2, 3, 4, 5, 6], [])])
def spec_SwingShares.B3 : List Nat := [0, 1, 0, 4, 12, 31, 63, 127]
theorem spec_SwingShares.tab3 : rtab .any (opsOf Tryz.f61 3) = spec_SwingShares.T3 := by kernel_rfl
theorem spec_SwingShares.bits3 : waitsOk spec_SwingShares.T3.2 spec_SwingShares.B3 = true := by kernel_rfl
theorem spec_SwingShares.calls (k : Nat) (a0_0 : Int) (A0_1 : Option Addr) (c0_1 : Nat) (l0_1 : List Int) (r1 : List (S60)) (r2 : Bool) (w : World) (hr0_1 : Kd.C (Kd.int .i64) w A0_1 l0_1.length l0_1) (hc0_1 : l0_1.length ≤ c0_1) (h : spec_SwingShares.f k a0_0 l0_1 = some (r1, r2)) :
  Calls Tryz.prog 61 #[.agg #[.int .i64 a0_0, .slice A0_1 l0_1.length c0_1]] w fun e w' => ∃ v0_ : Value, e = .returned (.tuple #[v0_, .bool r2]) ∧ Kd.R k60 60 w' w.heap.size (fun _ => True) v0_ r1 ∧ Below w.heap.size w w' := by
 have hu26 := Tryz.underlying26
 have HR0_1 := Aside0.mk hr0_1
 have HC0_1 := Aside0.mk hc0_1
 clear hr0_1 hc0_1
 have HB := Aside0.mk (Below.refl w.heap.size w)
 have H := h
 unfold spec_SwingShares.f at H
 clear h
 replace H := oA H
 obtain ⟨t102, A2, H⟩ := H
 (try dsimp only at H)
 by_cases c3 : t102 = true
 rotate_left
 ·replace c3 := Bool.eq_false_iff.mpr c3
  subst c3
  replace H := iF H
  simp only [Option.some.injEq, Prod.mk.injEq] at H
  obtain ⟨rfl, rfl⟩ := H
  go_enter Tryz.func61, Tryz.ntmps61
  go_wp2_with (first | ((with_reducible refine gate_dst (N := 1) rfl ?_); refine xE (N := 1) (cs := #[.int .i64 a0_0, .slice A0_1 l0_1.length c0_1]) (t := 26) ?_; intro gb101 hg w13 BK101 hb; have GW101 := gS hg HB; have GE101 := gS hg HB; replace HB := sB HB hb; clear hb hg; obtain ⟨hcz14_0, hcz14_1, hfz14_0, hfz14_1⟩ := zZ BK101) | ((with_reducible refine gate_callee (f := 129) rfl ?_); refine gL 5 Tryz.func129 #[.agg #[.int .i64 a0_0, .slice A0_1 l0_1.length c0_1]] ?_; (with_reducible refine (spec_voGood.calls k a0_0 _ _ l0_1 false _ (Kd.C_below HR0_1.out HB.out) HC0_1.out A2.out).mono ?_); rintro e w15 ⟨rfl, hb⟩; refine ⟨_, rfl, ?_⟩; replace BK101 := bB BK101 hb; replace HB := sB HB hb; (try clear hb)))
  go_ret2
  exact ⟨_, fR, by first | exact Kd.R_nil _ _ _ _ _ | exact Kd.N_nil _ _ _ _ _ | exact Kd.V_nil _ _ _ _ _ | exact Kd.Q_nil _ _ _ _ _ | exact Kd.S_nil _ _ _ _ _, wB⟩
 subst c3
 replace H := iT H
 replace H := oA H
 obtain ⟨t103, A4, H⟩ := H
 (try dsimp only at H)
 replace H := oA H
 obtain ⟨t106, A5, H⟩ := H
 (try dsimp only at H)
 simp only [Option.some.injEq, Prod.mk.injEq] at H
 obtain ⟨rfl, rfl⟩ := H
 go_enter Tryz.func61, Tryz.ntmps61
 try go_wp2_with (first | ((with_reducible refine gate_dst (N := 1) rfl ?_); refine xE (N := 1) (cs := #[.int .i64 a0_0, .slice A0_1 l0_1.length c0_1]) (t := 26) ?_; intro gb101 hg w6 BK101 hb; have GW101 := gS hg HB; have GE101 := gS hg HB; replace HB := sB HB hb; clear hb hg; obtain ⟨hcz7_0, hcz7_1, hfz7_0, hfz7_1⟩ := zZ BK101) | ((with_reducible refine gate_callee (f := 129) rfl ?_); refine gL 5 Tryz.func129 #[.agg #[.int .i64 a0_0, .slice A0_1 l0_1.length c0_1]] ?_; (with_reducible refine (spec_voGood.calls k a0_0 _ _ l0_1 true _ (Kd.C_below HR0_1.out HB.out) HC0_1.out A2.out).mono ?_); rintro e w8 ⟨rfl, hb⟩; refine ⟨_, rfl, ?_⟩; replace BK101 := bB BK101 hb; replace HB := sB HB hb; (try clear hb)))
 replace BK101 := bD BK101
 replace HB := Aside0.mk (below_drew1 HB.out)
 refine start_ (n := 8) (S := fun w' => w'.cell? ⟨gb101, 0, none⟩ = some (.int .i64 a0_0) ∧ w'.cell? ⟨gb101, 1, none⟩ = some (.slice A0_1 l0_1.length c0_1)) (ds := []) #[F,F,F,F,F,F,F,F] (by kernel_rfl) rfl rfl ⟨(blk_cell BK101.out 0).trans rfl, (blk_cell BK101.out 1).trans rfl⟩ (fun hHeld => ?_); refine with_tabW spec_SwingShares.tab3 spec_SwingShares.bits3 (fun HT_ HW_ => ?_)
 (try clear hcz7_0 hcz7_1 hfz7_0 hfz7_1)
 generalize w8.drew = w9 at BK101 HB hHeld ⊢
 refine pU 2 HT_ ?_
 refine tK 0 HT_ HW_ hHeld (hy := by rintro w' ⟨s0, s1⟩; go_simp; with_reducible rfl) ?_
 refine tK 3 HT_ HW_ hHeld (hy := by rintro w' ⟨s0, s1⟩; go_simp; with_reducible rfl) ?_
 refine pU 4 HT_ ?_
 refine oN 1 HT_ (fun K hK => ?_)
 refine gE Tryz.func141 #[.agg #[.int .i64 a0_0, .slice A0_1 l0_1.length c0_1]] ?_
 with_reducible refine (spec_voWins.calls k a0_0 _ _ l0_1 t103 _ (Kd.C_below HR0_1.out HB.out) HC0_1.out A4.out).mono ?_
 rintro e w10 ⟨v104, rfl, ho0, hb⟩
 refine ⟨_, rfl, ?_⟩
 have HO105 := Aside0.mk (Kd.R_lower ho0 (below_size HB.out))
 replace BK101 := bB BK101 hb
 replace HB := sB HB hb
 (try clear hb)
 (try clear hb2)
 (try clear hk)
 (try clear hi)
 (try clear ho0)
 obtain ⟨Ao11, co11, eo11⟩ := Kd.R_slice HO105.out
 (first | subst eo11 | (injection eo11 with f1_ f2_ f3_; have f4_ := f1_.symm; have f5_ := f3_.symm; clear f1_ f2_ f3_; subst f4_; subst f5_))
 refine hK.out _ _ ⟨(blk_cell BK101.out 0).trans rfl, (blk_cell BK101.out 1).trans rfl⟩ (fun hHeld => ?_)
 clear hK K
 refine nM ?_
 refine oN 5 HT_ (fun K hK => ?_)
 refine gE Tryz.func161 #[.slice Ao11 t103.length co11, .int .i64 (l0_1.length : Int)] ?_
 with_reducible refine (spec_pwShares.calls k _ _ t103 (l0_1.length : Int) t106 _ ?side1 ?side2 A5.out).mono ?_
 (case side1 => have hx_ := (Kd.R_reads' HO105.out).2.2; exact cC)
 (case side2 => exact (Kd.R_reads' HO105.out).2.1)
 rintro e w12 ⟨v107, rfl, ho0, hb⟩
 refine ⟨_, rfl, ?_⟩
 have HO108 := Aside0.mk (Kd.R_lower ho0 (below_size HB.out))
 replace HO105 := rB HO105 hb
 replace BK101 := bB BK101 hb
 replace HB := sB HB hb
 (try clear hb)
 (try clear hb2)
 (try clear hk)
 (try clear hi)
 (try clear ho0)
 refine hK.out _ _ ⟨(blk_cell BK101.out 0).trans rfl, (blk_cell BK101.out 1).trans rfl⟩ (fun hHeld => ?_)
 clear hK K
 refine nM ?_
 refine pU 6 HT_ ?_
 refine pU 7 HT_ ?_
 refine done_ (done_of HT_.out (by kernel_rfl)) ?_
 try go_wp2
 go_ret2
 exact ⟨_, fR, by exact HO108.out, wB⟩
def impl_DecidePower.f (k : Nat) (a0_0 : Int) (l0_1 : List Int) : Option (Int × Int × Bool) := (impl_IsCommittee.f k a0_0 l0_1).bind fun t103 => (if t103 = true then ((impl_Committee_votes.f k a0_0 l0_1).bind fun bt104 => ((impl_votes_countWins.f k bt104.1 bt104.2).bind fun t109 => ((impl_shareOf.f k t109 (bt104.2.length : Int)).bind fun bt110 => (some (bt110.1, bt110.2, true))))) else (some (0, 0, false)))
def impl_DecidePower.T4 : Bool × List (List Nat × List Nat) := (true, [([], []), ([0], [0]), ([], []), ([2], [2]), ([3], [3]), ([1, 4, 1], [1, 4]), ([5, 5, 0, 1, 2, 3, 4, 5], [5]), ([6, 0, 1, 2, 3, 4, 5, 6], [])])
def impl_DecidePower.B4 : List Nat := [0, 1, 0, 4, 12, 31, 63, 127]
theorem impl_DecidePower.tab4 : rtab .any (opsOf Tryz.f62 4) = impl_DecidePower.T4 := by kernel_rfl
theorem impl_DecidePower.bits4 : waitsOk impl_DecidePower.T4.2 impl_DecidePower.B4 = true := by kernel_rfl
theorem impl_DecidePower.calls (k : Nat) (a0_0 : Int) (A0_1 : Option Addr) (c0_1 : Nat) (l0_1 : List Int) (r1 : Int) (r2 : Int) (r3 : Bool) (w : World) (hr0_1 : Kd.C (Kd.int .i64) w A0_1 l0_1.length l0_1) (hc0_1 : l0_1.length ≤ c0_1) (h : impl_DecidePower.f k a0_0 l0_1 = some (r1, r2, r3)) :
  Calls Tryz.prog 62 #[.agg #[.int .i64 a0_0, .slice A0_1 l0_1.length c0_1]] w fun e w' => e = .returned (.tuple #[.agg #[.int .i64 r1, .int .i64 r2], .bool r3]) ∧ Below w.heap.size w w' := by
 have hu26 := Tryz.underlying26
 have hu60 := Tryz.underlying60
 have hu87 := Tryz.underlying87
 have HR0_1 := Aside0.mk hr0_1
 have HC0_1 := Aside0.mk hc0_1
 clear hr0_1 hc0_1
 have HB := Aside0.mk (Below.refl w.heap.size w)
 have H := h
 unfold impl_DecidePower.f at H
 clear h
 replace H := oA H
 obtain ⟨t103, A2, H⟩ := H
 (try dsimp only at H)
 by_cases c3 : t103 = true
 rotate_left
 ·replace c3 := Bool.eq_false_iff.mpr c3
  subst c3
  replace H := iF H
  simp only [Option.some.injEq, Prod.mk.injEq] at H
  obtain ⟨rfl, rfl, rfl⟩ := H
  go_enter Tryz.func62, Tryz.ntmps62
  go_wp2_with (first | ((with_reducible refine gate_dst (N := 1) rfl ?_); refine xE (N := 1) (cs := #[.int .i64 a0_0, .slice A0_1 l0_1.length c0_1]) (t := 26) ?_; intro gb101 hg w25 BK101 hb; have GW101 := gS hg HB; have GE101 := gS hg HB; replace HB := sB HB hb; clear hb hg) | ((with_reducible refine gate_dst (N := 2) rfl ?_); refine xE (N := 2) (cs := #[.int .i64 0, .int .i64 0]) (t := 60) ?_; intro gb102 hg w26 BK102 hb; have GW102 := gS hg HB; have GE102 := gS hg HB; have NB101_102 := nL hg (blk_lt BK101.out); have NB102_101 := nG hg (blk_lt BK101.out); replace BK101 := bB BK101 hb; replace HB := sB HB hb; clear hb hg; have hnb27 := NB101_102.out; have hnc27 := NB102_101.out; obtain ⟨hcz28_0, hcz28_1, hfz28_0, hfz28_1⟩ := zZ BK101) | ((with_reducible refine gate_callee (f := 20) rfl ?_); refine gL 6 Tryz.func20 #[.agg #[.int .i64 a0_0, .slice A0_1 l0_1.length c0_1]] ?_; (with_reducible refine (impl_IsCommittee.calls k a0_0 _ _ l0_1 false _ (Kd.C_below HR0_1.out HB.out) HC0_1.out A2.out).mono ?_); rintro e w29 ⟨rfl, hb⟩; refine ⟨_, rfl, ?_⟩; replace BK101 := bB BK101 hb; replace BK102 := bB BK102 hb; replace HB := sB HB hb; (try clear hb); (try clear hcz28_0 hcz28_1 hfz28_0 hfz28_1); obtain ⟨hcz30_0, hcz30_1, hfz30_0, hfz30_1⟩ := zZ BK102))
  refine bodyPost_ret (results_ct rfl _ _ gb102 60 #[.int .i64 0, .int .i64 0] (0, 0) _ rfl (by refine blk_put (cs := #[.int .i64 0, .int .i64 0]) ?_ 1 _ rfl; refine blk_put (cs := #[.int .i64 0, .int .i64 0]) ?_ 0 _ rfl; exact BK102.out) Tryz.underlying60 rfl (by kernel_rfl)) rfl ?_
  exact ⟨fR, wB⟩
 subst c3
 replace H := iT H
 replace H := oB H
 obtain ⟨⟨t104, t105⟩, A40, H⟩ := H
 (try dsimp only at H)
 have A4 := Aside0.mk A40
 clear A40
 replace H := oA H
 obtain ⟨t109, A5, H⟩ := H
 (try dsimp only at H)
 replace H := oB H
 obtain ⟨⟨t110, t111⟩, A60, H⟩ := H
 (try dsimp only at H)
 have A6 := Aside0.mk A60
 clear A60
 simp only [Option.some.injEq, Prod.mk.injEq] at H
 obtain ⟨rfl, rfl, rfl⟩ := H
 go_enter Tryz.func62, Tryz.ntmps62
 try go_wp2_with (first | ((with_reducible refine gate_dst (N := 1) rfl ?_); refine xE (N := 1) (cs := #[.int .i64 a0_0, .slice A0_1 l0_1.length c0_1]) (t := 26) ?_; intro gb101 hg w7 BK101 hb; have GW101 := gS hg HB; have GE101 := gS hg HB; replace HB := sB HB hb; clear hb hg) | ((with_reducible refine gate_dst (N := 2) rfl ?_); refine xE (N := 2) (cs := #[.int .i64 0, .int .i64 0]) (t := 60) ?_; intro gb102 hg w8 BK102 hb; have GW102 := gS hg HB; have GE102 := gS hg HB; have NB101_102 := nL hg (blk_lt BK101.out); have NB102_101 := nG hg (blk_lt BK101.out); replace BK101 := bB BK101 hb; replace HB := sB HB hb; clear hb hg; have hnb9 := NB101_102.out; have hnc9 := NB102_101.out; obtain ⟨hcz10_0, hcz10_1, hfz10_0, hfz10_1⟩ := zZ BK101) | ((with_reducible refine gate_callee (f := 20) rfl ?_); refine gL 6 Tryz.func20 #[.agg #[.int .i64 a0_0, .slice A0_1 l0_1.length c0_1]] ?_; (with_reducible refine (impl_IsCommittee.calls k a0_0 _ _ l0_1 true _ (Kd.C_below HR0_1.out HB.out) HC0_1.out A2.out).mono ?_); rintro e w11 ⟨rfl, hb⟩; refine ⟨_, rfl, ?_⟩; replace BK101 := bB BK101 hb; replace BK102 := bB BK102 hb; replace HB := sB HB hb; (try clear hb); (try clear hcz10_0 hcz10_1 hfz10_0 hfz10_1); obtain ⟨hcz12_0, hcz12_1, hfz12_0, hfz12_1⟩ := zZ BK101) | ((with_reducible refine gate_callee (f := 135) rfl ?_); refine gL 10 Tryz.func135 #[.agg #[.int .i64 a0_0, .slice A0_1 l0_1.length c0_1]] ?_; (with_reducible refine (impl_Committee_votes.calls k a0_0 _ _ l0_1 t104 t105 _ (Kd.C_below HR0_1.out HB.out) HC0_1.out A4.out).mono ?_); rintro e w13 ⟨v106, rfl, ho0, hb⟩; refine ⟨_, rfl, ?_⟩; have HO107 := Aside0.mk (Kd.R_lower ho0 (below_size HB.out)); replace BK101 := bB BK101 hb; replace BK102 := bB BK102 hb; replace HB := sB HB hb; (try clear hb); (try clear ho0)) | ((with_reducible refine gate_dst (N := 4) rfl ?_); refine xE (N := 4) (cs := #[.int .i64 0, .slice none 0 0]) (t := 87) ?_; intro gb108 hg w14 BK108 hb; have GW108 := gS hg HB; have GE108 := gS hg HB; have NB101_108 := nL hg (blk_lt BK101.out); have NB108_101 := nG hg (blk_lt BK101.out); have NB102_108 := nL hg (blk_lt BK102.out); have NB108_102 := nG hg (blk_lt BK102.out); replace HO107 := rB HO107 hb; replace BK101 := bB BK101 hb; replace BK102 := bB BK102 hb; replace HB := sB HB hb; clear hb hg; have hnb15 := NB108_101.out; have hnc15 := NB101_108.out; have hnb16 := NB108_102.out; have hnc16 := NB102_108.out; (try clear hcz12_0 hcz12_1 hfz12_0 hfz12_1); obtain ⟨hcz17_0, hcz17_1, hfz17_0, hfz17_1⟩ := zZ BK108; obtain ⟨Ao18, co18, eo18⟩ := Kd.R_slice HO107.out; subst eo18))
 have n0_ : Aside0 (Kd.R Kd.bool 4 ((w14.setCell ⟨gb108, 0, none⟩ (.int .i64 t104)).setCell ⟨gb108, 1, none⟩ (.slice Ao18 t105.length co18)) w.heap.size (fun _ => True) (.slice Ao18 t105.length co18) t105) := ⟨by exact Kd.R_mono (Kd.R_far (p := ⟨gb108, 1, none⟩) (Kd.R_far (p := ⟨gb108, 0, none⟩) (Kd.R_types HO107.out BK108.out (by decide)) (fun _ hk => hk.2) (.int .i64 t104)) (fun _ hk => hk.2) (.slice Ao18 t105.length co18)) (fun _ hk => trivial)⟩
 have n1_ : Aside0 (((w14.setCell ⟨gb108, 0, none⟩ (.int .i64 t104)).setCell ⟨gb108, 1, none⟩ (.slice Ao18 t105.length co18)).heap[gb101]? = some (.cells #[.int .i64 a0_0, .slice A0_1 l0_1.length c0_1] 26 (0, 0))) := ⟨by refine blk_far ?_ NB101_108.out _; refine blk_far ?_ NB101_108.out _; exact BK101.out⟩
 have n2_ : Aside0 (((w14.setCell ⟨gb108, 0, none⟩ (.int .i64 t104)).setCell ⟨gb108, 1, none⟩ (.slice Ao18 t105.length co18)).heap[gb102]? = some (.cells #[.int .i64 0, .int .i64 0] 60 (0, 0))) := ⟨by refine blk_far ?_ NB102_108.out _; refine blk_far ?_ NB102_108.out _; exact BK102.out⟩
 have n3_ : Aside0 (((w14.setCell ⟨gb108, 0, none⟩ (.int .i64 t104)).setCell ⟨gb108, 1, none⟩ (.slice Ao18 t105.length co18)).heap[gb108]? = some (.cells #[.int .i64 t104, .slice Ao18 t105.length co18] 87 (0, 0))) := ⟨by refine blk_put (cs := #[.int .i64 t104, .slice none 0 0]) ?_ 1 _ rfl; refine blk_put (cs := #[.int .i64 0, .slice none 0 0]) ?_ 0 _ rfl; exact BK108.out⟩
 have n4_ : Aside0 (Below w.heap.size w ((w14.setCell ⟨gb108, 0, none⟩ (.int .i64 t104)).setCell ⟨gb108, 1, none⟩ (.slice Ao18 t105.length co18))) := ⟨wB⟩
 (try clear HO107)
 (try clear BK101)
 (try clear BK102)
 (try clear BK108)
 (try clear HB)
 (try clear hcz17_0 hcz17_1 hfz17_0 hfz17_1)
 generalize ((w14.setCell ⟨gb108, 0, none⟩ (.int .i64 t104)).setCell ⟨gb108, 1, none⟩ (.slice Ao18 t105.length co18)) = w19 at n0_ n1_ n2_ n3_ n4_ ⊢
 have HO107 := n0_
 have BK101 := n1_
 have BK102 := n2_
 have BK108 := n3_
 have HB := n4_
 clear n0_ n1_ n2_ n3_ n4_
 replace HO107 := rD HO107
 replace BK101 := bD BK101
 replace BK102 := bD BK102
 replace BK108 := bD BK108
 replace HB := Aside0.mk (below_drew1 HB.out)
 refine start_ (n := 8) (S := fun w' => w'.cell? ⟨gb108, 0, none⟩ = some (.int .i64 t104) ∧ w'.cell? ⟨gb108, 1, none⟩ = some (.slice Ao18 t105.length co18)) (ds := []) #[F,F,F,F,F,F,F,F] (by kernel_rfl) rfl rfl ⟨(blk_cell BK108.out 0).trans rfl, (blk_cell BK108.out 1).trans rfl⟩ (fun hHeld => ?_); refine with_tabW impl_DecidePower.tab4 impl_DecidePower.bits4 (fun HT_ HW_ => ?_)
 generalize w19.drew = w20 at HO107 BK101 BK102 BK108 HB hHeld ⊢
 refine pU 2 HT_ ?_
 refine tK 0 HT_ HW_ hHeld (hy := by rintro w' ⟨s0, s1⟩; go_simp; with_reducible rfl) ?_
 refine tK 3 HT_ HW_ hHeld (hy := by rintro w' ⟨s0, s1⟩; go_simp; with_reducible rfl) ?_
 refine pU 4 HT_ ?_
 refine oN 1 HT_ (fun K hK => ?_)
 refine gE Tryz.func150 #[.agg #[.int .i64 t104, .slice Ao18 t105.length co18]] ?_
 with_reducible refine (impl_votes_countWins.calls k t104 _ _ t105 t109 _ ?side1 ?side2 A5.out).mono ?_
 (case side1 => have hx_ := (Kd.R_reads' HO107.out).2.2; exact cC)
 (case side2 => exact (Kd.R_reads' HO107.out).2.1)
 rintro e w21 ⟨rfl, hb⟩
 refine ⟨_, rfl, ?_⟩
 replace HO107 := rB HO107 hb
 replace BK101 := bB BK101 hb
 replace BK102 := bB BK102 hb
 replace BK108 := bB BK108 hb
 replace HB := sB HB hb
 (try clear hb)
 (try clear hb2)
 (try clear hk)
 (try clear hi)
 refine hK.out _ _ ⟨(blk_cell BK108.out 0).trans rfl, (blk_cell BK108.out 1).trans rfl⟩ (fun hHeld => ?_)
 clear hK K
 refine nM ?_
 refine oN 5 HT_ (fun K hK => ?_)
 refine gE Tryz.func162 #[.int .i64 t109, .int .i64 (t105.length : Int)] ?_
 with_reducible refine (impl_shareOf.calls k t109 (t105.length : Int) t110 t111 _ A6.out).mono ?_
 rintro e w22 ⟨rfl, hb⟩
 refine ⟨_, rfl, ?_⟩
 replace HO107 := rB HO107 hb
 replace BK101 := bB BK101 hb
 replace BK102 := bB BK102 hb
 replace BK108 := bB BK108 hb
 replace HB := sB HB hb
 (try clear hb)
 (try clear hb2)
 (try clear hk)
 (try clear hi)
 refine hK.out _ _ ⟨(blk_cell BK108.out 0).trans rfl, (blk_cell BK108.out 1).trans rfl⟩ (fun hHeld => ?_)
 clear hK K
 refine nM ?_
 refine oN 6 HT_ (fun K hK => ?_)
 have hs23 : w22.cell? ⟨gb102, 0, none⟩ = some (.int .i64 0) := (blk_cell BK102.out 0).trans rfl
 have hfs23 := blk_frozen BK102.out 0
 have hns23_0 := NB101_102.out
 have hns23_2 := NB108_102.out
 have hms23_0 := NB102_101.out
 have hms23_2 := NB102_108.out
 have hs24 : w22.cell? ⟨gb102, 1, none⟩ = some (.int .i64 0) := (blk_cell BK102.out 1).trans rfl
 have hfs24 := blk_frozen BK102.out 1
 have hns24_0 := NB101_102.out
 have hns24_2 := NB108_102.out
 have hms24_0 := NB102_101.out
 have hms24_2 := NB102_108.out
 refine skip_ (w1 := ?_) (by rfl) rfl ?_ ?_
 rotate_left
 ·go_simp
  rfl
 refine hK.out _ _ ⟨((cell_far (p := ⟨gb102, _, none⟩) NB108_102.out _).trans (((cell_far (p := ⟨gb102, _, none⟩) NB108_102.out _).trans (hHeld.1)))), ((cell_far (p := ⟨gb102, _, none⟩) NB108_102.out _).trans (((cell_far (p := ⟨gb102, _, none⟩) NB108_102.out _).trans (hHeld.2))))⟩ (fun hHeld => ?_)
 clear hK K
 refine pU 7 HT_ ?_
 refine done_ (done_of HT_.out (by kernel_rfl)) ?_
 try go_wp2
 refine bodyPost_ret (results_ct rfl _ _ gb102 60 #[.int .i64 t110, .int .i64 t111] (0, 0) _ rfl (by refine blk_put (cs := #[.int .i64 t110, .int .i64 0]) ?_ 1 _ rfl; refine blk_put (cs := #[.int .i64 0, .int .i64 0]) ?_ 0 _ rfl; exact BK102.out) Tryz.underlying60 rfl (by kernel_rfl)) rfl ?_
 exact ⟨fR, wB⟩
def spec_gmCount.l0 : Nat → Int → List Bool → Int → Int → Option (Int)
 | 0, _, _, _, _ => none
 | k + 1, x3, x6, x7, x8 => if x8 < x7 then (if 0 ≤ x8 then (if x8 < (x6.length : Int) then (if rdOf false x6 x8 = true then (spec_gmCount.l0 k (wrap64 (x3 + 1)) x6 x7 (wrap64 (x8 + 1))) else (spec_gmCount.l0 k x3 x6 x7 (wrap64 (x8 + 1)))) else (none)) else (none)) else (some x3)
def spec_gmCount.f (k : Nat) (l0 : List Bool) : Option (Int) := spec_gmCount.l0 k 0 l0 (l0.length : Int) 0
theorem spec_gmCount.calls (k : Nat) (A0 : Option Addr) (c0 : Nat) (l0 : List Bool) (r : Int) (w : World) (hr0 : Kd.C Kd.bool w A0 l0.length l0) (hc0 : l0.length ≤ c0) (h : spec_gmCount.f k l0 = some r) :
  Calls Tryz.prog 163 #[.slice A0 l0.length c0] w fun e w' => e = .returned (.int .i64 r) ∧ Drawn0 w w' := by
 have HR0 := Aside0.mk hr0
 have HC0 := Aside0.mk hc0
 clear hr0 hc0
 have H := h
 unfold spec_gmCount.f at H
 clear h
 have H' := Aside0.mk H
 clear H
 go_enter Tryz.func163, Tryz.ntmps163
 go_wp2
 go_loopg [3, 8] k (fun kq v3 v8 w' => ∃ (x3_1 : Int) (x8_1 : Int), v3 = .int .i64 x3_1 ∧ v8 = .int .i64 x8_1 ∧ Aside0 (spec_gmCount.l0 kq x3_1 l0 (l0.length : Int) x8_1 = some r) ∧ Aside0 (kq ≤ k) ∧ Drawn0 w w')
 case atStart => exact ⟨(0), (0), gR, gR, H', ⟨Nat.le_refl _⟩, dS⟩
 case round =>
  clear H'
  (try clear c1)
  obtain ⟨x3_1, x8_1, rfl, rfl, HA, HK1, ⟨m1, rfl⟩⟩ := hrel
  cases gk with
  | zero => exact absurd HA.out (by simp [spec_gmCount.l0])
  | succ k1 =>
   have H := HA.out
   clear HA
   simp only [spec_gmCount.l0] at H
   by_cases c2 : x8_1 < (l0.length : Int)
   rotate_left
   ·rw [if_neg c2] at H
    have c2b0 : decide (x8_1 < (l0.length : Int)) = false := decide_eq_false c2
    clear c2
    obtain rfl := Option.some.inj H
    go_wp2
    go_ret
    exact ⟨by first | rfl | (simp; done) | (simp [*]; done), dS⟩
   rw [if_pos c2] at H
   have c2b0 := decide_eq_true c2
   clear c2
   by_cases c3 : 0 ≤ x8_1
   rotate_left
   ·rw [if_neg c3] at H
    exact absurd H (by simp)
   rw [if_pos c3] at H
   have c3b0 := decide_eq_true c3
   clear c3
   by_cases c4 : x8_1 < (l0.length : Int)
   rotate_left
   ·rw [if_neg c4] at H
    exact absurd H (by simp)
   rw [if_pos c4] at H
   have c4b0 := decide_eq_true c4
   clear c4
   obtain ⟨bq5, hbq5⟩ : ∃ b_ : Bool, b_ = (rdOf false l0 x8_1) := ⟨_, rfl⟩
   replace H : (if bq5 = true then (spec_gmCount.l0 k1 (wrap64 (x3_1 + 1)) l0 (l0.length : Int) (wrap64 (x8_1 + 1))) else (spec_gmCount.l0 k1 x3_1 l0 (l0.length : Int) (wrap64 (x8_1 + 1)))) = some r := by rw [← hbq5] at H; exact H
   have Nbq5 := Aside0.mk hbq5
   clear hbq5
   by_cases c6 : bq5 = true
   ·subst c6
    replace H := iT H
    have H' := Aside0.mk H
    clear H
    have p101 : 0 ≤ (x8_1 : Int) := oD
    have q101 : x8_1 < (l0.length : Int) := oD
    obtain ⟨ad101, e101, hx101_0⟩ := Kd.at_bool HR0.out x8_1 p101 q101
    (try rw [← Nbq5.out] at hx101_0)
    cases e101
    replace p101 := eq_true p101
    replace q101 := eq_true q101
    go_wp2
    go_roundg k1
    case measure => have := HK1.out; omega
    case rel => exact ⟨(wrap64 (x3_1 + 1)), (wrap64 (x8_1 + 1)), gR, gR, H', ⟨by have := HK1.out; omega⟩, dS⟩
   replace c6 := Bool.eq_false_iff.mpr c6
   subst c6
   replace H := iF H
   have H' := Aside0.mk H
   clear H
   have p101 : 0 ≤ (x8_1 : Int) := oD
   have q101 : x8_1 < (l0.length : Int) := oD
   obtain ⟨ad101, e101, hx101_0⟩ := Kd.at_bool HR0.out x8_1 p101 q101
   (try rw [← Nbq5.out] at hx101_0)
   cases e101
   replace p101 := eq_true p101
   replace q101 := eq_true q101
   go_wp2
   go_roundg k1
   case measure => have := HK1.out; omega
   case rel => exact ⟨(x3_1), (wrap64 (x8_1 + 1)), gR, gR, H', ⟨by have := HK1.out; omega⟩, dS⟩
def spec_DecidePower.f (k : Nat) (a0_0 : Int) (l0_1 : List Int) : Option (Int × Int × Bool) := (spec_voGood.f k a0_0 l0_1).bind fun t103 => (if t103 = true then ((spec_voWins.f k a0_0 l0_1).bind fun t104 => ((spec_gmCount.f k t104).bind fun t107 => ((spec_pwShare.f k t107 (t104.length : Int)).bind fun bt108 => (some (bt108.1, bt108.2, true))))) else (some (0, 0, false)))
theorem spec_DecidePower.calls (k : Nat) (a0_0 : Int) (A0_1 : Option Addr) (c0_1 : Nat) (l0_1 : List Int) (r1 : Int) (r2 : Int) (r3 : Bool) (w : World) (hr0_1 : Kd.C (Kd.int .i64) w A0_1 l0_1.length l0_1) (hc0_1 : l0_1.length ≤ c0_1) (h : spec_DecidePower.f k a0_0 l0_1 = some (r1, r2, r3)) :
  Calls Tryz.prog 63 #[.agg #[.int .i64 a0_0, .slice A0_1 l0_1.length c0_1]] w fun e w' => e = .returned (.tuple #[.agg #[.int .i64 r1, .int .i64 r2], .bool r3]) ∧ Below w.heap.size w w' := by
 have hu26 := Tryz.underlying26
 have hu60 := Tryz.underlying60
 have HR0_1 := Aside0.mk hr0_1
 have HC0_1 := Aside0.mk hc0_1
 clear hr0_1 hc0_1
 have HB := Aside0.mk (Below.refl w.heap.size w)
 have H := h
 unfold spec_DecidePower.f at H
 clear h
 replace H := oA H
 obtain ⟨t103, A2, H⟩ := H
 (try dsimp only at H)
 by_cases c3 : t103 = true
 rotate_left
 ·replace c3 := Bool.eq_false_iff.mpr c3
  subst c3
  replace H := iF H
  simp only [Option.some.injEq, Prod.mk.injEq] at H
  obtain ⟨rfl, rfl, rfl⟩ := H
  go_enter Tryz.func63, Tryz.ntmps63
  go_wp2_with (first | ((with_reducible refine gate_dst (N := 1) rfl ?_); refine xE (N := 1) (cs := #[.int .i64 a0_0, .slice A0_1 l0_1.length c0_1]) (t := 26) ?_; intro gb101 hg w17 BK101 hb; have GW101 : Aside0 (w.heap.size ≤ gb101) := gT hg; have GE101 : Aside0 (w.heap.size ≤ gb101) := gT hg; replace HB := sQ hb; clear hb hg) | ((with_reducible refine gate_dst (N := 2) rfl ?_); refine xE (N := 2) (cs := #[.int .i64 0, .int .i64 0]) (t := 60) ?_; intro gb102 hg w18 BK102 hb; have GW102 := Aside0.mk ((by rw [hg]; exact (below_size (by repeat (first | exact HB.out | apply ba | apply bd | apply be | refine bs ?_ GE101.out))) : w.heap.size ≤ gb102)); have GE102 := Aside0.mk ((by rw [hg]; exact (below_size (by repeat (first | exact HB.out | apply ba | apply bd | apply be | refine bs ?_ GE101.out))) : w.heap.size ≤ gb102)); have NB101_102 := Aside0.mk ((by rw [hg]; exact Nat.ne_of_lt (blk_lt (g := gb101) (o := .cells #[.int .i64 a0_0, .slice A0_1 l0_1.length c0_1] 26 (0, 0)) (bQ BK101)) : gb101 ≠ gb102)); have NB102_101 := Aside0.mk ((by rw [hg]; exact Nat.ne_of_gt (blk_lt (g := gb101) (o := .cells #[.int .i64 a0_0, .slice A0_1 l0_1.length c0_1] 26 (0, 0)) (bQ BK101)) : gb102 ≠ gb101)); replace BK101 := bP BK101 hb; replace HB := sQ hb; clear hb hg; have hnb19 := NB101_102.out; have hnc19 := NB102_101.out; (try clear hcz16_0 hcz16_1 hfz16_0 hfz16_1); obtain ⟨hcz20_0, hcz20_1, hfz20_0, hfz20_1⟩ := zZ BK101) | ((with_reducible refine gate_callee (f := 129) rfl ?_); refine gL 6 Tryz.func129 #[.agg #[.int .i64 a0_0, .slice A0_1 l0_1.length c0_1]] ?_; (with_reducible refine (spec_voGood.calls k a0_0 _ _ l0_1 false _ ?side1 ?side2 A2.out).mono ?_); (case side1 => have hx_ := (Kd.C_below HR0_1.out HB.out); exact cC); (case side2 => exact HC0_1.out); rintro e w21 ⟨rfl, hb⟩; refine ⟨_, rfl, ?_⟩; replace BK101 := bP BK101 hb; replace BK102 := bP BK102 hb; replace HB := sQ hb; (try clear hb); (try clear hcz20_0 hcz20_1 hfz20_0 hfz20_1); obtain ⟨hcz22_0, hcz22_1, hfz22_0, hfz22_1⟩ := zZ BK102))
  refine bodyPost_ret (results_ct rfl _ _ gb102 60 #[.int .i64 0, .int .i64 0] (0, 0) _ rfl (by (with_reducible repeat (first | refine kN ?_ _ | refine kD ?_ | refine kA ?_ _)); refine blk_put (cs := #[.int .i64 0, .int .i64 0]) ?_ 1 _ rfl; (with_reducible repeat (first | refine kN ?_ _ | refine kD ?_ | refine kA ?_ _)); refine blk_put (cs := #[.int .i64 0, .int .i64 0]) ?_ 0 _ rfl; (with_reducible repeat (first | refine kN ?_ _ | refine kD ?_ | refine kA ?_ _)); exact BK102.out) Tryz.underlying60 rfl (by kernel_rfl)) rfl ?_
  exact ⟨fR, wB⟩
 subst c3
 replace H := iT H
 replace H := oA H
 obtain ⟨t104, A4, H⟩ := H
 (try dsimp only at H)
 replace H := oA H
 obtain ⟨t107, A5, H⟩ := H
 (try dsimp only at H)
 replace H := oB H
 obtain ⟨⟨t108, t109⟩, A60, H⟩ := H
 (try dsimp only at H)
 have A6 := Aside0.mk A60
 clear A60
 simp only [Option.some.injEq, Prod.mk.injEq] at H
 obtain ⟨rfl, rfl, rfl⟩ := H
 go_enter Tryz.func63, Tryz.ntmps63
 go_wp2_with (first | ((with_reducible refine gate_dst (N := 1) rfl ?_); refine xE (N := 1) (cs := #[.int .i64 a0_0, .slice A0_1 l0_1.length c0_1]) (t := 26) ?_; intro gb101 hg w7 BK101 hb; have GW101 := gS hg HB; have GE101 := gS hg HB; replace HB := sB HB hb; clear hb hg) | ((with_reducible refine gate_dst (N := 2) rfl ?_); refine xE (N := 2) (cs := #[.int .i64 0, .int .i64 0]) (t := 60) ?_; intro gb102 hg w8 BK102 hb; have GW102 := gS hg HB; have GE102 := gS hg HB; have NB101_102 := nL hg (blk_lt BK101.out); have NB102_101 := nG hg (blk_lt BK101.out); replace BK101 := bB BK101 hb; replace HB := sB HB hb; clear hb hg; have hnb9 := NB101_102.out; have hnc9 := NB102_101.out; obtain ⟨hcz10_0, hcz10_1, hfz10_0, hfz10_1⟩ := zZ BK101) | ((with_reducible refine gate_callee (f := 129) rfl ?_); refine gL 6 Tryz.func129 #[.agg #[.int .i64 a0_0, .slice A0_1 l0_1.length c0_1]] ?_; (with_reducible refine (spec_voGood.calls k a0_0 _ _ l0_1 true _ (Kd.C_below HR0_1.out HB.out) HC0_1.out A2.out).mono ?_); rintro e w11 ⟨rfl, hb⟩; refine ⟨_, rfl, ?_⟩; replace BK101 := bB BK101 hb; replace BK102 := bB BK102 hb; replace HB := sB HB hb; (try clear hb); (try clear hcz10_0 hcz10_1 hfz10_0 hfz10_1); obtain ⟨hcz12_0, hcz12_1, hfz12_0, hfz12_1⟩ := zZ BK101) | ((with_reducible refine gate_callee (f := 141) rfl ?_); refine gL 10 Tryz.func141 #[.agg #[.int .i64 a0_0, .slice A0_1 l0_1.length c0_1]] ?_; (with_reducible refine (spec_voWins.calls k a0_0 _ _ l0_1 t104 _ (Kd.C_below HR0_1.out HB.out) HC0_1.out A4.out).mono ?_); rintro e w13 ⟨v105, rfl, ho0, hb⟩; refine ⟨_, rfl, ?_⟩; have HO106 := Aside0.mk (Kd.R_lower ho0 (below_size HB.out)); replace BK101 := bB BK101 hb; replace BK102 := bB BK102 hb; replace HB := sB HB hb; (try clear hb); (try clear ho0); obtain ⟨Ao14, co14, eo14⟩ := Kd.R_slice HO106.out; subst eo14) | ((with_reducible refine gate_callee (f := 163) rfl ?_); refine gL 12 Tryz.func163 #[.slice Ao14 t104.length co14] ?_; (with_reducible refine (spec_gmCount.calls k _ _ t104 t107 _ ?side1 ?side2 A5.out).mono ?_); (case side1 => have hx_ := (Kd.R_reads' HO106.out).2.2; exact cC); (case side2 => exact (Kd.R_reads' HO106.out).2.1); rintro e w' ⟨rfl, ⟨nd, rfl⟩⟩; refine ⟨_, rfl, ?_⟩; (try (rw [drewN_self w13]; generalize hq_ : World.drewN w13 _ = w13; have n0_ : Aside0 (Kd.R Kd.bool 4 w13 w.heap.size (fun _ => True) (.slice Ao14 t104.length co14) t104) := ⟨by rw [← hq_]; exact HO106.out⟩; have n1_ : Aside0 (w13.heap[gb101]? = some (.cells #[.int .i64 a0_0, .slice A0_1 l0_1.length c0_1] 26 (0, 0))) := ⟨by rw [← hq_]; exact BK101.out⟩; have n2_ : Aside0 (w13.heap[gb102]? = some (.cells #[.int .i64 0, .int .i64 0] 60 (0, 0))) := ⟨by rw [← hq_]; exact BK102.out⟩; have n3_ : Aside0 (Below w.heap.size w w13) := ⟨by rw [← hq_]; exact HB.out⟩; clear HO106 BK101 BK102 HB hq_; have HO106 := n0_; have BK101 := n1_; have BK102 := n2_; have HB := n3_; clear n0_ n1_ n2_ n3_))) | ((with_reducible refine gate_callee (f := 160) rfl ?_); refine gL 15 Tryz.func160 #[.int .i64 t107, .int .i64 (t104.length : Int)] ?_; (with_reducible refine (spec_pwShare.calls k t107 (t104.length : Int) t108 t109 _ A6.out).mono ?_); rintro e w15 ⟨rfl, hb⟩; refine ⟨_, rfl, ?_⟩; replace HO106 := rP HO106 hb; replace BK101 := bP BK101 hb; replace BK102 := bP BK102 hb; replace HB := sQ hb; (try clear hb); (try clear hcz12_0 hcz12_1 hfz12_0 hfz12_1); obtain ⟨hcz16_0, hcz16_1, hfz16_0, hfz16_1⟩ := zZ BK102))
 refine bodyPost_ret (results_ct rfl _ _ gb102 60 #[.int .i64 t108, .int .i64 t109] (0, 0) _ rfl (by (with_reducible repeat (first | refine kN ?_ _ | refine kD ?_ | refine kA ?_ _)); refine blk_put (cs := #[.int .i64 t108, .int .i64 0]) ?_ 1 _ rfl; (with_reducible repeat (first | refine kN ?_ _ | refine kD ?_ | refine kA ?_ _)); refine blk_put (cs := #[.int .i64 0, .int .i64 0]) ?_ 0 _ rfl; (with_reducible repeat (first | refine kN ?_ _ | refine kD ?_ | refine kA ?_ _)); exact BK102.out) Tryz.underlying60 rfl (by kernel_rfl)) rfl ?_
 exact ⟨fR, wB⟩
def impl_BlockPowers.f (k : Nat) (a0_0 : Int) (l0_1 : List Int) : Option ((List (S60)) × Bool) := (impl_IsCommittee.f k a0_0 l0_1).bind fun t102 => (if t102 = true then ((impl_Committee_votes.f k a0_0 l0_1).bind fun bt103 => ((impl_votes_swings.f k bt103.1 bt103.2).bind fun t108 => ((impl_votes_countWins.f k bt103.1 bt103.2).bind fun t111 => ((impl_sharesOf.f k t108 t111).bind fun t112 => (some (t112, true)))))) else (some (([] : List (S60)), false)))
theorem impl_BlockPowers.calls (k : Nat) (a0_0 : Int) (A0_1 : Option Addr) (c0_1 : Nat) (l0_1 : List Int) (r1 : List (S60)) (r2 : Bool) (w : World) (hr0_1 : Kd.C (Kd.int .i64) w A0_1 l0_1.length l0_1) (hc0_1 : l0_1.length ≤ c0_1) (h : impl_BlockPowers.f k a0_0 l0_1 = some (r1, r2)) :
  Calls Tryz.prog 64 #[.agg #[.int .i64 a0_0, .slice A0_1 l0_1.length c0_1]] w fun e w' => ∃ v0_ : Value, e = .returned (.tuple #[v0_, .bool r2]) ∧ Kd.R k60 60 w' w.heap.size (fun _ => True) v0_ r1 ∧ Below w.heap.size w w' := by
 have hu26 := Tryz.underlying26
 have hu87 := Tryz.underlying87
 have HR0_1 := Aside0.mk hr0_1
 have HC0_1 := Aside0.mk hc0_1
 clear hr0_1 hc0_1
 have HB := Aside0.mk (Below.refl w.heap.size w)
 have H := h
 unfold impl_BlockPowers.f at H
 clear h
 replace H := oA H
 obtain ⟨t102, A2, H⟩ := H
 (try dsimp only at H)
 by_cases c3 : t102 = true
 rotate_left
 ·replace c3 := Bool.eq_false_iff.mpr c3
  subst c3
  replace H := iF H
  simp only [Option.some.injEq, Prod.mk.injEq] at H
  obtain ⟨rfl, rfl⟩ := H
  go_enter Tryz.func64, Tryz.ntmps64
  go_wp2_with (first | ((with_reducible refine gate_dst (N := 1) rfl ?_); refine xE (N := 1) (cs := #[.int .i64 a0_0, .slice A0_1 l0_1.length c0_1]) (t := 26) ?_; intro gb101 hg w23 BK101 hb; have GW101 := gS hg HB; have GE101 := gS hg HB; replace HB := sB HB hb; clear hb hg; obtain ⟨hcz24_0, hcz24_1, hfz24_0, hfz24_1⟩ := zZ BK101) | ((with_reducible refine gate_callee (f := 20) rfl ?_); refine gL 6 Tryz.func20 #[.agg #[.int .i64 a0_0, .slice A0_1 l0_1.length c0_1]] ?_; (with_reducible refine (impl_IsCommittee.calls k a0_0 _ _ l0_1 false _ (Kd.C_below HR0_1.out HB.out) HC0_1.out A2.out).mono ?_); rintro e w25 ⟨rfl, hb⟩; refine ⟨_, rfl, ?_⟩; replace BK101 := bB BK101 hb; replace HB := sB HB hb; (try clear hb)))
  go_ret2
  exact ⟨_, fR, by first | exact Kd.R_nil _ _ _ _ _ | exact Kd.N_nil _ _ _ _ _ | exact Kd.V_nil _ _ _ _ _ | exact Kd.Q_nil _ _ _ _ _ | exact Kd.S_nil _ _ _ _ _, wB⟩
 subst c3
 replace H := iT H
 replace H := oB H
 obtain ⟨⟨t103, t104⟩, A40, H⟩ := H
 (try dsimp only at H)
 have A4 := Aside0.mk A40
 clear A40
 replace H := oA H
 obtain ⟨t108, A5, H⟩ := H
 (try dsimp only at H)
 replace H := oA H
 obtain ⟨t111, A6, H⟩ := H
 (try dsimp only at H)
 replace H := oA H
 obtain ⟨t112, A7, H⟩ := H
 (try dsimp only at H)
 simp only [Option.some.injEq, Prod.mk.injEq] at H
 obtain ⟨rfl, rfl⟩ := H
 go_enter Tryz.func64, Tryz.ntmps64
 try go_wp2_with (first | ((with_reducible refine gate_dst (N := 1) rfl ?_); refine xE (N := 1) (cs := #[.int .i64 a0_0, .slice A0_1 l0_1.length c0_1]) (t := 26) ?_; intro gb101 hg w8 BK101 hb; have GW101 := gS hg HB; have GE101 := gS hg HB; replace HB := sB HB hb; clear hb hg; obtain ⟨hcz9_0, hcz9_1, hfz9_0, hfz9_1⟩ := zZ BK101) | ((with_reducible refine gate_callee (f := 20) rfl ?_); refine gL 6 Tryz.func20 #[.agg #[.int .i64 a0_0, .slice A0_1 l0_1.length c0_1]] ?_; (with_reducible refine (impl_IsCommittee.calls k a0_0 _ _ l0_1 true _ (Kd.C_below HR0_1.out HB.out) HC0_1.out A2.out).mono ?_); rintro e w10 ⟨rfl, hb⟩; refine ⟨_, rfl, ?_⟩; replace BK101 := bB BK101 hb; replace HB := sB HB hb; (try clear hb); (try clear hcz9_0 hcz9_1 hfz9_0 hfz9_1); obtain ⟨hcz11_0, hcz11_1, hfz11_0, hfz11_1⟩ := zZ BK101) | ((with_reducible refine gate_callee (f := 135) rfl ?_); refine gL 9 Tryz.func135 #[.agg #[.int .i64 a0_0, .slice A0_1 l0_1.length c0_1]] ?_; (with_reducible refine (impl_Committee_votes.calls k a0_0 _ _ l0_1 t103 t104 _ (Kd.C_below HR0_1.out HB.out) HC0_1.out A4.out).mono ?_); rintro e w12 ⟨v105, rfl, ho0, hb⟩; refine ⟨_, rfl, ?_⟩; have HO106 := Aside0.mk (Kd.R_lower ho0 (below_size HB.out)); replace BK101 := bB BK101 hb; replace HB := sB HB hb; (try clear hb); (try clear ho0)) | ((with_reducible refine gate_dst (N := 4) rfl ?_); refine xE (N := 4) (cs := #[.int .i64 0, .slice none 0 0]) (t := 87) ?_; intro gb107 hg w13 BK107 hb; have GW107 := gS hg HB; have GE107 := gS hg HB; have NB101_107 := nL hg (blk_lt BK101.out); have NB107_101 := nG hg (blk_lt BK101.out); replace HO106 := rB HO106 hb; replace BK101 := bB BK101 hb; replace HB := sB HB hb; clear hb hg; have hnb14 := NB107_101.out; have hnc14 := NB101_107.out; (try clear hcz11_0 hcz11_1 hfz11_0 hfz11_1); obtain ⟨hcz15_0, hcz15_1, hfz15_0, hfz15_1⟩ := zZ BK107; obtain ⟨Ao16, co16, eo16⟩ := Kd.R_slice HO106.out; subst eo16))
 have n0_ : Aside0 (Kd.R Kd.bool 4 ((w13.setCell ⟨gb107, 0, none⟩ (.int .i64 t103)).setCell ⟨gb107, 1, none⟩ (.slice Ao16 t104.length co16)) w.heap.size (fun _ => True) (.slice Ao16 t104.length co16) t104) := ⟨by exact Kd.R_mono (Kd.R_far (p := ⟨gb107, 1, none⟩) (Kd.R_far (p := ⟨gb107, 0, none⟩) (Kd.R_types HO106.out BK107.out (by decide)) (fun _ hk => hk.2) (.int .i64 t103)) (fun _ hk => hk.2) (.slice Ao16 t104.length co16)) (fun _ hk => trivial)⟩
 have n1_ : Aside0 (((w13.setCell ⟨gb107, 0, none⟩ (.int .i64 t103)).setCell ⟨gb107, 1, none⟩ (.slice Ao16 t104.length co16)).heap[gb101]? = some (.cells #[.int .i64 a0_0, .slice A0_1 l0_1.length c0_1] 26 (0, 0))) := ⟨by refine blk_far ?_ NB101_107.out _; refine blk_far ?_ NB101_107.out _; exact BK101.out⟩
 have n2_ : Aside0 (((w13.setCell ⟨gb107, 0, none⟩ (.int .i64 t103)).setCell ⟨gb107, 1, none⟩ (.slice Ao16 t104.length co16)).heap[gb107]? = some (.cells #[.int .i64 t103, .slice Ao16 t104.length co16] 87 (0, 0))) := ⟨by refine blk_put (cs := #[.int .i64 t103, .slice none 0 0]) ?_ 1 _ rfl; refine blk_put (cs := #[.int .i64 0, .slice none 0 0]) ?_ 0 _ rfl; exact BK107.out⟩
 have n3_ : Aside0 (Below w.heap.size w ((w13.setCell ⟨gb107, 0, none⟩ (.int .i64 t103)).setCell ⟨gb107, 1, none⟩ (.slice Ao16 t104.length co16))) := ⟨wB⟩
 (try clear HO106)
 (try clear BK101)
 (try clear BK107)
 (try clear HB)
 (try clear hcz15_0 hcz15_1 hfz15_0 hfz15_1)
 generalize ((w13.setCell ⟨gb107, 0, none⟩ (.int .i64 t103)).setCell ⟨gb107, 1, none⟩ (.slice Ao16 t104.length co16)) = w17 at n0_ n1_ n2_ n3_ ⊢
 have HO106 := n0_
 have BK101 := n1_
 have BK107 := n2_
 have HB := n3_
 clear n0_ n1_ n2_ n3_
 replace HO106 := rD HO106
 replace BK101 := bD BK101
 replace BK107 := bD BK107
 replace HB := Aside0.mk (below_drew1 HB.out)
 refine start_ (n := 7) (S := fun w' => w'.cell? ⟨gb107, 0, none⟩ = some (.int .i64 t103) ∧ w'.cell? ⟨gb107, 1, none⟩ = some (.slice Ao16 t104.length co16)) (ds := []) #[F,F,F,F,F,F,F] (by kernel_rfl) rfl rfl ⟨(blk_cell BK107.out 0).trans rfl, (blk_cell BK107.out 1).trans rfl⟩ (fun hHeld => ?_)
 generalize w17.drew = w18 at HO106 BK101 BK107 HB hHeld ⊢
 refine take_ (i := 0) (N := some 10) (v := ?_) (a' := ?_) #[T,F,F,F,F,F,F] rfl rfl (by kernel_rfl) (fun _ _ _ h => h) (Or.inl ⟨by rfl, ?_⟩) hHeld ?_ ?_
 rotate_left
 ·rintro w' ⟨s0, s1⟩
  go_simp
  with_reducible rfl
 rotate_left
 ·simp only [Act.put, sA, sZ, sS, i64_w, i32_w]
  rfl
 refine take_ (i := 2) (N := some 12) (v := ?_) (a' := ?_) #[T,F,T,F,F,F,F] rfl rfl (by kernel_rfl) (fun _ _ _ h => h) (Or.inl ⟨by rfl, ?_⟩) hHeld ?_ ?_
 rotate_left
 ·rintro w' ⟨s0, s1⟩
  go_simp
  with_reducible rfl
 rotate_left
 ·simp only [Act.put, sA, sZ, sS, i64_w, i32_w]
  rfl
 refine one_ (i := 1) (N := some 11) #[T,T,T,F,F,F,F] rfl rfl (by kernel_rfl) (by decide) (fun K hK => ?_)
 refine gE Tryz.func157 #[.agg #[.int .i64 t103, .slice Ao16 t104.length co16]] ?_
 with_reducible refine (impl_votes_swings.calls k t103 _ _ t104 t108 _ ?side1 ?side2 A5.out).mono ?_
 (case side1 => have hx_ := (Kd.R_reads' HO106.out).2.2; exact cC)
 (case side2 => exact (Kd.R_reads' HO106.out).2.1)
 rintro e w19 ⟨v109, rfl, ho0, hb⟩
 refine ⟨_, rfl, ?_⟩
 have HO110 := Aside0.mk (Kd.R_lower ho0 (below_size HB.out))
 replace HO106 := rB HO106 hb
 replace BK101 := bB BK101 hb
 replace BK107 := bB BK107 hb
 replace HB := sB HB hb
 (try clear hb)
 (try clear hb2)
 (try clear hk)
 (try clear hi)
 (try clear ho0)
 refine hK.out _ _ ⟨(blk_cell BK107.out 0).trans rfl, (blk_cell BK107.out 1).trans rfl⟩ (fun hHeld => ?_)
 clear hK K
 refine nM ?_
 refine one_ (i := 3) (N := some 13) #[T,T,T,T,F,F,F] rfl rfl (by kernel_rfl) (by decide) (fun K hK => ?_)
 refine gE Tryz.func150 #[.agg #[.int .i64 t103, .slice Ao16 t104.length co16]] ?_
 with_reducible refine (impl_votes_countWins.calls k t103 _ _ t104 t111 _ ?side1 ?side2 A6.out).mono ?_
 (case side1 => have hx_ := (Kd.R_reads' HO106.out).2.2; exact cC)
 (case side2 => exact (Kd.R_reads' HO106.out).2.1)
 rintro e w20 ⟨rfl, hb⟩
 refine ⟨_, rfl, ?_⟩
 replace HO106 := rB HO106 hb
 replace HO110 := rB HO110 hb
 replace BK101 := bB BK101 hb
 replace BK107 := bB BK107 hb
 replace HB := sB HB hb
 (try clear hb)
 (try clear hb2)
 (try clear hk)
 (try clear hi)
 obtain ⟨Ao21, co21, eo21⟩ := Kd.R_slice HO110.out
 (first | subst eo21 | (injection eo21 with f1_ f2_ f3_; have f4_ := f1_.symm; have f5_ := f3_.symm; clear f1_ f2_ f3_; subst f4_; subst f5_))
 refine hK.out _ _ ⟨(blk_cell BK107.out 0).trans rfl, (blk_cell BK107.out 1).trans rfl⟩ (fun hHeld => ?_)
 clear hK K
 refine nM ?_
 refine one_ (i := 4) (N := some 14) #[T,T,T,T,T,F,F] rfl rfl (by kernel_rfl) (by decide) (fun K hK => ?_)
 refine gE Tryz.func159 #[.slice Ao21 t108.length co21, .int .i64 t111] ?_
 with_reducible refine (impl_sharesOf.calls k _ _ t108 t111 t112 _ ?side1 ?side2 A7.out).mono ?_
 (case side1 => have hx_ := (Kd.R_reads' HO110.out).2.2; exact cC)
 (case side2 => exact (Kd.R_reads' HO110.out).2.1)
 rintro e w22 ⟨v113, rfl, ho0, hb⟩
 refine ⟨_, rfl, ?_⟩
 have HO114 := Aside0.mk (Kd.R_lower ho0 (below_size HB.out))
 replace HO106 := rB HO106 hb
 replace HO110 := rB HO110 hb
 replace BK101 := bB BK101 hb
 replace BK107 := bB BK107 hb
 replace HB := sB HB hb
 (try clear hb)
 (try clear hb2)
 (try clear hk)
 (try clear hi)
 (try clear ho0)
 refine hK.out _ _ ⟨(blk_cell BK107.out 0).trans rfl, (blk_cell BK107.out 1).trans rfl⟩ (fun hHeld => ?_)
 clear hK K
 refine nM ?_
 refine pure_ (i := 5) (N := some 2) (v := ?_) (a' := ?_) #[T,T,T,T,T,T,F] rfl rfl (by kernel_rfl) (fun _ _ _ h => h) (Or.inl ⟨by rfl, ?_⟩) ?_ ?_
 rotate_left
 ·intro w'
  go_simp
  with_reducible rfl
 rotate_left
 ·simp only [Act.put, sA, sZ, sS, i64_w, i32_w]
  rfl
 refine pure_ (i := 6) (N := some 3) (v := ?_) (a' := ?_) #[T,T,T,T,T,T,T] rfl rfl (by kernel_rfl) (fun _ _ _ h => h) (Or.inl ⟨by rfl, ?_⟩) ?_ ?_
 rotate_left
 ·intro w'
  go_simp
  with_reducible rfl
 rotate_left
 ·simp only [Act.put, sA, sZ, sS, i64_w, i32_w]
  rfl
 refine done_ (by kernel_rfl) ?_
 try go_wp2
 go_ret2
 exact ⟨_, fR, by exact HO114.out, wB⟩
def spec_BlockPowers.l0 : Nat → List Bool → List (S60) → List Int → Int → Int → Option ((List (S60)) × Bool)
 | 0, _, _, _, _, _ => none
 | k + 1, x4, x5, x17, x18, x19 => if x19 < x18 then (if 0 ≤ x19 then (if x19 < (x17.length : Int) then ((spec_gmCount.f k x4).bind fun t110 => ((spec_pwShare.f k (rd x17 x19) t110).bind fun bt111 => (if x5.length < 8796093022208 then (spec_BlockPowers.l0 k x4 (x5 ++ [(⟨bt111.1, bt111.2⟩ : S60)]) x17 x18 (wrap64 (x19 + 1))) else (none)))) else (none)) else (none)) else (some (x5, true))
def spec_BlockPowers.f (k : Nat) (a0_0 : Int) (l0_1 : List Int) : Option ((List (S60)) × Bool) := (spec_voGood.f k a0_0 l0_1).bind fun t102 => (if t102 = true then ((spec_voWins.f k a0_0 l0_1).bind fun t103 => ((spec_pwCounts.f k t103 (l0_1.length : Int)).bind fun t106 => (spec_BlockPowers.l0 k t103 ([] : List (S60)) t106 (t106.length : Int) 0))) else (some (([] : List (S60)), false)))
theorem spec_BlockPowers.calls (k : Nat) (a0_0 : Int) (A0_1 : Option Addr) (c0_1 : Nat) (l0_1 : List Int) (r1 : List (S60)) (r2 : Bool) (w : World) (hr0_1 : Kd.C (Kd.int .i64) w A0_1 l0_1.length l0_1) (hc0_1 : l0_1.length ≤ c0_1) (h : spec_BlockPowers.f k a0_0 l0_1 = some (r1, r2)) :
  Calls Tryz.prog 65 #[.agg #[.int .i64 a0_0, .slice A0_1 l0_1.length c0_1]] w fun e w' => ∃ v0_ : Value, e = .returned (.tuple #[v0_, .bool r2]) ∧ Kd.R k60 60 w' w.heap.size (fun _ => True) v0_ r1 ∧ Below w.heap.size w w' := by
 have hu26 := Tryz.underlying26
 have HR0_1 := Aside0.mk hr0_1
 have HC0_1 := Aside0.mk hc0_1
 clear hr0_1 hc0_1
 have HB := Aside0.mk (Below.refl w.heap.size w)
 have H := h
 unfold spec_BlockPowers.f at H
 clear h
 replace H := oA H
 obtain ⟨t102, A2, H⟩ := H
 (try dsimp only at H)
 by_cases c3 : t102 = true
 rotate_left
 ·replace c3 := Bool.eq_false_iff.mpr c3
  subst c3
  replace H := iF H
  simp only [Option.some.injEq, Prod.mk.injEq] at H
  obtain ⟨rfl, rfl⟩ := H
  go_enter Tryz.func65, Tryz.ntmps65
  go_wp2_with (first | ((with_reducible refine gate_dst (N := 1) rfl ?_); refine xE (N := 1) (cs := #[.int .i64 a0_0, .slice A0_1 l0_1.length c0_1]) (t := 26) ?_; intro gb101 hg w23 BK101 hb; have GW101 : Aside0 (w.heap.size ≤ gb101) := gT hg; have GE101 : Aside0 (w.heap.size ≤ gb101) := gT hg; replace HB := sQ hb; clear hb hg; obtain ⟨hcz24_0, hcz24_1, hfz24_0, hfz24_1⟩ := zZ BK101) | ((with_reducible refine gate_callee (f := 129) rfl ?_); refine gL 9 Tryz.func129 #[.agg #[.int .i64 a0_0, .slice A0_1 l0_1.length c0_1]] ?_; (with_reducible refine (spec_voGood.calls k a0_0 _ _ l0_1 false _ ?side1 ?side2 A2.out).mono ?_); (case side1 => have hx_ := (Kd.C_below HR0_1.out HB.out); exact cC); (case side2 => exact HC0_1.out); rintro e w25 ⟨rfl, hb⟩; refine ⟨_, rfl, ?_⟩; replace BK101 := bP BK101 hb; replace HB := sQ hb; (try clear hb)))
  go_ret2
  exact ⟨_, fR, by first | exact Kd.R_nil _ _ _ _ _ | exact Kd.N_nil _ _ _ _ _ | exact Kd.V_nil _ _ _ _ _ | exact Kd.Q_nil _ _ _ _ _ | exact Kd.S_nil _ _ _ _ _, wB⟩
 subst c3
 replace H := iT H
 replace H := oA H
 obtain ⟨t103, A4, H⟩ := H
 (try dsimp only at H)
 replace H := oA H
 obtain ⟨t106, A5, H⟩ := H
 (try dsimp only at H)
 have H' := Aside0.mk H
 clear H
 go_enter Tryz.func65, Tryz.ntmps65
 go_wp2_with (first | ((with_reducible refine gate_dst (N := 1) rfl ?_); refine xE (N := 1) (cs := #[.int .i64 a0_0, .slice A0_1 l0_1.length c0_1]) (t := 26) ?_; intro gb101 hg w6 BK101 hb; have GW101 := gS hg HB; have GE101 := gS hg HB; replace HB := sB HB hb; clear hb hg; obtain ⟨hcz7_0, hcz7_1, hfz7_0, hfz7_1⟩ := zZ BK101) | ((with_reducible refine gate_callee (f := 129) rfl ?_); refine gL 9 Tryz.func129 #[.agg #[.int .i64 a0_0, .slice A0_1 l0_1.length c0_1]] ?_; (with_reducible refine (spec_voGood.calls k a0_0 _ _ l0_1 true _ (Kd.C_below HR0_1.out HB.out) HC0_1.out A2.out).mono ?_); rintro e w8 ⟨rfl, hb⟩; refine ⟨_, rfl, ?_⟩; replace BK101 := bB BK101 hb; replace HB := sB HB hb; (try clear hb); (try clear hcz7_0 hcz7_1 hfz7_0 hfz7_1); obtain ⟨hcz9_0, hcz9_1, hfz9_0, hfz9_1⟩ := zZ BK101) | ((with_reducible refine gate_callee (f := 141) rfl ?_); refine gL 12 Tryz.func141 #[.agg #[.int .i64 a0_0, .slice A0_1 l0_1.length c0_1]] ?_; (with_reducible refine (spec_voWins.calls k a0_0 _ _ l0_1 t103 _ (Kd.C_below HR0_1.out HB.out) HC0_1.out A4.out).mono ?_); rintro e w10 ⟨v104, rfl, ho0, hb⟩; refine ⟨_, rfl, ?_⟩; have HO105 := Aside0.mk (Kd.R_lower ho0 (below_size HB.out)); replace BK101 := bB BK101 hb; replace HB := sB HB hb; (try clear hb); (try clear ho0); (try clear hcz9_0 hcz9_1 hfz9_0 hfz9_1); obtain ⟨hcz11_0, hcz11_1, hfz11_0, hfz11_1⟩ := zZ BK101; obtain ⟨Ao12, co12, eo12⟩ := Kd.R_slice HO105.out; subst eo12) | ((with_reducible refine gate_callee (f := 158) rfl ?_); refine gL 17 Tryz.func158 #[.slice Ao12 t103.length co12, .int .i64 (l0_1.length : Int)] ?_; (with_reducible refine (spec_pwCounts.calls k _ _ t103 (l0_1.length : Int) t106 _ ?side1 ?side2 A5.out).mono ?_); (case side1 => have hx_ := (Kd.R_reads' HO105.out).2.2; exact cC); (case side2 => exact (Kd.R_reads' HO105.out).2.1); rintro e w13 ⟨v107, rfl, ho0, hb⟩; refine ⟨_, rfl, ?_⟩; have HO108 := Aside0.mk (Kd.R_lower ho0 (below_size HB.out)); replace HO105 := rB HO105 hb; replace BK101 := bB BK101 hb; replace HB := sB HB hb; (try clear hb); (try clear ho0); obtain ⟨Ao14, co14, eo14⟩ := Kd.R_slice HO108.out; subst eo14))
 go_loopg [5, 19] k (fun kq v5 v19 w' => ∃ (x5_1 : List (S60)) (x19_1 : Int), v19 = .int .i64 x19_1 ∧ Aside0 (spec_BlockPowers.l0 kq t103 x5_1 t106 (t106.length : Int) x19_1 = some (r1, r2)) ∧ Aside0 (kq ≤ k) ∧ Aside0 (Kd.R Kd.bool 4 w' w.heap.size (fun _ => True) (.slice Ao12 t103.length co12) t103) ∧ Aside0 (Kd.R k60 60 w' w.heap.size (fun _ => True) v5 x5_1) ∧ Aside0 (Kd.R (Kd.int .i64) 3 w' w.heap.size (fun _ => True) (.slice Ao14 t106.length co14) t106) ∧ Aside0 (w'.heap[gb101]? = some (.cells #[.int .i64 a0_0, (.slice A0_1 l0_1.length c0_1)] 26 (0, 0))) ∧ Aside0 (Below w.heap.size w w'))
 case atStart => exact ⟨(([] : List (S60))), (0), gR, H', ⟨Nat.le_refl _⟩, ⟨by exact HO105.out⟩, ⟨by first | exact Kd.R_nil _ _ _ _ _ | exact Kd.N_nil _ _ _ _ _ | exact Kd.V_nil _ _ _ _ _ | exact Kd.Q_nil _ _ _ _ _ | exact Kd.S_nil _ _ _ _ _⟩, ⟨by exact HO108.out⟩, ⟨by exact BK101.out⟩, ⟨wB⟩⟩
 case round =>
  clear H'
  (try clear c1); (try clear p2); (try clear c3); (try clear c6); (try clear c12); (try clear c14); (try clear hcz11_0); (try clear hcz11_1); (try clear hfz11_0); (try clear hfz11_1)
  obtain ⟨x5_1, x19_1, rfl, HA, HK1, HO_4, HO_5, HO_17, BK101, HB⟩ := hrel
  cases gk with
  | zero => exact absurd HA.out (by simp [spec_BlockPowers.l0])
  | succ k1 =>
   have H := HA.out
   clear HA
   simp only [spec_BlockPowers.l0] at H
   by_cases c15 : x19_1 < (t106.length : Int)
   rotate_left
   ·rw [if_neg c15] at H
    have c15b0 : decide (x19_1 < (t106.length : Int)) = false := decide_eq_false c15
    clear c15
    simp only [Option.some.injEq, Prod.mk.injEq] at H
    obtain ⟨rfl, rfl⟩ := H
    go_wp2
    go_ret2
    exact ⟨_, fR, by (with_reducible repeat (first | apply qA | apply qN | apply qD)); exact HO_5.out, wB⟩
   rw [if_pos c15] at H
   have c15b0 := decide_eq_true c15
   clear c15
   by_cases c16 : 0 ≤ x19_1
   rotate_left
   ·rw [if_neg c16] at H
    exact absurd H (by simp)
   rw [if_pos c16] at H
   have c16b0 := decide_eq_true c16
   clear c16
   by_cases c17 : x19_1 < (t106.length : Int)
   rotate_left
   ·rw [if_neg c17] at H
    exact absurd H (by simp)
   rw [if_pos c17] at H
   have c17b0 := decide_eq_true c17
   clear c17
   replace H := oA H
   obtain ⟨t110, A18, H⟩ := H
   (try dsimp only at H)
   replace H := oB H
   obtain ⟨⟨t111, t112⟩, A190, H⟩ := H
   (try dsimp only at H)
   have A19 := Aside0.mk A190
   clear A190
   by_cases c20 : x5_1.length < 8796093022208
   rotate_left
   ·rw [if_neg c20] at H
    exact absurd H (by simp)
   rw [if_pos c20] at H
   have LMc20 := Aside0.mk c20
   clear c20
   obtain ⟨y113, hy113⟩ : ∃ y_ : List (S60), y_ = (x5_1 ++ [(⟨t111, t112⟩ : S60)]) := ⟨_, rfl⟩
   replace H : (spec_BlockPowers.l0 k1 t103 y113 t106 (t106.length : Int) (wrap64 (x19_1 + 1))) = some (r1, r2) := by first | (rw [hy113]; with_reducible exact H) | (have H2_ := (Option.bind_some _ _).symm.trans H; rw [hy113]; with_reducible exact H2_) | (have H2_ := (Option.bind_some _ _).symm.trans H; with_reducible exact H2_) | with_reducible exact H | (rw [hy113]; exact H) | exact H
   have Ny113 := Aside0.mk hy113
   clear hy113
   have H' := Aside0.mk H
   clear H
   have p109 : 0 ≤ (x19_1 : Int) := oD
   have q109 : x19_1 < (t106.length : Int) := oD
   obtain ⟨ad109, e109, hx109_0⟩ := Kd.at_int (Kd.R_reads' HO_17.out).2.2 x19_1 p109 q109
   cases e109
   replace p109 := eq_true p109
   replace q109 := eq_true q109
   go_wp2_with (first | ((with_reducible refine gate_callee (f := 163) rfl ?_); refine gL 26 Tryz.func163 #[.slice Ao12 t103.length co12] ?_; (with_reducible refine (spec_gmCount.calls k1 _ _ t103 t110 _ ?side1 ?side2 A18.out).mono ?_); (case side1 => have hx_ := (Kd.R_reads' HO_4.out).2.2; exact cC); (case side2 => exact (Kd.R_reads' HO_4.out).2.1); rintro e w' ⟨rfl, ⟨nd, rfl⟩⟩; refine ⟨_, rfl, ?_⟩) | ((with_reducible refine gate_callee (f := 160) rfl ?_); refine gL 27 Tryz.func160 #[.int .i64 (rd t106 x19_1), .int .i64 t110] ?_; (with_reducible refine (spec_pwShare.calls k1 (rd t106 x19_1) t110 t111 t112 _ A19.out).mono ?_); rintro e w21 ⟨rfl, hb⟩; refine ⟨_, rfl, ?_⟩; replace HO_4 := rP HO_4 hb; replace HO_5 := rP HO_5 hb; replace HO_17 := rP HO_17 hb; replace BK101 := bP BK101 hb; replace HB := sQ hb; (try clear hb)) | ((with_reducible refine gate_builtin (b := .append) (xs := #[.tmp 23, .tmp 28]) rfl ?_); at_builtin; refine Kd.R_append k60 (w0 := w) w.heap.size rfl (.tmp 23) (.tmp 28) 56 60 (.agg #[(.int .i64 0), (.int .i64 0)]) 16 rfl Tryz.underlying56 info60 rfl (by decide) (by omega) u5 x5_1 (⟨t111, t112⟩ : S60) [.int .i64 t111, .int .i64 t112] (fun _ => True) (fun _ => False) rfl rfl ?aP (fun _ hk => hk.elim) ?aF ?aO ?aB ?aS ?aL ?_; (case aP => exact k60_mkM _ _ _ (⟨t111, t112⟩ : S60)); (case aB => exact (by repeat (first | exact HB.out | apply ba | apply bd | apply be | refine bs ?_ GE101.out))); (case aF => exact (fun _ _ => trivial)); (case aO => exact (rQ HO_5)); (case aS => exact (below_size (by repeat (first | exact HB.out | apply ba | apply bd | apply be | refine bs ?_ GE101.out)))); (case aL => have := LMc20.out; omega); intro v114 w22 ho hb hg hat; rw [← Ny113.out] at ho; have HO115 := Aside0.mk (ho); replace HO_4 := Aside0.mk (Kd.R_over' (rQ HO_4) (Kd.R_typed (rQ HO_5)) (by decide) hg); replace HO_17 := Aside0.mk (Kd.R_over' (rQ HO_17) (Kd.R_typed (rQ HO_5)) (by decide) hg); replace BK101 := Aside0.mk (blk_grown (g := gb101) (o := .cells #[.int .i64 a0_0, .slice A0_1 l0_1.length c0_1] 26 (0, 0)) (bQ BK101) hg (Kd.R_ne HO_5.out BK101.out (by decide))); replace HB := Aside0.mk (hb); clear ho hb hg hat))
   go_roundg k1
   case measure => have := HK1.out; omega
   case rel => exact ⟨(y113), (wrap64 (x19_1 + 1)), gR, H', ⟨by have := HK1.out; omega⟩, ⟨rQ HO_4⟩, ⟨rQ HO115⟩, ⟨rQ HO_17⟩, ⟨bQ BK101⟩, ⟨wB⟩⟩
def impl_StartPowers.f (k : Nat) (a0_0 : Int) (l0_1 : List Int) : Option ((List (S60)) × Bool) := (impl_IsCommittee.f k a0_0 l0_1).bind fun t102 => (if t102 = true then ((impl_Committee_votes.f k a0_0 l0_1).bind fun bt103 => ((impl_votes_swings.f k bt103.1 bt103.2).bind fun t108 => ((impl_votes_countWins.f k bt103.1 bt103.2).bind fun t111 => ((impl_sharesOf.f k t108 (wrap64 ((bt103.2.length : Int) - t111))).bind fun t112 => (some (t112, true)))))) else (some (([] : List (S60)), false)))
def impl_StartPowers.T4 : Bool × List (List Nat × List Nat) := (true, [([], []), ([0], [0]), ([], []), ([2], [2]), ([3], [3]), ([], []), ([5, 1], [5]), ([4, 6], [4, 6]), ([1, 7, 6], [1, 7]), ([8, 8, 0, 1, 2, 3, 4, 5, 6, 7, 8], [8]), ([9, 0, 1, 2, 3, 4, 5, 6, 7, 8, 9], [])])
def impl_StartPowers.B4 : List Nat := [0, 1, 0, 4, 12, 0, 35, 127, 255, 511, 1023]
theorem impl_StartPowers.tab4 : rtab .any (opsOf Tryz.f66 4) = impl_StartPowers.T4 := by kernel_rfl
theorem impl_StartPowers.bits4 : waitsOk impl_StartPowers.T4.2 impl_StartPowers.B4 = true := by kernel_rfl
theorem impl_StartPowers.calls (k : Nat) (a0_0 : Int) (A0_1 : Option Addr) (c0_1 : Nat) (l0_1 : List Int) (r1 : List (S60)) (r2 : Bool) (w : World) (hr0_1 : Kd.C (Kd.int .i64) w A0_1 l0_1.length l0_1) (hc0_1 : l0_1.length ≤ c0_1) (h : impl_StartPowers.f k a0_0 l0_1 = some (r1, r2)) :
  Calls Tryz.prog 66 #[.agg #[.int .i64 a0_0, .slice A0_1 l0_1.length c0_1]] w fun e w' => ∃ v0_ : Value, e = .returned (.tuple #[v0_, .bool r2]) ∧ Kd.R k60 60 w' w.heap.size (fun _ => True) v0_ r1 ∧ Below w.heap.size w w' := by
 have hu26 := Tryz.underlying26
 have hu87 := Tryz.underlying87
 have HR0_1 := Aside0.mk hr0_1
 have HC0_1 := Aside0.mk hc0_1
 clear hr0_1 hc0_1
 have HB := Aside0.mk (Below.refl w.heap.size w)
 have H := h
 unfold impl_StartPowers.f at H
 clear h
 replace H := oA H
 obtain ⟨t102, A2, H⟩ := H
 (try dsimp only at H)
 by_cases c3 : t102 = true
 rotate_left
 ·replace c3 := Bool.eq_false_iff.mpr c3
  subst c3
  replace H := iF H
  simp only [Option.some.injEq, Prod.mk.injEq] at H
  obtain ⟨rfl, rfl⟩ := H
  go_enter Tryz.func66, Tryz.ntmps66
  go_wp2_with (first | ((with_reducible refine gate_dst (N := 1) rfl ?_); refine xE (N := 1) (cs := #[.int .i64 a0_0, .slice A0_1 l0_1.length c0_1]) (t := 26) ?_; intro gb101 hg w23 BK101 hb; have GW101 := gS hg HB; have GE101 := gS hg HB; replace HB := sB HB hb; clear hb hg; obtain ⟨hcz24_0, hcz24_1, hfz24_0, hfz24_1⟩ := zZ BK101) | ((with_reducible refine gate_callee (f := 20) rfl ?_); refine gL 6 Tryz.func20 #[.agg #[.int .i64 a0_0, .slice A0_1 l0_1.length c0_1]] ?_; (with_reducible refine (impl_IsCommittee.calls k a0_0 _ _ l0_1 false _ (Kd.C_below HR0_1.out HB.out) HC0_1.out A2.out).mono ?_); rintro e w25 ⟨rfl, hb⟩; refine ⟨_, rfl, ?_⟩; replace BK101 := bB BK101 hb; replace HB := sB HB hb; (try clear hb)))
  go_ret2
  exact ⟨_, fR, by first | exact Kd.R_nil _ _ _ _ _ | exact Kd.N_nil _ _ _ _ _ | exact Kd.V_nil _ _ _ _ _ | exact Kd.Q_nil _ _ _ _ _ | exact Kd.S_nil _ _ _ _ _, wB⟩
 subst c3
 replace H := iT H
 replace H := oB H
 obtain ⟨⟨t103, t104⟩, A40, H⟩ := H
 (try dsimp only at H)
 have A4 := Aside0.mk A40
 clear A40
 replace H := oA H
 obtain ⟨t108, A5, H⟩ := H
 (try dsimp only at H)
 replace H := oA H
 obtain ⟨t111, A6, H⟩ := H
 (try dsimp only at H)
 replace H := oA H
 obtain ⟨t112, A7, H⟩ := H
 (try dsimp only at H)
 simp only [Option.some.injEq, Prod.mk.injEq] at H
 obtain ⟨rfl, rfl⟩ := H
 go_enter Tryz.func66, Tryz.ntmps66
 try go_wp2_with (first | ((with_reducible refine gate_dst (N := 1) rfl ?_); refine xE (N := 1) (cs := #[.int .i64 a0_0, .slice A0_1 l0_1.length c0_1]) (t := 26) ?_; intro gb101 hg w8 BK101 hb; have GW101 := gS hg HB; have GE101 := gS hg HB; replace HB := sB HB hb; clear hb hg; obtain ⟨hcz9_0, hcz9_1, hfz9_0, hfz9_1⟩ := zZ BK101) | ((with_reducible refine gate_callee (f := 20) rfl ?_); refine gL 6 Tryz.func20 #[.agg #[.int .i64 a0_0, .slice A0_1 l0_1.length c0_1]] ?_; (with_reducible refine (impl_IsCommittee.calls k a0_0 _ _ l0_1 true _ (Kd.C_below HR0_1.out HB.out) HC0_1.out A2.out).mono ?_); rintro e w10 ⟨rfl, hb⟩; refine ⟨_, rfl, ?_⟩; replace BK101 := bB BK101 hb; replace HB := sB HB hb; (try clear hb); (try clear hcz9_0 hcz9_1 hfz9_0 hfz9_1); obtain ⟨hcz11_0, hcz11_1, hfz11_0, hfz11_1⟩ := zZ BK101) | ((with_reducible refine gate_callee (f := 135) rfl ?_); refine gL 9 Tryz.func135 #[.agg #[.int .i64 a0_0, .slice A0_1 l0_1.length c0_1]] ?_; (with_reducible refine (impl_Committee_votes.calls k a0_0 _ _ l0_1 t103 t104 _ (Kd.C_below HR0_1.out HB.out) HC0_1.out A4.out).mono ?_); rintro e w12 ⟨v105, rfl, ho0, hb⟩; refine ⟨_, rfl, ?_⟩; have HO106 := Aside0.mk (Kd.R_lower ho0 (below_size HB.out)); replace BK101 := bB BK101 hb; replace HB := sB HB hb; (try clear hb); (try clear ho0)) | ((with_reducible refine gate_dst (N := 4) rfl ?_); refine xE (N := 4) (cs := #[.int .i64 0, .slice none 0 0]) (t := 87) ?_; intro gb107 hg w13 BK107 hb; have GW107 := gS hg HB; have GE107 := gS hg HB; have NB101_107 := nL hg (blk_lt BK101.out); have NB107_101 := nG hg (blk_lt BK101.out); replace HO106 := rB HO106 hb; replace BK101 := bB BK101 hb; replace HB := sB HB hb; clear hb hg; have hnb14 := NB107_101.out; have hnc14 := NB101_107.out; (try clear hcz11_0 hcz11_1 hfz11_0 hfz11_1); obtain ⟨hcz15_0, hcz15_1, hfz15_0, hfz15_1⟩ := zZ BK107; obtain ⟨Ao16, co16, eo16⟩ := Kd.R_slice HO106.out; subst eo16))
 have n0_ : Aside0 (Kd.R Kd.bool 4 ((w13.setCell ⟨gb107, 0, none⟩ (.int .i64 t103)).setCell ⟨gb107, 1, none⟩ (.slice Ao16 t104.length co16)) w.heap.size (fun _ => True) (.slice Ao16 t104.length co16) t104) := ⟨by exact Kd.R_mono (Kd.R_far (p := ⟨gb107, 1, none⟩) (Kd.R_far (p := ⟨gb107, 0, none⟩) (Kd.R_types HO106.out BK107.out (by decide)) (fun _ hk => hk.2) (.int .i64 t103)) (fun _ hk => hk.2) (.slice Ao16 t104.length co16)) (fun _ hk => trivial)⟩
 have n1_ : Aside0 (((w13.setCell ⟨gb107, 0, none⟩ (.int .i64 t103)).setCell ⟨gb107, 1, none⟩ (.slice Ao16 t104.length co16)).heap[gb101]? = some (.cells #[.int .i64 a0_0, .slice A0_1 l0_1.length c0_1] 26 (0, 0))) := ⟨by refine blk_far ?_ NB101_107.out _; refine blk_far ?_ NB101_107.out _; exact BK101.out⟩
 have n2_ : Aside0 (((w13.setCell ⟨gb107, 0, none⟩ (.int .i64 t103)).setCell ⟨gb107, 1, none⟩ (.slice Ao16 t104.length co16)).heap[gb107]? = some (.cells #[.int .i64 t103, .slice Ao16 t104.length co16] 87 (0, 0))) := ⟨by refine blk_put (cs := #[.int .i64 t103, .slice none 0 0]) ?_ 1 _ rfl; refine blk_put (cs := #[.int .i64 0, .slice none 0 0]) ?_ 0 _ rfl; exact BK107.out⟩
 have n3_ : Aside0 (Below w.heap.size w ((w13.setCell ⟨gb107, 0, none⟩ (.int .i64 t103)).setCell ⟨gb107, 1, none⟩ (.slice Ao16 t104.length co16))) := ⟨wB⟩
 (try clear HO106)
 (try clear BK101)
 (try clear BK107)
 (try clear HB)
 (try clear hcz15_0 hcz15_1 hfz15_0 hfz15_1)
 generalize ((w13.setCell ⟨gb107, 0, none⟩ (.int .i64 t103)).setCell ⟨gb107, 1, none⟩ (.slice Ao16 t104.length co16)) = w17 at n0_ n1_ n2_ n3_ ⊢
 have HO106 := n0_
 have BK101 := n1_
 have BK107 := n2_
 have HB := n3_
 clear n0_ n1_ n2_ n3_
 replace HO106 := rD HO106
 replace BK101 := bD BK101
 replace BK107 := bD BK107
 replace HB := Aside0.mk (below_drew1 HB.out)
 refine start_ (n := 11) (S := fun w' => w'.cell? ⟨gb107, 0, none⟩ = some (.int .i64 t103) ∧ w'.cell? ⟨gb107, 1, none⟩ = some (.slice Ao16 t104.length co16)) (ds := []) #[F,F,F,F,F,F,F,F,F,F,F] (by kernel_rfl) rfl rfl ⟨(blk_cell BK107.out 0).trans rfl, (blk_cell BK107.out 1).trans rfl⟩ (fun hHeld => ?_); refine with_tabW impl_StartPowers.tab4 impl_StartPowers.bits4 (fun HT_ HW_ => ?_)
 generalize w17.drew = w18 at HO106 BK101 BK107 HB hHeld ⊢
 refine pU 2 HT_ ?_
 refine tK 0 HT_ HW_ hHeld (hy := by rintro w' ⟨s0, s1⟩; go_simp; with_reducible rfl) ?_
 refine tK 3 HT_ HW_ hHeld (hy := by rintro w' ⟨s0, s1⟩; go_simp; with_reducible rfl) ?_
 refine pU 4 HT_ ?_
 refine tK 5 HT_ HW_ hHeld (hy := by rintro w' ⟨s0, s1⟩; go_simp; with_reducible rfl) ?_
 refine oN 1 HT_ (fun K hK => ?_)
 refine gE Tryz.func157 #[.agg #[.int .i64 t103, .slice Ao16 t104.length co16]] ?_
 with_reducible refine (impl_votes_swings.calls k t103 _ _ t104 t108 _ ?side1 ?side2 A5.out).mono ?_
 (case side1 => have hx_ := (Kd.R_reads' HO106.out).2.2; exact cC)
 (case side2 => exact (Kd.R_reads' HO106.out).2.1)
 rintro e w19 ⟨v109, rfl, ho0, hb⟩
 refine ⟨_, rfl, ?_⟩
 have HO110 := Aside0.mk (Kd.R_lower ho0 (below_size HB.out))
 replace HO106 := rB HO106 hb
 replace BK101 := bB BK101 hb
 replace BK107 := bB BK107 hb
 replace HB := sB HB hb
 (try clear hb)
 (try clear hb2)
 (try clear hk)
 (try clear hi)
 (try clear ho0)
 refine hK.out _ _ ⟨(blk_cell BK107.out 0).trans rfl, (blk_cell BK107.out 1).trans rfl⟩ (fun hHeld => ?_)
 clear hK K
 refine nM ?_
 refine oN 6 HT_ (fun K hK => ?_)
 refine gE Tryz.func150 #[.agg #[.int .i64 t103, .slice Ao16 t104.length co16]] ?_
 with_reducible refine (impl_votes_countWins.calls k t103 _ _ t104 t111 _ ?side1 ?side2 A6.out).mono ?_
 (case side1 => have hx_ := (Kd.R_reads' HO106.out).2.2; exact cC)
 (case side2 => exact (Kd.R_reads' HO106.out).2.1)
 rintro e w20 ⟨rfl, hb⟩
 refine ⟨_, rfl, ?_⟩
 replace HO106 := rB HO106 hb
 replace HO110 := rB HO110 hb
 replace BK101 := bB BK101 hb
 replace BK107 := bB BK107 hb
 replace HB := sB HB hb
 (try clear hb)
 (try clear hb2)
 (try clear hk)
 (try clear hi)
 obtain ⟨Ao21, co21, eo21⟩ := Kd.R_slice HO110.out
 (first | subst eo21 | (injection eo21 with f1_ f2_ f3_; have f4_ := f1_.symm; have f5_ := f3_.symm; clear f1_ f2_ f3_; subst f4_; subst f5_))
 refine hK.out _ _ ⟨(blk_cell BK107.out 0).trans rfl, (blk_cell BK107.out 1).trans rfl⟩ (fun hHeld => ?_)
 clear hK K
 refine nM ?_
 refine pU 7 HT_ ?_
 refine oN 8 HT_ (fun K hK => ?_)
 refine gE Tryz.func159 #[.slice Ao21 t108.length co21, .int .i64 (wrap64 ((t104.length : Int) - t111))] ?_
 with_reducible refine (impl_sharesOf.calls k _ _ t108 (wrap64 ((t104.length : Int) - t111)) t112 _ ?side1 ?side2 A7.out).mono ?_
 (case side1 => have hx_ := (Kd.R_reads' HO110.out).2.2; exact cC)
 (case side2 => exact (Kd.R_reads' HO110.out).2.1)
 rintro e w22 ⟨v113, rfl, ho0, hb⟩
 refine ⟨_, rfl, ?_⟩
 have HO114 := Aside0.mk (Kd.R_lower ho0 (below_size HB.out))
 replace HO106 := rB HO106 hb
 replace HO110 := rB HO110 hb
 replace BK101 := bB BK101 hb
 replace BK107 := bB BK107 hb
 replace HB := sB HB hb
 (try clear hb)
 (try clear hb2)
 (try clear hk)
 (try clear hi)
 (try clear ho0)
 refine hK.out _ _ ⟨(blk_cell BK107.out 0).trans rfl, (blk_cell BK107.out 1).trans rfl⟩ (fun hHeld => ?_)
 clear hK K
 refine nM ?_
 refine pU 9 HT_ ?_
 refine pU 10 HT_ ?_
 refine done_ (done_of HT_.out (by kernel_rfl)) ?_
 try go_wp2
 go_ret2
 exact ⟨_, fR, by exact HO114.out, wB⟩
def spec_StartPowers.l0 : Nat → List Bool → List (S60) → List Int → Int → Int → Option ((List (S60)) × Bool)
 | 0, _, _, _, _, _ => none
 | k + 1, x4, x5, x17, x18, x19 => if x19 < x18 then (if 0 ≤ x19 then (if x19 < (x17.length : Int) then ((spec_gmCount.f k x4).bind fun t110 => ((spec_pwShare.f k (rd x17 x19) (wrap64 ((x4.length : Int) - t110))).bind fun bt111 => (if x5.length < 8796093022208 then (spec_StartPowers.l0 k x4 (x5 ++ [(⟨bt111.1, bt111.2⟩ : S60)]) x17 x18 (wrap64 (x19 + 1))) else (none)))) else (none)) else (none)) else (some (x5, true))
def spec_StartPowers.f (k : Nat) (a0_0 : Int) (l0_1 : List Int) : Option ((List (S60)) × Bool) := (spec_voGood.f k a0_0 l0_1).bind fun t102 => (if t102 = true then ((spec_voWins.f k a0_0 l0_1).bind fun t103 => ((spec_pwCounts.f k t103 (l0_1.length : Int)).bind fun t106 => (spec_StartPowers.l0 k t103 ([] : List (S60)) t106 (t106.length : Int) 0))) else (some (([] : List (S60)), false)))
theorem spec_StartPowers.calls (k : Nat) (a0_0 : Int) (A0_1 : Option Addr) (c0_1 : Nat) (l0_1 : List Int) (r1 : List (S60)) (r2 : Bool) (w : World) (hr0_1 : Kd.C (Kd.int .i64) w A0_1 l0_1.length l0_1) (hc0_1 : l0_1.length ≤ c0_1) (h : spec_StartPowers.f k a0_0 l0_1 = some (r1, r2)) :
  Calls Tryz.prog 67 #[.agg #[.int .i64 a0_0, .slice A0_1 l0_1.length c0_1]] w fun e w' => ∃ v0_ : Value, e = .returned (.tuple #[v0_, .bool r2]) ∧ Kd.R k60 60 w' w.heap.size (fun _ => True) v0_ r1 ∧ Below w.heap.size w w' := by
 have hu26 := Tryz.underlying26
 have HR0_1 := Aside0.mk hr0_1
 have HC0_1 := Aside0.mk hc0_1
 clear hr0_1 hc0_1
 have HB := Aside0.mk (Below.refl w.heap.size w)
 have H := h
 unfold spec_StartPowers.f at H
 clear h
 replace H := oA H
 obtain ⟨t102, A2, H⟩ := H
 (try dsimp only at H)
 by_cases c3 : t102 = true
 rotate_left
 ·replace c3 := Bool.eq_false_iff.mpr c3
  subst c3
  replace H := iF H
  simp only [Option.some.injEq, Prod.mk.injEq] at H
  obtain ⟨rfl, rfl⟩ := H
  go_enter Tryz.func67, Tryz.ntmps67
  go_wp2_with (first | ((with_reducible refine gate_dst (N := 1) rfl ?_); refine xE (N := 1) (cs := #[.int .i64 a0_0, .slice A0_1 l0_1.length c0_1]) (t := 26) ?_; intro gb101 hg w23 BK101 hb; have GW101 : Aside0 (w.heap.size ≤ gb101) := gT hg; have GE101 : Aside0 (w.heap.size ≤ gb101) := gT hg; replace HB := sQ hb; clear hb hg; obtain ⟨hcz24_0, hcz24_1, hfz24_0, hfz24_1⟩ := zZ BK101) | ((with_reducible refine gate_callee (f := 129) rfl ?_); refine gL 9 Tryz.func129 #[.agg #[.int .i64 a0_0, .slice A0_1 l0_1.length c0_1]] ?_; (with_reducible refine (spec_voGood.calls k a0_0 _ _ l0_1 false _ ?side1 ?side2 A2.out).mono ?_); (case side1 => have hx_ := (Kd.C_below HR0_1.out HB.out); exact cC); (case side2 => exact HC0_1.out); rintro e w25 ⟨rfl, hb⟩; refine ⟨_, rfl, ?_⟩; replace BK101 := bP BK101 hb; replace HB := sQ hb; (try clear hb)))
  go_ret2
  exact ⟨_, fR, by first | exact Kd.R_nil _ _ _ _ _ | exact Kd.N_nil _ _ _ _ _ | exact Kd.V_nil _ _ _ _ _ | exact Kd.Q_nil _ _ _ _ _ | exact Kd.S_nil _ _ _ _ _, wB⟩
 subst c3
 replace H := iT H
 replace H := oA H
 obtain ⟨t103, A4, H⟩ := H
 (try dsimp only at H)
 replace H := oA H
 obtain ⟨t106, A5, H⟩ := H
 (try dsimp only at H)
 have H' := Aside0.mk H
 clear H
 go_enter Tryz.func67, Tryz.ntmps67
 go_wp2_with (first | ((with_reducible refine gate_dst (N := 1) rfl ?_); refine xE (N := 1) (cs := #[.int .i64 a0_0, .slice A0_1 l0_1.length c0_1]) (t := 26) ?_; intro gb101 hg w6 BK101 hb; have GW101 := gS hg HB; have GE101 := gS hg HB; replace HB := sB HB hb; clear hb hg; obtain ⟨hcz7_0, hcz7_1, hfz7_0, hfz7_1⟩ := zZ BK101) | ((with_reducible refine gate_callee (f := 129) rfl ?_); refine gL 9 Tryz.func129 #[.agg #[.int .i64 a0_0, .slice A0_1 l0_1.length c0_1]] ?_; (with_reducible refine (spec_voGood.calls k a0_0 _ _ l0_1 true _ (Kd.C_below HR0_1.out HB.out) HC0_1.out A2.out).mono ?_); rintro e w8 ⟨rfl, hb⟩; refine ⟨_, rfl, ?_⟩; replace BK101 := bB BK101 hb; replace HB := sB HB hb; (try clear hb); (try clear hcz7_0 hcz7_1 hfz7_0 hfz7_1); obtain ⟨hcz9_0, hcz9_1, hfz9_0, hfz9_1⟩ := zZ BK101) | ((with_reducible refine gate_callee (f := 141) rfl ?_); refine gL 12 Tryz.func141 #[.agg #[.int .i64 a0_0, .slice A0_1 l0_1.length c0_1]] ?_; (with_reducible refine (spec_voWins.calls k a0_0 _ _ l0_1 t103 _ (Kd.C_below HR0_1.out HB.out) HC0_1.out A4.out).mono ?_); rintro e w10 ⟨v104, rfl, ho0, hb⟩; refine ⟨_, rfl, ?_⟩; have HO105 := Aside0.mk (Kd.R_lower ho0 (below_size HB.out)); replace BK101 := bB BK101 hb; replace HB := sB HB hb; (try clear hb); (try clear ho0); (try clear hcz9_0 hcz9_1 hfz9_0 hfz9_1); obtain ⟨hcz11_0, hcz11_1, hfz11_0, hfz11_1⟩ := zZ BK101; obtain ⟨Ao12, co12, eo12⟩ := Kd.R_slice HO105.out; subst eo12) | ((with_reducible refine gate_callee (f := 158) rfl ?_); refine gL 17 Tryz.func158 #[.slice Ao12 t103.length co12, .int .i64 (l0_1.length : Int)] ?_; (with_reducible refine (spec_pwCounts.calls k _ _ t103 (l0_1.length : Int) t106 _ ?side1 ?side2 A5.out).mono ?_); (case side1 => have hx_ := (Kd.R_reads' HO105.out).2.2; exact cC); (case side2 => exact (Kd.R_reads' HO105.out).2.1); rintro e w13 ⟨v107, rfl, ho0, hb⟩; refine ⟨_, rfl, ?_⟩; have HO108 := Aside0.mk (Kd.R_lower ho0 (below_size HB.out)); replace HO105 := rB HO105 hb; replace BK101 := bB BK101 hb; replace HB := sB HB hb; (try clear hb); (try clear ho0); obtain ⟨Ao14, co14, eo14⟩ := Kd.R_slice HO108.out; subst eo14))
 go_loopg [5, 19] k (fun kq v5 v19 w' => ∃ (x5_1 : List (S60)) (x19_1 : Int), v19 = .int .i64 x19_1 ∧ Aside0 (spec_StartPowers.l0 kq t103 x5_1 t106 (t106.length : Int) x19_1 = some (r1, r2)) ∧ Aside0 (kq ≤ k) ∧ Aside0 (Kd.R Kd.bool 4 w' w.heap.size (fun _ => True) (.slice Ao12 t103.length co12) t103) ∧ Aside0 (Kd.R k60 60 w' w.heap.size (fun _ => True) v5 x5_1) ∧ Aside0 (Kd.R (Kd.int .i64) 3 w' w.heap.size (fun _ => True) (.slice Ao14 t106.length co14) t106) ∧ Aside0 (w'.heap[gb101]? = some (.cells #[.int .i64 a0_0, (.slice A0_1 l0_1.length c0_1)] 26 (0, 0))) ∧ Aside0 (Below w.heap.size w w'))
 case atStart => exact ⟨(([] : List (S60))), (0), gR, H', ⟨Nat.le_refl _⟩, ⟨by exact HO105.out⟩, ⟨by first | exact Kd.R_nil _ _ _ _ _ | exact Kd.N_nil _ _ _ _ _ | exact Kd.V_nil _ _ _ _ _ | exact Kd.Q_nil _ _ _ _ _ | exact Kd.S_nil _ _ _ _ _⟩, ⟨by exact HO108.out⟩, ⟨by exact BK101.out⟩, ⟨wB⟩⟩
 case round =>
  clear H'
  (try clear c1); (try clear p2); (try clear c3); (try clear c6); (try clear c12); (try clear c14); (try clear hcz11_0); (try clear hcz11_1); (try clear hfz11_0); (try clear hfz11_1)
  obtain ⟨x5_1, x19_1, rfl, HA, HK1, HO_4, HO_5, HO_17, BK101, HB⟩ := hrel
  cases gk with
  | zero => exact absurd HA.out (by simp [spec_StartPowers.l0])
  | succ k1 =>
   have H := HA.out
   clear HA
   simp only [spec_StartPowers.l0] at H
   by_cases c15 : x19_1 < (t106.length : Int)
   rotate_left
   ·rw [if_neg c15] at H
    have c15b0 : decide (x19_1 < (t106.length : Int)) = false := decide_eq_false c15
    clear c15
    simp only [Option.some.injEq, Prod.mk.injEq] at H
    obtain ⟨rfl, rfl⟩ := H
    go_wp2
    go_ret2
    exact ⟨_, fR, by (with_reducible repeat (first | apply qA | apply qN | apply qD)); exact HO_5.out, wB⟩
   rw [if_pos c15] at H
   have c15b0 := decide_eq_true c15
   clear c15
   by_cases c16 : 0 ≤ x19_1
   rotate_left
   ·rw [if_neg c16] at H
    exact absurd H (by simp)
   rw [if_pos c16] at H
   have c16b0 := decide_eq_true c16
   clear c16
   by_cases c17 : x19_1 < (t106.length : Int)
   rotate_left
   ·rw [if_neg c17] at H
    exact absurd H (by simp)
   rw [if_pos c17] at H
   have c17b0 := decide_eq_true c17
   clear c17
   replace H := oA H
   obtain ⟨t110, A18, H⟩ := H
   (try dsimp only at H)
   replace H := oB H
   obtain ⟨⟨t111, t112⟩, A190, H⟩ := H
   (try dsimp only at H)
   have A19 := Aside0.mk A190
   clear A190
   by_cases c20 : x5_1.length < 8796093022208
   rotate_left
   ·rw [if_neg c20] at H
    exact absurd H (by simp)
   rw [if_pos c20] at H
   have LMc20 := Aside0.mk c20
   clear c20
   obtain ⟨y113, hy113⟩ : ∃ y_ : List (S60), y_ = (x5_1 ++ [(⟨t111, t112⟩ : S60)]) := ⟨_, rfl⟩
   replace H : (spec_StartPowers.l0 k1 t103 y113 t106 (t106.length : Int) (wrap64 (x19_1 + 1))) = some (r1, r2) := by first | (rw [hy113]; with_reducible exact H) | (have H2_ := (Option.bind_some _ _).symm.trans H; rw [hy113]; with_reducible exact H2_) | (have H2_ := (Option.bind_some _ _).symm.trans H; with_reducible exact H2_) | with_reducible exact H | (rw [hy113]; exact H) | exact H
   have Ny113 := Aside0.mk hy113
   clear hy113
   have H' := Aside0.mk H
   clear H
   have p109 : 0 ≤ (x19_1 : Int) := oD
   have q109 : x19_1 < (t106.length : Int) := oD
   obtain ⟨ad109, e109, hx109_0⟩ := Kd.at_int (Kd.R_reads' HO_17.out).2.2 x19_1 p109 q109
   cases e109
   replace p109 := eq_true p109
   replace q109 := eq_true q109
   go_wp2_with (first | ((with_reducible refine gate_callee (f := 163) rfl ?_); refine gL 28 Tryz.func163 #[.slice Ao12 t103.length co12] ?_; (with_reducible refine (spec_gmCount.calls k1 _ _ t103 t110 _ ?side1 ?side2 A18.out).mono ?_); (case side1 => have hx_ := (Kd.R_reads' HO_4.out).2.2; exact cC); (case side2 => exact (Kd.R_reads' HO_4.out).2.1); rintro e w' ⟨rfl, ⟨nd, rfl⟩⟩; refine ⟨_, rfl, ?_⟩) | ((with_reducible refine gate_callee (f := 160) rfl ?_); refine gL 30 Tryz.func160 #[.int .i64 (rd t106 x19_1), .int .i64 (wrap64 ((t103.length : Int) - t110))] ?_; (with_reducible refine (spec_pwShare.calls k1 (rd t106 x19_1) (wrap64 ((t103.length : Int) - t110)) t111 t112 _ A19.out).mono ?_); rintro e w21 ⟨rfl, hb⟩; refine ⟨_, rfl, ?_⟩; replace HO_4 := rP HO_4 hb; replace HO_5 := rP HO_5 hb; replace HO_17 := rP HO_17 hb; replace BK101 := bP BK101 hb; replace HB := sQ hb; (try clear hb)) | ((with_reducible refine gate_builtin (b := .append) (xs := #[.tmp 23, .tmp 31]) rfl ?_); at_builtin; refine Kd.R_append k60 (w0 := w) w.heap.size rfl (.tmp 23) (.tmp 31) 56 60 (.agg #[(.int .i64 0), (.int .i64 0)]) 16 rfl Tryz.underlying56 info60 rfl (by decide) (by omega) u5 x5_1 (⟨t111, t112⟩ : S60) [.int .i64 t111, .int .i64 t112] (fun _ => True) (fun _ => False) rfl rfl ?aP (fun _ hk => hk.elim) ?aF ?aO ?aB ?aS ?aL ?_; (case aP => exact k60_mkM _ _ _ (⟨t111, t112⟩ : S60)); (case aB => exact (by repeat (first | exact HB.out | apply ba | apply bd | apply be | refine bs ?_ GE101.out))); (case aF => exact (fun _ _ => trivial)); (case aO => exact (rQ HO_5)); (case aS => exact (below_size (by repeat (first | exact HB.out | apply ba | apply bd | apply be | refine bs ?_ GE101.out)))); (case aL => have := LMc20.out; omega); intro v114 w22 ho hb hg hat; rw [← Ny113.out] at ho; have HO115 := Aside0.mk (ho); replace HO_4 := Aside0.mk (Kd.R_over' (rQ HO_4) (Kd.R_typed (rQ HO_5)) (by decide) hg); replace HO_17 := Aside0.mk (Kd.R_over' (rQ HO_17) (Kd.R_typed (rQ HO_5)) (by decide) hg); replace BK101 := Aside0.mk (blk_grown (g := gb101) (o := .cells #[.int .i64 a0_0, .slice A0_1 l0_1.length c0_1] 26 (0, 0)) (bQ BK101) hg (Kd.R_ne HO_5.out BK101.out (by decide))); replace HB := Aside0.mk (hb); clear ho hb hg hat))
   go_roundg k1
   case measure => have := HK1.out; omega
   case rel => exact ⟨(y113), (wrap64 (x19_1 + 1)), gR, H', ⟨by have := HK1.out; omega⟩, ⟨rQ HO_4⟩, ⟨rQ HO115⟩, ⟨rQ HO_17⟩, ⟨bQ BK101⟩, ⟨wB⟩⟩
mutual
def impl_AgreeChances.l0 : Nat → List (S60) → Int → Int → Int → List Bool → Option ((List (S60)) × Bool)
 | 0, _, _, _, _, _ => none
 | k + 1, x5, x17, x18, x108000, x108001 => if x18 < x17 then (impl_AgreeChances.l1 k x5 x18 0 x17 x18 x108001 (x108001.length : Int) 0 x108000 x108001) else (some (x5, true))
def impl_AgreeChances.l1 : Nat → List (S60) → Int → Int → Int → Int → List Bool → Int → Int → Int → List Bool → Option ((List (S60)) × Bool)
 | 0, _, _, _, _, _, _, _, _, _, _ => none
 | k + 1, x5, x6, x7, x17, x18, x22, x23, x24, x108000, x108001 => if x24 < x23 then (if 0 ≤ x24 then (if x24 < (x22.length : Int) then ((impl_has.f x24 x6).bind fun t112 => (if ((rdOf false x22 x24) == t112) = true then (impl_AgreeChances.l1 k x5 x6 (wrap64 (x7 + 1)) x17 x18 x22 x23 (wrap64 (x24 + 1)) x108000 x108001) else (impl_AgreeChances.l1 k x5 x6 x7 x17 x18 x22 x23 (wrap64 (x24 + 1)) x108000 x108001))) else (none)) else (none)) else ((impl_shareOf.f k x7 (x108001.length : Int)).bind fun bt113 => (if x5.length < 8796093022208 then (impl_AgreeChances.l0 k (x5 ++ [(⟨bt113.1, bt113.2⟩ : S60)]) x17 (wrap64 (x18 + 1)) x108000 x108001) else (none)))
end
def impl_AgreeChances.f (k : Nat) (a0_0 : Int) (l0_1 : List Int) : Option ((List (S60)) × Bool) := (impl_IsCommittee.f k a0_0 l0_1).bind fun t102 => (if t102 = true then ((impl_Committee_votes.f k a0_0 l0_1).bind fun bt103 => (impl_AgreeChances.l0 k (([] : List (S60))) bt103.1 0 bt103.1 bt103.2)) else (some (([] : List (S60)), false)))
theorem impl_AgreeChances.calls (k : Nat) (a0_0 : Int) (A0_1 : Option Addr) (c0_1 : Nat) (l0_1 : List Int) (r1 : List (S60)) (r2 : Bool) (w : World) (hr0_1 : Kd.C (Kd.int .i64) w A0_1 l0_1.length l0_1) (hc0_1 : l0_1.length ≤ c0_1) (h : impl_AgreeChances.f k a0_0 l0_1 = some (r1, r2)) :
  Calls Tryz.prog 68 #[.agg #[.int .i64 a0_0, .slice A0_1 l0_1.length c0_1]] w fun e w' => ∃ v0_ : Value, e = .returned (.tuple #[v0_, .bool r2]) ∧ Kd.R k60 60 w' w.heap.size (fun _ => True) v0_ r1 ∧ Below w.heap.size w w' := by
 have hu26 := Tryz.underlying26
 have hu87 := Tryz.underlying87
 have HR0_1 := Aside0.mk hr0_1
 have HC0_1 := Aside0.mk hc0_1
 clear hr0_1 hc0_1
 have HB := Aside0.mk (Below.refl w.heap.size w)
 have H := h
 unfold impl_AgreeChances.f at H
 clear h
 replace H := oA H
 obtain ⟨t102, A2, H⟩ := H
 (try dsimp only at H)
 by_cases c3 : t102 = true
 rotate_left
 ·replace c3 := Bool.eq_false_iff.mpr c3
  subst c3
  replace H := iF H
  simp only [Option.some.injEq, Prod.mk.injEq] at H
  obtain ⟨rfl, rfl⟩ := H
  go_enter Tryz.func68, Tryz.ntmps68
  go_wp2_with (first | ((with_reducible refine gate_dst (N := 1) rfl ?_); refine xE (N := 1) (cs := #[.int .i64 a0_0, .slice A0_1 l0_1.length c0_1]) (t := 26) ?_; intro gb101 hg w31 BK101 hb; have GW101 : Aside0 (w.heap.size ≤ gb101) := gT hg; have GE101 : Aside0 (w.heap.size ≤ gb101) := gT hg; replace HB := sQ hb; clear hb hg; (try clear hcz28_0 hcz28_1 hfz28_0 hfz28_1); obtain ⟨hcz32_0, hcz32_1, hfz32_0, hfz32_1⟩ := zZ BK101) | ((with_reducible refine gate_callee (f := 20) rfl ?_); refine gL 11 Tryz.func20 #[.agg #[.int .i64 a0_0, .slice A0_1 l0_1.length c0_1]] ?_; (with_reducible refine (impl_IsCommittee.calls k a0_0 _ _ l0_1 false _ ?side1 ?side2 A2.out).mono ?_); (case side1 => have hx_ := (Kd.C_below HR0_1.out HB.out); exact cC); (case side2 => exact HC0_1.out); rintro e w33 ⟨rfl, hb⟩; refine ⟨_, rfl, ?_⟩; replace BK101 := bP BK101 hb; replace HB := sQ hb; (try clear hb)))
  go_ret2
  exact ⟨_, fR, by first | exact Kd.R_nil _ _ _ _ _ | exact Kd.N_nil _ _ _ _ _ | exact Kd.V_nil _ _ _ _ _ | exact Kd.Q_nil _ _ _ _ _ | exact Kd.S_nil _ _ _ _ _, wB⟩
 subst c3
 replace H := iT H
 replace H := oB H
 obtain ⟨⟨t103, t104⟩, A40, H⟩ := H
 (try dsimp only at H)
 have A4 := Aside0.mk A40
 clear A40
 obtain ⟨y108, hy108⟩ : ∃ y_ : List (S60), y_ = (([] : List (S60))) := ⟨_, rfl⟩
 replace H : (impl_AgreeChances.l0 k y108 t103 0 t103 t104) = some (r1, r2) := by first | (rw [hy108]; with_reducible exact H) | (have H2_ := (Option.bind_some _ _).symm.trans H; rw [hy108]; with_reducible exact H2_) | (have H2_ := (Option.bind_some _ _).symm.trans H; with_reducible exact H2_) | with_reducible exact H | (rw [hy108]; exact H) | exact H
 have Ny108 := Aside0.mk hy108
 clear hy108
 have H' := Aside0.mk H
 clear H
 go_enter Tryz.func68, Tryz.ntmps68
 go_wp2_with (first | ((with_reducible refine gate_dst (N := 1) rfl ?_); refine xE (N := 1) (cs := #[.int .i64 a0_0, .slice A0_1 l0_1.length c0_1]) (t := 26) ?_; intro gb101 hg w5 BK101 hb; have GW101 := gS hg HB; have GE101 := gS hg HB; replace HB := sB HB hb; clear hb hg; obtain ⟨hcz6_0, hcz6_1, hfz6_0, hfz6_1⟩ := zZ BK101) | ((with_reducible refine gate_callee (f := 20) rfl ?_); refine gL 11 Tryz.func20 #[.agg #[.int .i64 a0_0, .slice A0_1 l0_1.length c0_1]] ?_; (with_reducible refine (impl_IsCommittee.calls k a0_0 _ _ l0_1 true _ (Kd.C_below HR0_1.out HB.out) HC0_1.out A2.out).mono ?_); rintro e w7 ⟨rfl, hb⟩; refine ⟨_, rfl, ?_⟩; replace BK101 := bB BK101 hb; replace HB := sB HB hb; (try clear hb); (try clear hcz6_0 hcz6_1 hfz6_0 hfz6_1); obtain ⟨hcz8_0, hcz8_1, hfz8_0, hfz8_1⟩ := zZ BK101) | ((with_reducible refine gate_callee (f := 135) rfl ?_); refine gL 14 Tryz.func135 #[.agg #[.int .i64 a0_0, .slice A0_1 l0_1.length c0_1]] ?_; (with_reducible refine (impl_Committee_votes.calls k a0_0 _ _ l0_1 t103 t104 _ (Kd.C_below HR0_1.out HB.out) HC0_1.out A4.out).mono ?_); rintro e w9 ⟨v105, rfl, ho0, hb⟩; refine ⟨_, rfl, ?_⟩; have HO106 := Aside0.mk (Kd.R_lower ho0 (below_size HB.out)); replace BK101 := bB BK101 hb; replace HB := sB HB hb; (try clear hb); (try clear ho0)) | ((with_reducible refine gate_dst (N := 4) rfl ?_); refine xE (N := 4) (cs := #[.int .i64 0, .slice none 0 0]) (t := 87) ?_; intro gb107 hg w10 BK107 hb; have GW107 := gS hg HB; have GE107 := gS hg HB; have NB101_107 := nL hg (blk_lt BK101.out); have NB107_101 := nG hg (blk_lt BK101.out); replace HO106 := rB HO106 hb; replace BK101 := bB BK101 hb; replace HB := sB HB hb; clear hb hg; have hnb11 := NB107_101.out; have hnc11 := NB101_107.out; (try clear hcz8_0 hcz8_1 hfz8_0 hfz8_1); obtain ⟨hcz12_0, hcz12_1, hfz12_0, hfz12_1⟩ := zZ BK107; obtain ⟨Ao13, co13, eo13⟩ := Kd.R_slice HO106.out; subst eo13) | ((with_reducible refine gate_dst (N := 15) rfl ?_); refine Kd.R_lit k60 _ 60 ?hg (N := 15) ?hd (xs := ([] : List (S60))) (inner := []) (ok := fun _ => True) (okp := fun _ => True) ?hr ?hp (fun _ hk => hk) trivial (Below.refl _ _) (Nat.le_refl _) (by simp) ?_; (case hd => rfl); (case hg => rfl); (case hr => first | (go_simp; done) | (go_simp; rfl)); (case hp => exact (Reps.none _ _)); intro v109 w14 ho15 hb hg_ hnew_; clear hg_ hnew_; (first | rw [← Ny108.out] at ho15 | (simp only [Int.reduceToNat] at ho15; rw [← Ny108.out] at ho15)); have HO110 := Aside0.mk (Kd.R_lower ho15 (below_size (by repeat (first | exact HB.out | apply ba | refine bs ?_ GE107.out)))); replace HO106 := Aside0.mk (Kd.R_below (by exact (Kd.R_mono (Kd.R_far (p := ⟨gb107, 1, none⟩) (Kd.R_far (p := ⟨gb107, 0, none⟩) (Kd.R_types HO106.out BK107.out (by decide)) (fun _ hk => hk.2) (.int .i64 t103)) (fun _ hk => hk.2) (.slice Ao13 t104.length co13)) (fun _ h_ => h_.1))) hb); replace BK101 := Aside0.mk (blk_below (g := gb101) (o := .cells #[.int .i64 a0_0, .slice A0_1 l0_1.length c0_1] 26 (0, 0)) (by refine blk_far ?_ NB101_107.out _; refine blk_far ?_ NB101_107.out _; exact BK101.out) hb); replace BK107 := Aside0.mk (blk_below (g := gb107) (o := .cells #[.int .i64 t103, .slice Ao13 t104.length co13] 87 (0, 0)) (by refine blk_put (cs := #[.int .i64 t103, .slice none 0 0]) ?_ 1 _ rfl; refine blk_put (cs := #[.int .i64 0, .slice none 0 0]) ?_ 0 _ rfl; exact BK107.out) hb); replace HB := Aside0.mk (below_step (by repeat (first | exact HB.out | apply ba | refine bs ?_ GE107.out)) hb); clear hb ho15; (try clear hcz12_0 hcz12_1 hfz12_0 hfz12_1); obtain ⟨hcz16_0, hcz16_1, hfz16_0, hfz16_1⟩ := zZ BK107))
 go_loopg [5, 18] k (fun kq v5 v18 w' => ∃ (x5_1 : List (S60)) (x18_1 : Int), v18 = .int .i64 x18_1 ∧ Aside0 (impl_AgreeChances.l0 kq x5_1 t103 x18_1 t103 t104 = some (r1, r2)) ∧ Aside0 (kq ≤ k) ∧ Aside0 (Kd.R k60 60 w' w.heap.size (fun _ => True) v5 x5_1) ∧ Aside0 (Kd.R Kd.bool 4 w' w.heap.size (fun _ => True) (.slice Ao13 t104.length co13) t104) ∧ Aside0 (w'.heap[gb101]? = some (.cells #[.int .i64 a0_0, (.slice A0_1 l0_1.length c0_1)] 26 (0, 0))) ∧ Aside0 (w'.heap[gb107]? = some (.cells #[.int .i64 t103, (.slice Ao13 t104.length co13)] 87 (0, 0))) ∧ Aside0 (Below w.heap.size w w'))
 case atStart => exact ⟨(y108), (0), gR, H', ⟨Nat.le_refl _⟩, ⟨by exact HO110.out⟩, ⟨by exact HO106.out⟩, ⟨by exact BK101.out⟩, ⟨by exact BK107.out⟩, ⟨wB⟩⟩
 case round =>
  clear H'
  (try clear c1); (try clear c2); (try clear p2); (try clear c3); (try clear c6); (try clear c11); (try clear c13); (try clear hcz16_0); (try clear hcz16_1); (try clear hfz16_0); (try clear hfz16_1)
  obtain ⟨x5_1, x18_1, rfl, HA, HK1, HO_5, HO_108001, BK101, BK107, HB⟩ := hrel
  cases gk with
  | zero => exact absurd HA.out (by simp [impl_AgreeChances.l0])
  | succ k1 =>
   have H := HA.out
   clear HA
   simp only [impl_AgreeChances.l0] at H
   by_cases c17 : x18_1 < t103
   rotate_left
   ·rw [if_neg c17] at H
    have c17b0 : decide (x18_1 < t103) = false := decide_eq_false c17
    clear c17
    simp only [Option.some.injEq, Prod.mk.injEq] at H
    obtain ⟨rfl, rfl⟩ := H
    go_wp2
    go_ret2
    exact ⟨_, fR, by (with_reducible repeat (first | apply qA | apply qN | apply qD)); exact HO_5.out, wB⟩
   rw [if_pos c17] at H
   have c17b0 := decide_eq_true c17
   clear c17
   have H' := Aside0.mk H
   clear H
   have hnb18 := NB107_101.out
   have hnc18 := NB101_107.out
   obtain ⟨hcz19_0, hcz19_1, hfz19_0, hfz19_1⟩ := zZ BK107
   go_wp2
   go_loopg [7, 24] k1 (fun kq v7 v24 w' => ∃ (x7_2 : Int) (x24_2 : Int), v7 = .int .i64 x7_2 ∧ v24 = .int .i64 x24_2 ∧ Aside0 (impl_AgreeChances.l1 kq x5_1 x18_1 x7_2 t103 x18_1 t104 (t104.length : Int) x24_2 t103 t104 = some (r1, r2)) ∧ Aside0 (kq ≤ k1) ∧ Aside0 (Kd.R k60 60 w' w.heap.size (fun _ => True) u5 x5_1) ∧ Aside0 (Kd.R Kd.bool 4 w' w.heap.size (fun _ => True) (.slice Ao13 t104.length co13) t104) ∧ Aside0 (Kd.R Kd.bool 4 w' w.heap.size (fun _ => True) (.slice Ao13 t104.length co13) t104) ∧ Aside0 (w'.heap[gb101]? = some (.cells #[.int .i64 a0_0, (.slice A0_1 l0_1.length c0_1)] 26 (0, 0))) ∧ Aside0 (w'.heap[gb107]? = some (.cells #[.int .i64 t103, (.slice Ao13 t104.length co13)] 87 (0, 0))) ∧ Aside0 (Below w.heap.size w w'))
   case atStart => exact ⟨(0), (0), gR, gR, H', ⟨Nat.le_refl _⟩, ⟨by exact HO_5.out⟩, ⟨by exact HO_108001.out⟩, ⟨by exact HO_108001.out⟩, ⟨by exact BK101.out⟩, ⟨by exact BK107.out⟩, ⟨wB⟩⟩
   case round =>
    clear H'
    (try clear c1); (try clear c2); (try clear p2); (try clear c3); (try clear c6); (try clear c11); (try clear c13); (try clear c17); (try clear c17b0); (try clear c18); (try clear hcz16_0); (try clear hcz16_1); (try clear hcz19_0); (try clear hcz19_1); (try clear hfz16_0); (try clear hfz16_1); (try clear hfz19_0); (try clear hfz19_1); (try clear p2)
    obtain ⟨x7_2, x24_2, rfl, rfl, HA, HK2, HO_5, HO_22, HO_108001, BK101, BK107, HB⟩ := hrel
    cases gk with
    | zero => exact absurd HA.out (by simp [impl_AgreeChances.l1])
    | succ k2 =>
     have H := HA.out
     clear HA
     simp only [impl_AgreeChances.l1] at H
     by_cases c20 : x24_2 < (t104.length : Int)
     ·rw [if_pos c20] at H
      have c20b0 := decide_eq_true c20
      clear c20
      by_cases c21 : 0 ≤ x24_2
      rotate_left
      ·rw [if_neg c21] at H
       exact absurd H (by simp)
      rw [if_pos c21] at H
      have c21b0 := decide_eq_true c21
      clear c21
      by_cases c22 : x24_2 < (t104.length : Int)
      rotate_left
      ·rw [if_neg c22] at H
       exact absurd H (by simp)
      rw [if_pos c22] at H
      have c22b0 := decide_eq_true c22
      clear c22
      replace H := oA H
      obtain ⟨t112, A23, H⟩ := H
      (try dsimp only at H)
      by_cases c24 : ((rdOf false t104 x24_2) == t112) = true
      ·rw [if_pos c24] at H
       have c24b0 : ((rdOf false t104 x24_2) == t112) = true := c24
       (try (have c24b1 : decide ((rdOf false t104 x24_2) = t112) = true := by simpa using c24))
       (try (have c24b2 : ((rdOf false t104 x24_2) == t112) = true := by simpa using c24))
       clear c24
       have H' := Aside0.mk H
       clear H
       have p111 : 0 ≤ (x24_2 : Int) := oD
       have q111 : x24_2 < (t104.length : Int) := oD
       obtain ⟨ad111, e111, hx111_0⟩ := Kd.at_bool (Kd.R_reads' HO_22.out).2.2 x24_2 p111 q111
       cases e111
       replace p111 := eq_true p111
       replace q111 := eq_true q111
       go_wp2_with (first | ((with_reducible refine gate_callee (f := 164) rfl ?_); refine gL 32 Tryz.func164 #[.int .i64 x24_2, .int .i64 x18_1] ?_; (with_reducible refine (impl_has.calls x24_2 x18_1 t112 _ A23.out).mono ?_); rintro e w' ⟨rfl, ⟨nd, rfl⟩⟩; refine ⟨_, rfl, ?_⟩))
       go_roundg k2
       case measure => have := HK1.out; have := HK2.out; omega
       case rel => exact ⟨(wrap64 (x7_2 + 1)), (wrap64 (x24_2 + 1)), gR, gR, H', ⟨by have := HK1.out; have := HK2.out; omega⟩, ⟨rQ HO_5⟩, ⟨rQ HO_22⟩, ⟨rQ HO_108001⟩, ⟨bQ BK101⟩, ⟨bQ BK107⟩, ⟨wB⟩⟩
      rw [if_neg c24] at H
      have c24b0 : ((rdOf false t104 x24_2) == t112) = false := by simpa using c24
      (try (have c24b1 : decide ((rdOf false t104 x24_2) = t112) = false := by simpa using c24))
      (try (have c24b2 : ((rdOf false t104 x24_2) == t112) = false := by simpa using c24))
      (try (have c24b3 : ¬ ((rdOf false t104 x24_2) = t112) := by simpa using c24))
      clear c24
      have H' := Aside0.mk H
      clear H
      have p111 : 0 ≤ (x24_2 : Int) := oD
      have q111 : x24_2 < (t104.length : Int) := oD
      obtain ⟨ad111, e111, hx111_0⟩ := Kd.at_bool (Kd.R_reads' HO_22.out).2.2 x24_2 p111 q111
      cases e111
      replace p111 := eq_true p111
      replace q111 := eq_true q111
      go_wp2_with (first | ((with_reducible refine gate_callee (f := 164) rfl ?_); refine gL 32 Tryz.func164 #[.int .i64 x24_2, .int .i64 x18_1] ?_; (with_reducible refine (impl_has.calls x24_2 x18_1 t112 _ A23.out).mono ?_); rintro e w' ⟨rfl, ⟨nd, rfl⟩⟩; refine ⟨_, rfl, ?_⟩))
      go_roundg k2
      case measure => have := HK1.out; have := HK2.out; omega
      case rel => exact ⟨(x7_2), (wrap64 (x24_2 + 1)), gR, gR, H', ⟨by have := HK1.out; have := HK2.out; omega⟩, ⟨rQ HO_5⟩, ⟨rQ HO_22⟩, ⟨rQ HO_108001⟩, ⟨bQ BK101⟩, ⟨bQ BK107⟩, ⟨wB⟩⟩
     rw [if_neg c20] at H
     have c20b0 : decide (x24_2 < (t104.length : Int)) = false := decide_eq_false c20
     clear c20
     replace H := oB H
     obtain ⟨⟨t113, t114⟩, A250, H⟩ := H
     (try dsimp only at H)
     have A25 := Aside0.mk A250
     clear A250
     by_cases c26 : x5_1.length < 8796093022208
     rotate_left
     ·rw [if_neg c26] at H
      exact absurd H (by simp)
     rw [if_pos c26] at H
     have LMc26 := Aside0.mk c26
     clear c26
     obtain ⟨y115, hy115⟩ : ∃ y_ : List (S60), y_ = (x5_1 ++ [(⟨t113, t114⟩ : S60)]) := ⟨_, rfl⟩
     replace H : (impl_AgreeChances.l0 k2 y115 t103 (wrap64 (x18_1 + 1)) t103 t104) = some (r1, r2) := by first | (rw [hy115]; with_reducible exact H) | (have H2_ := (Option.bind_some _ _).symm.trans H; rw [hy115]; with_reducible exact H2_) | (have H2_ := (Option.bind_some _ _).symm.trans H; with_reducible exact H2_) | with_reducible exact H | (rw [hy115]; exact H) | exact H
     have Ny115 := Aside0.mk hy115
     clear hy115
     have H' := Aside0.mk H
     clear H
     have hnb27 := NB107_101.out
     have hnc27 := NB101_107.out
     obtain ⟨hcz28_0, hcz28_1, hfz28_0, hfz28_1⟩ := zZ BK107
     go_wp2_with (first | ((with_reducible refine gate_callee (f := 162) rfl ?_); refine gL 42 Tryz.func162 #[.int .i64 x7_2, .int .i64 (t104.length : Int)] ?_; (with_reducible refine (impl_shareOf.calls k2 x7_2 (t104.length : Int) t113 t114 _ A25.out).mono ?_); rintro e w29 ⟨rfl, hb⟩; refine ⟨_, rfl, ?_⟩; replace HO_5 := rP HO_5 hb; replace HO_22 := rP HO_22 hb; replace HO_108001 := rP HO_108001 hb; replace BK101 := bP BK101 hb; replace BK107 := bP BK107 hb; replace HB := sQ hb; (try clear hb)) | ((with_reducible refine gate_builtin (b := .append) (xs := #[.tmp 37, .tmp 43]) rfl ?_); at_builtin; refine Kd.R_append k60 (w0 := w) w.heap.size rfl (.tmp 37) (.tmp 43) 56 60 (.agg #[(.int .i64 0), (.int .i64 0)]) 16 rfl Tryz.underlying56 info60 rfl (by decide) (by omega) u5 x5_1 (⟨t113, t114⟩ : S60) [.int .i64 t113, .int .i64 t114] (fun _ => True) (fun _ => False) rfl rfl ?aP (fun _ hk => hk.elim) ?aF ?aO ?aB ?aS ?aL ?_; (case aP => exact k60_mkM _ _ _ (⟨t113, t114⟩ : S60)); (case aB => exact (by repeat (first | exact HB.out | apply ba | apply bd | apply be | refine bs ?_ GE101.out | refine bs ?_ GE107.out))); (case aF => exact (fun _ _ => trivial)); (case aO => exact (rQ HO_5)); (case aS => exact (below_size (by repeat (first | exact HB.out | apply ba | apply bd | apply be | refine bs ?_ GE101.out | refine bs ?_ GE107.out)))); (case aL => have := LMc26.out; omega); intro v116 w30 ho hb hg hat; rw [← Ny115.out] at ho; have HO117 := Aside0.mk (ho); replace HO_22 := Aside0.mk (Kd.R_over' (rQ HO_22) (Kd.R_typed (rQ HO_5)) (by decide) hg); replace HO_108001 := Aside0.mk (Kd.R_over' (rQ HO_108001) (Kd.R_typed (rQ HO_5)) (by decide) hg); replace BK101 := Aside0.mk (blk_grown (g := gb101) (o := .cells #[.int .i64 a0_0, .slice A0_1 l0_1.length c0_1] 26 (0, 0)) (bQ BK101) hg (Kd.R_ne HO_5.out BK101.out (by decide))); replace BK107 := Aside0.mk (blk_grown (g := gb107) (o := .cells #[.int .i64 t103, .slice Ao13 t104.length co13] 87 (0, 0)) (bQ BK107) hg (Kd.R_ne HO_5.out BK107.out (by decide))); replace HB := Aside0.mk (hb); clear ho hb hg hat))
     go_roundg k2
     case measure => have := HK1.out; have := HK2.out; omega
     case rel => exact ⟨(y115), (wrap64 (x18_1 + 1)), gR, H', ⟨by have := HK1.out; have := HK2.out; omega⟩, ⟨rQ HO117⟩, ⟨rQ HO_108001⟩, ⟨bQ BK101⟩, ⟨bQ BK107⟩, ⟨wB⟩⟩
mutual
def spec_AgreeChances.l0 : Nat → List Bool → List (S60) → Int → Int → Option ((List (S60)) × Bool)
 | 0, _, _, _, _ => none
 | k + 1, x4, x5, x17, x18 => if x18 < x17 then (spec_AgreeChances.l1 k x4 x5 x18 0 x17 x18 x4 (x4.length : Int) 0) else (some (x5, true))
def spec_AgreeChances.l1 : Nat → List Bool → List (S60) → Int → Int → Int → Int → List Bool → Int → Int → Option ((List (S60)) × Bool)
 | 0, _, _, _, _, _, _, _, _, _ => none
 | k + 1, x4, x5, x6, x7, x17, x18, x21, x22, x23 => if x23 < x22 then (if 0 ≤ x23 then (if x23 < (x21.length : Int) then (if 0 ≤ x6 then (if ((rdOf false x21 x23) == ((Int.tmod (shr .i64 x23 x6) 2) == 1)) = true then (spec_AgreeChances.l1 k x4 x5 x6 (wrap64 (x7 + 1)) x17 x18 x21 x22 (wrap64 (x23 + 1))) else (spec_AgreeChances.l1 k x4 x5 x6 x7 x17 x18 x21 x22 (wrap64 (x23 + 1)))) else (none)) else (none)) else (none)) else ((spec_pwShare.f k x7 (x4.length : Int)).bind fun bt107 => (if x5.length < 8796093022208 then (spec_AgreeChances.l0 k x4 (x5 ++ [(⟨bt107.1, bt107.2⟩ : S60)]) x17 (wrap64 (x18 + 1))) else (none)))
end
def spec_AgreeChances.f (k : Nat) (a0_0 : Int) (l0_1 : List Int) : Option ((List (S60)) × Bool) := (spec_voGood.f k a0_0 l0_1).bind fun t102 => (if t102 = true then ((spec_voWins.f k a0_0 l0_1).bind fun t103 => (spec_AgreeChances.l0 k t103 ([] : List (S60)) (l0_1.length : Int) 0)) else (some (([] : List (S60)), false)))
theorem spec_AgreeChances.calls (k : Nat) (a0_0 : Int) (A0_1 : Option Addr) (c0_1 : Nat) (l0_1 : List Int) (r1 : List (S60)) (r2 : Bool) (w : World) (hr0_1 : Kd.C (Kd.int .i64) w A0_1 l0_1.length l0_1) (hc0_1 : l0_1.length ≤ c0_1) (h : spec_AgreeChances.f k a0_0 l0_1 = some (r1, r2)) :
  Calls Tryz.prog 69 #[.agg #[.int .i64 a0_0, .slice A0_1 l0_1.length c0_1]] w fun e w' => ∃ v0_ : Value, e = .returned (.tuple #[v0_, .bool r2]) ∧ Kd.R k60 60 w' w.heap.size (fun _ => True) v0_ r1 ∧ Below w.heap.size w w' := by
 have hu26 := Tryz.underlying26
 have HR0_1 := Aside0.mk hr0_1
 have HC0_1 := Aside0.mk hc0_1
 clear hr0_1 hc0_1
 have HB := Aside0.mk (Below.refl w.heap.size w)
 have H := h
 unfold spec_AgreeChances.f at H
 clear h
 replace H := oA H
 obtain ⟨t102, A2, H⟩ := H
 (try dsimp only at H)
 by_cases c3 : t102 = true
 rotate_left
 ·replace c3 := Bool.eq_false_iff.mpr c3
  subst c3
  replace H := iF H
  simp only [Option.some.injEq, Prod.mk.injEq] at H
  obtain ⟨rfl, rfl⟩ := H
  go_enter Tryz.func69, Tryz.ntmps69
  go_wp2_with (first | ((with_reducible refine gate_dst (N := 1) rfl ?_); refine xE (N := 1) (cs := #[.int .i64 a0_0, .slice A0_1 l0_1.length c0_1]) (t := 26) ?_; intro gb101 hg w23 BK101 hb; have GW101 := gS hg HB; have GE101 := gS hg HB; replace HB := sB HB hb; clear hb hg; obtain ⟨hcz24_0, hcz24_1, hfz24_0, hfz24_1⟩ := zZ BK101) | ((with_reducible refine gate_callee (f := 129) rfl ?_); refine gL 11 Tryz.func129 #[.agg #[.int .i64 a0_0, .slice A0_1 l0_1.length c0_1]] ?_; (with_reducible refine (spec_voGood.calls k a0_0 _ _ l0_1 false _ (Kd.C_below HR0_1.out HB.out) HC0_1.out A2.out).mono ?_); rintro e w25 ⟨rfl, hb⟩; refine ⟨_, rfl, ?_⟩; replace BK101 := bB BK101 hb; replace HB := sB HB hb; (try clear hb)))
  go_ret2
  exact ⟨_, fR, by first | exact Kd.R_nil _ _ _ _ _ | exact Kd.N_nil _ _ _ _ _ | exact Kd.V_nil _ _ _ _ _ | exact Kd.Q_nil _ _ _ _ _ | exact Kd.S_nil _ _ _ _ _, wB⟩
 subst c3
 replace H := iT H
 replace H := oA H
 obtain ⟨t103, A4, H⟩ := H
 (try dsimp only at H)
 have H' := Aside0.mk H
 clear H
 go_enter Tryz.func69, Tryz.ntmps69
 go_wp2_with (first | ((with_reducible refine gate_dst (N := 1) rfl ?_); refine xE (N := 1) (cs := #[.int .i64 a0_0, .slice A0_1 l0_1.length c0_1]) (t := 26) ?_; intro gb101 hg w5 BK101 hb; have GW101 := gS hg HB; have GE101 := gS hg HB; replace HB := sB HB hb; clear hb hg; obtain ⟨hcz6_0, hcz6_1, hfz6_0, hfz6_1⟩ := zZ BK101) | ((with_reducible refine gate_callee (f := 129) rfl ?_); refine gL 11 Tryz.func129 #[.agg #[.int .i64 a0_0, .slice A0_1 l0_1.length c0_1]] ?_; (with_reducible refine (spec_voGood.calls k a0_0 _ _ l0_1 true _ (Kd.C_below HR0_1.out HB.out) HC0_1.out A2.out).mono ?_); rintro e w7 ⟨rfl, hb⟩; refine ⟨_, rfl, ?_⟩; replace BK101 := bB BK101 hb; replace HB := sB HB hb; (try clear hb); (try clear hcz6_0 hcz6_1 hfz6_0 hfz6_1); obtain ⟨hcz8_0, hcz8_1, hfz8_0, hfz8_1⟩ := zZ BK101) | ((with_reducible refine gate_callee (f := 141) rfl ?_); refine gL 14 Tryz.func141 #[.agg #[.int .i64 a0_0, .slice A0_1 l0_1.length c0_1]] ?_; (with_reducible refine (spec_voWins.calls k a0_0 _ _ l0_1 t103 _ (Kd.C_below HR0_1.out HB.out) HC0_1.out A4.out).mono ?_); rintro e w9 ⟨v104, rfl, ho0, hb⟩; refine ⟨_, rfl, ?_⟩; have HO105 := Aside0.mk (Kd.R_lower ho0 (below_size HB.out)); replace BK101 := bB BK101 hb; replace HB := sB HB hb; (try clear hb); (try clear ho0); (try clear hcz8_0 hcz8_1 hfz8_0 hfz8_1); obtain ⟨hcz10_0, hcz10_1, hfz10_0, hfz10_1⟩ := zZ BK101))
 go_loopg [5, 18] k (fun kq v5 v18 w' => ∃ (x5_1 : List (S60)) (x18_1 : Int), v18 = .int .i64 x18_1 ∧ Aside0 (spec_AgreeChances.l0 kq t103 x5_1 (l0_1.length : Int) x18_1 = some (r1, r2)) ∧ Aside0 (kq ≤ k) ∧ Aside0 (Kd.R Kd.bool 4 w' w.heap.size (fun _ => True) v104 t103) ∧ Aside0 (Kd.R k60 60 w' w.heap.size (fun _ => True) v5 x5_1) ∧ Aside0 (w'.heap[gb101]? = some (.cells #[.int .i64 a0_0, (.slice A0_1 l0_1.length c0_1)] 26 (0, 0))) ∧ Aside0 (Below w.heap.size w w'))
 case atStart => exact ⟨(([] : List (S60))), (0), gR, H', ⟨Nat.le_refl _⟩, ⟨by exact HO105.out⟩, ⟨by first | exact Kd.R_nil _ _ _ _ _ | exact Kd.N_nil _ _ _ _ _ | exact Kd.V_nil _ _ _ _ _ | exact Kd.Q_nil _ _ _ _ _ | exact Kd.S_nil _ _ _ _ _⟩, ⟨by exact BK101.out⟩, ⟨wB⟩⟩
 case round =>
  clear H'
  (try clear c1); (try clear p2); (try clear c3); (try clear c6); (try clear hcz10_0); (try clear hcz10_1); (try clear hfz10_0); (try clear hfz10_1)
  obtain ⟨x5_1, x18_1, rfl, HA, HK1, HO_4, HO_5, BK101, HB⟩ := hrel
  cases gk with
  | zero => exact absurd HA.out (by simp [spec_AgreeChances.l0])
  | succ k1 =>
   have H := HA.out
   clear HA
   simp only [spec_AgreeChances.l0] at H
   by_cases c11 : x18_1 < (l0_1.length : Int)
   rotate_left
   ·rw [if_neg c11] at H
    have c11b0 : decide (x18_1 < (l0_1.length : Int)) = false := decide_eq_false c11
    clear c11
    simp only [Option.some.injEq, Prod.mk.injEq] at H
    obtain ⟨rfl, rfl⟩ := H
    go_wp2
    go_ret2
    exact ⟨_, fR, by exact HO_5.out, wB⟩
   rw [if_pos c11] at H
   have c11b0 := decide_eq_true c11
   clear c11
   have H' := Aside0.mk H
   clear H
   obtain ⟨Ao12, co12, eo12⟩ := Kd.R_slice HO_4.out
   subst eo12
   go_wp2
   go_loopg [7, 23] k1 (fun kq v7 v23 w' => ∃ (x7_2 : Int) (x23_2 : Int), v7 = .int .i64 x7_2 ∧ v23 = .int .i64 x23_2 ∧ Aside0 (spec_AgreeChances.l1 kq t103 x5_1 x18_1 x7_2 (l0_1.length : Int) x18_1 t103 (t103.length : Int) x23_2 = some (r1, r2)) ∧ Aside0 (kq ≤ k1) ∧ Aside0 (Kd.R Kd.bool 4 w' w.heap.size (fun _ => True) (.slice Ao12 t103.length co12) t103) ∧ Aside0 (Kd.R k60 60 w' w.heap.size (fun _ => True) u5 x5_1) ∧ Aside0 (Kd.R Kd.bool 4 w' w.heap.size (fun _ => True) (.slice Ao12 t103.length co12) t103) ∧ Aside0 (w'.heap[gb101]? = some (.cells #[.int .i64 a0_0, (.slice A0_1 l0_1.length c0_1)] 26 (0, 0))) ∧ Aside0 (Below w.heap.size w w'))
   case atStart => exact ⟨(0), (0), gR, gR, H', ⟨Nat.le_refl _⟩, ⟨by exact HO_4.out⟩, ⟨by exact HO_5.out⟩, ⟨by exact HO_4.out⟩, ⟨by exact BK101.out⟩, ⟨wB⟩⟩
   case round =>
    clear H'
    (try clear c1); (try clear p2); (try clear c3); (try clear c6); (try clear c11); (try clear c11b0); (try clear c12); (try clear hcz10_0); (try clear hcz10_1); (try clear hfz10_0); (try clear hfz10_1); (try clear p2)
    obtain ⟨x7_2, x23_2, rfl, rfl, HA, HK2, HO_4, HO_5, HO_21, BK101, HB⟩ := hrel
    cases gk with
    | zero => exact absurd HA.out (by simp [spec_AgreeChances.l1])
    | succ k2 =>
     have H := HA.out
     clear HA
     simp only [spec_AgreeChances.l1] at H
     by_cases c13 : x23_2 < (t103.length : Int)
     rotate_left
     ·rw [if_neg c13] at H
      have c13b0 : decide (x23_2 < (t103.length : Int)) = false := decide_eq_false c13
      clear c13
      replace H := oB H
      obtain ⟨⟨t107, t108⟩, A190, H⟩ := H
      (try dsimp only at H)
      have A19 := Aside0.mk A190
      clear A190
      by_cases c20 : x5_1.length < 8796093022208
      rotate_left
      ·rw [if_neg c20] at H
       exact absurd H (by simp)
      rw [if_pos c20] at H
      have LMc20 := Aside0.mk c20
      clear c20
      obtain ⟨y109, hy109⟩ : ∃ y_ : List (S60), y_ = (x5_1 ++ [(⟨t107, t108⟩ : S60)]) := ⟨_, rfl⟩
      replace H : (spec_AgreeChances.l0 k2 t103 y109 (l0_1.length : Int) (wrap64 (x18_1 + 1))) = some (r1, r2) := by first | (rw [hy109]; with_reducible exact H) | (have H2_ := (Option.bind_some _ _).symm.trans H; rw [hy109]; with_reducible exact H2_) | (have H2_ := (Option.bind_some _ _).symm.trans H; with_reducible exact H2_) | with_reducible exact H | (rw [hy109]; exact H) | exact H
      have Ny109 := Aside0.mk hy109
      clear hy109
      have H' := Aside0.mk H
      clear H
      go_wp2_with (first | ((with_reducible refine gate_callee (f := 160) rfl ?_); refine gL 42 Tryz.func160 #[.int .i64 x7_2, .int .i64 (t103.length : Int)] ?_; (with_reducible refine (spec_pwShare.calls k2 x7_2 (t103.length : Int) t107 t108 _ A19.out).mono ?_); rintro e w21 ⟨rfl, hb⟩; refine ⟨_, rfl, ?_⟩; replace HO_4 := rB HO_4 hb; replace HO_5 := rB HO_5 hb; replace HO_21 := rB HO_21 hb; replace BK101 := bB BK101 hb; replace HB := sB HB hb; (try clear hb)) | ((with_reducible refine gate_builtin (b := .append) (xs := #[.tmp 38, .tmp 43]) rfl ?_); at_builtin; refine Kd.R_append k60 (w0 := w) w.heap.size rfl (.tmp 38) (.tmp 43) 56 60 (.agg #[(.int .i64 0), (.int .i64 0)]) 16 rfl Tryz.underlying56 info60 rfl (by decide) (by omega) u5 x5_1 (⟨t107, t108⟩ : S60) [.int .i64 t107, .int .i64 t108] (fun _ => True) (fun _ => False) rfl rfl ?aP (fun _ hk => hk.elim) ?aF ?aO ?aB ?aS ?aL ?_; (case aP => exact k60_mkM _ _ _ (⟨t107, t108⟩ : S60)); (case aB => exact HB.out); (case aF => exact (fun _ _ => trivial)); (case aO => exact HO_5.out); (case aS => exact (below_size HB.out)); (case aL => have := LMc20.out; omega); intro v110 w22 ho hb hg hat; rw [← Ny109.out] at ho; have HO111 := Aside0.mk (ho); replace HO_4 := Aside0.mk (Kd.R_over' HO_4.out (Kd.R_typed HO_5.out) (by decide) hg); replace HO_21 := Aside0.mk (Kd.R_over' HO_21.out (Kd.R_typed HO_5.out) (by decide) hg); replace BK101 := Aside0.mk (blk_grown (g := gb101) (o := .cells #[.int .i64 a0_0, .slice A0_1 l0_1.length c0_1] 26 (0, 0)) BK101.out hg (Kd.R_ne HO_5.out BK101.out (by decide))); replace HB := Aside0.mk (hb); clear ho hb hg hat))
      go_roundg k2
      case measure => have := HK1.out; have := HK2.out; omega
      case rel => exact ⟨(y109), (wrap64 (x18_1 + 1)), gR, H', ⟨by have := HK1.out; have := HK2.out; omega⟩, ⟨by exact HO_4.out⟩, ⟨by exact HO111.out⟩, ⟨by exact BK101.out⟩, ⟨wB⟩⟩
     rw [if_pos c13] at H
     have c13b0 := decide_eq_true c13
     clear c13
     by_cases c14 : 0 ≤ x23_2
     rotate_left
     ·rw [if_neg c14] at H
      exact absurd H (by simp)
     rw [if_pos c14] at H
     have c14b0 := decide_eq_true c14
     clear c14
     by_cases c15 : x23_2 < (t103.length : Int)
     rotate_left
     ·rw [if_neg c15] at H
      exact absurd H (by simp)
     rw [if_pos c15] at H
     have c15b0 := decide_eq_true c15
     clear c15
     by_cases c16 : 0 ≤ x18_1
     rotate_left
     ·rw [if_neg c16] at H
      exact absurd H (by simp)
     rw [if_pos c16] at H
     have c16b0 := eq_true c16
     have c16b1 := decide_eq_true c16
     clear c16
     obtain ⟨ji17, hji17⟩ : ∃ j_ : Int, (shr .i64 x23_2 x18_1) = j_ := ⟨_, rfl⟩
     replace H : (if ((rdOf false t103 x23_2) == ((Int.tmod (ji17) 2) == 1)) = true then (spec_AgreeChances.l1 k2 t103 x5_1 x18_1 (wrap64 (x7_2 + 1)) (l0_1.length : Int) x18_1 t103 (t103.length : Int) (wrap64 (x23_2 + 1))) else (spec_AgreeChances.l1 k2 t103 x5_1 x18_1 x7_2 (l0_1.length : Int) x18_1 t103 (t103.length : Int) (wrap64 (x23_2 + 1)))) = some (r1, r2) := by first | (rw [hji17] at H; exact H) | (simp only [hji17] at H ⊢; exact H)
     have hji17_ : (x23_2 / 2 ^ min x18_1.toNat 64) = ji17 := hji17
     have hji17z : x18_1 ≤ 64 → (x23_2 / 2 ^ x18_1.toNat) = ji17 := shr_small hji17
     by_cases c18 : ((rdOf false t103 x23_2) == ((Int.tmod (ji17) 2) == 1)) = true
     ·rw [if_pos c18] at H
      have c18b0 : ((rdOf false t103 x23_2) == ((Int.tmod (ji17) 2) == 1)) = true := c18
      (try (have c18b1 : decide ((rdOf false t103 x23_2) = ((Int.tmod (ji17) 2) == 1)) = true := by simpa using c18))
      (try (have c18b2 : ((rdOf false t103 x23_2) == ((Int.tmod (ji17) 2) == 1)) = true := by simpa using c18))
      clear c18
      have H' := Aside0.mk H
      clear H
      have p106 : 0 ≤ (x23_2 : Int) := oD
      have q106 : x23_2 < (t103.length : Int) := oD
      obtain ⟨ad106, e106, hx106_0⟩ := Kd.at_bool (Kd.R_reads' HO_21.out).2.2 x23_2 p106 q106
      cases e106
      replace p106 := eq_true p106
      replace q106 := eq_true q106
      go_wp2
      go_roundg k2
      case measure => have := HK1.out; have := HK2.out; omega
      case rel => exact ⟨(wrap64 (x7_2 + 1)), (wrap64 (x23_2 + 1)), gR, gR, H', ⟨by have := HK1.out; have := HK2.out; omega⟩, ⟨by exact HO_4.out⟩, ⟨by exact HO_5.out⟩, ⟨by exact HO_21.out⟩, ⟨by exact BK101.out⟩, ⟨wB⟩⟩
     rw [if_neg c18] at H
     have c18b0 : ((rdOf false t103 x23_2) == ((Int.tmod (ji17) 2) == 1)) = false := by simpa using c18
     (try (have c18b1 : decide ((rdOf false t103 x23_2) = ((Int.tmod (ji17) 2) == 1)) = false := by simpa using c18))
     (try (have c18b2 : ((rdOf false t103 x23_2) == ((Int.tmod (ji17) 2) == 1)) = false := by simpa using c18))
     (try (have c18b3 : ¬ ((rdOf false t103 x23_2) = ((Int.tmod (ji17) 2) == 1)) := by simpa using c18))
     clear c18
     have H' := Aside0.mk H
     clear H
     have p106 : 0 ≤ (x23_2 : Int) := oD
     have q106 : x23_2 < (t103.length : Int) := oD
     obtain ⟨ad106, e106, hx106_0⟩ := Kd.at_bool (Kd.R_reads' HO_21.out).2.2 x23_2 p106 q106
     cases e106
     replace p106 := eq_true p106
     replace q106 := eq_true q106
     go_wp2
     go_roundg k2
     case measure => have := HK1.out; have := HK2.out; omega
     case rel => exact ⟨(x7_2), (wrap64 (x23_2 + 1)), gR, gR, H', ⟨by have := HK1.out; have := HK2.out; omega⟩, ⟨by exact HO_4.out⟩, ⟨by exact HO_5.out⟩, ⟨by exact HO_21.out⟩, ⟨by exact BK101.out⟩, ⟨wB⟩⟩
def laws_zSame.l0 : Nat → List Int → List Int → Int → Int → Option (Bool)
 | 0, _, _, _, _ => none
 | k + 1, x0, x1, x12, x13 => if x13 < x12 then (if 0 ≤ x13 then (if x13 < (x0.length : Int) then (if x13 < (x1.length : Int) then (if (rd x0 x13) = (rd x1 x13) then (laws_zSame.l0 k x0 x1 x12 (wrap64 (x13 + 1))) else (some false)) else (none)) else (none)) else (none)) else (some true)
def laws_zSame.f (k : Nat) (l0 : List Int) (l1 : List Int) : Option (Bool) := if (l0.length : Int) = (l1.length : Int) then (laws_zSame.l0 k l0 l1 (l0.length : Int) 0) else (some false)
theorem laws_zSame.calls (k : Nat) (A0 : Option Addr) (c0 : Nat) (l0 : List Int) (A1 : Option Addr) (c1 : Nat) (l1 : List Int) (r : Bool) (w : World) (hr0 : Kd.C (Kd.int .i64) w A0 l0.length l0) (hc0 : l0.length ≤ c0) (hr1 : Kd.C (Kd.int .i64) w A1 l1.length l1) (hc1 : l1.length ≤ c1) (h : laws_zSame.f k l0 l1 = some r) :
  Calls Tryz.prog 70 #[.slice A0 l0.length c0, .slice A1 l1.length c1] w fun e w' => e = .returned (.bool r) ∧ Drawn0 w w' := by
 have HR0 := Aside0.mk hr0
 have HC0 := Aside0.mk hc0
 clear hr0 hc0
 have HR1 := Aside0.mk hr1
 have HC1 := Aside0.mk hc1
 clear hr1 hc1
 have H := h
 unfold laws_zSame.f at H
 clear h
 by_cases c3 : (l0.length : Int) = (l1.length : Int)
 rotate_left
 ·rw [if_neg c3] at H
  have c3b0 : ((l0.length : Int) == (l1.length : Int)) = false := beq_eq_false_iff_ne.mpr c3
  have c3b1 : ((l0.length : Int) != (l1.length : Int)) = true := bne_iff_ne.mpr c3
  have c3b2 : (l0.length == l1.length) = false := by first | simpa using c3 | (simp at c3 ⊢; omega)
  obtain rfl := Option.some.inj H
  go_enter Tryz.func70, Tryz.ntmps70
  go_wp2
  repeat (go_quiet (fail); try go_wp2)
  go_ret
  exact ⟨by first | rfl | (simp; done) | (simp [*]; done), dS⟩
 rw [if_pos c3] at H
 have c3b0 : ((l0.length : Int) == (l1.length : Int)) = true := beq_iff_eq.mpr c3
 have c3b1 : ((l0.length : Int) != (l1.length : Int)) = false := bne_eq_false_iff_eq.mpr c3
 have c3b2 : (l0.length == l1.length) = true := by first | simpa using c3 | (simp at c3 ⊢; omega)
 clear c3
 have H' := Aside0.mk H
 clear H
 go_enter Tryz.func70, Tryz.ntmps70
 go_wp2
 repeat (go_quiet (fail); try go_wp2)
 go_loopg [13] k (fun kq v13 w' => ∃ (x13_1 : Int), v13 = .int .i64 x13_1 ∧ Aside0 (laws_zSame.l0 kq l0 l1 (l0.length : Int) x13_1 = some r) ∧ Aside0 (kq ≤ k) ∧ Drawn0 w w')
 case atStart => exact ⟨(0), gR, H', ⟨Nat.le_refl _⟩, dS⟩
 case round =>
  clear H'
  (try clear c1); (try clear p2); (try clear c3); (try clear c3b0); (try clear c3b1); (try clear c3b2)
  obtain ⟨x13_1, rfl, HA, HK1, ⟨m1, rfl⟩⟩ := hrel
  cases gk with
  | zero => exact absurd HA.out (by simp [laws_zSame.l0])
  | succ k1 =>
   have H := HA.out
   clear HA
   simp only [laws_zSame.l0] at H
   by_cases c4 : x13_1 < (l0.length : Int)
   rotate_left
   ·rw [if_neg c4] at H
    have c4b0 : decide (x13_1 < (l0.length : Int)) = false := decide_eq_false c4
    clear c4
    obtain rfl := Option.some.inj H
    go_wp2
    repeat (go_quiet (fail); try go_wp2)
    go_ret
    exact ⟨by first | rfl | (simp; done) | (simp [*]; done), dS⟩
   rw [if_pos c4] at H
   have c4b0 := decide_eq_true c4
   clear c4
   by_cases c5 : 0 ≤ x13_1
   rotate_left
   ·rw [if_neg c5] at H
    exact absurd H (by simp)
   rw [if_pos c5] at H
   have c5b0 := decide_eq_true c5
   clear c5
   by_cases c6 : x13_1 < (l0.length : Int)
   rotate_left
   ·rw [if_neg c6] at H
    exact absurd H (by simp)
   rw [if_pos c6] at H
   have c6b0 := decide_eq_true c6
   clear c6
   by_cases c7 : x13_1 < (l1.length : Int)
   rotate_left
   ·rw [if_neg c7] at H
    exact absurd H (by simp)
   rw [if_pos c7] at H
   have c7b0 := decide_eq_true c7
   clear c7
   by_cases c8 : (rd l0 x13_1) = (rd l1 x13_1)
   rotate_left
   ·rw [if_neg c8] at H
    have c8b0 : ((rd l0 x13_1) == (rd l1 x13_1)) = false := beq_eq_false_iff_ne.mpr c8
    have c8b1 : ((rd l0 x13_1) != (rd l1 x13_1)) = true := bne_iff_ne.mpr c8
    obtain rfl := Option.some.inj H
    have p101 : 0 ≤ (x13_1 : Int) := oD
    have q101 : x13_1 < (l0.length : Int) := oD
    obtain ⟨ad101, e101, hx101_0⟩ := Kd.at_int HR0.out x13_1 p101 q101
    cases e101
    replace p101 := eq_true p101
    replace q101 := eq_true q101
    have p102 : 0 ≤ (x13_1 : Int) := oD
    have q102 : x13_1 < (l1.length : Int) := oD
    obtain ⟨ad102, e102, hx102_0⟩ := Kd.at_int HR1.out x13_1 p102 q102
    cases e102
    replace p102 := eq_true p102
    replace q102 := eq_true q102
    go_wp2
    repeat (go_quiet (fail); try go_wp2)
    go_ret
    exact ⟨by first | rfl | (simp; done) | (simp [*]; done), dS⟩
   rw [if_pos c8] at H
   have c8b0 : ((rd l0 x13_1) == (rd l1 x13_1)) = true := beq_iff_eq.mpr c8
   have c8b1 : ((rd l0 x13_1) != (rd l1 x13_1)) = false := bne_eq_false_iff_eq.mpr c8
   clear c8
   have H' := Aside0.mk H
   clear H
   have p101 : 0 ≤ (x13_1 : Int) := oD
   have q101 : x13_1 < (l0.length : Int) := oD
   obtain ⟨ad101, e101, hx101_0⟩ := Kd.at_int HR0.out x13_1 p101 q101
   cases e101
   replace p101 := eq_true p101
   replace q101 := eq_true q101
   have p102 : 0 ≤ (x13_1 : Int) := oD
   have q102 : x13_1 < (l1.length : Int) := oD
   obtain ⟨ad102, e102, hx102_0⟩ := Kd.at_int HR1.out x13_1 p102 q102
   cases e102
   replace p102 := eq_true p102
   replace q102 := eq_true q102
   go_wp2
   repeat (go_quiet (fail); try go_wp2)
   go_roundg k1
   case measure => have := HK1.out; omega
   case rel => exact ⟨(wrap64 (x13_1 + 1)), gR, H', ⟨by have := HK1.out; omega⟩, dS⟩
end Go.Proofs.YtamfpkefnhcngaaGreat.Q
namespace Go.Proofs.YtamfpkefnhcngaaGreat.Q
open Go.RowKit Go.Proofs.YtamfpkefnhcngaaGreatX Go.Proofs.YtamfpkefnhcngaaGreatY Go.Proofs.YtamfpkefnhcngaaGreatX Go.Proofs.YtamfpkefnhcngaaGreatW.PrintWords Go.Proofs.YtamfpkefnhcngaaGreatW.PrintLast Go.Proofs.YtamfpkefnhcngaaGreatW.PrintMore
attribute [local go_sem] max2_int min2_int max_two min_two max_three min_three max_four min_four   -- for this text's walks alone
set_option linter.unusedVariables false
set_option linter.unusedSimpArgs false
attribute [local go_sem high] eqA60
def laws_zShares.l0 : Nat → List (S60) → List (S60) → Int → Int → Option (Bool)
 | 0, _, _, _, _ => none
 | k + 1, x0, x1, x12, x13 => if x13 < x12 then (if 0 ≤ x13 then (if x13 < (x0.length : Int) then (if x13 < (x1.length : Int) then (if (!(((rd_T60 x0 x13).f0) == ((rd_T60 x1 x13).f0)) || (!(((rd_T60 x0 x13).f1) == ((rd_T60 x1 x13).f1)))) = true then (some false) else (laws_zShares.l0 k x0 x1 x12 (wrap64 (x13 + 1)))) else (none)) else (none)) else (none)) else (some true)
def laws_zShares.f (k : Nat) (l0 : List (S60)) (l1 : List (S60)) : Option (Bool) := if (l0.length : Int) = (l1.length : Int) then (laws_zShares.l0 k l0 l1 (l0.length : Int) 0) else (some false)
theorem laws_zShares.calls (k : Nat) (A0 : Option Addr) (c0 : Nat) (l0 : List (S60)) (A1 : Option Addr) (c1 : Nat) (l1 : List (S60)) (r : Bool) (w : World) (hr0 : Kd.C k60 w A0 l0.length l0) (hc0 : l0.length ≤ c0) (hr1 : Kd.C k60 w A1 l1.length l1) (hc1 : l1.length ≤ c1) (h : laws_zShares.f k l0 l1 = some r) :
  Calls Tryz.prog 71 #[.slice A0 l0.length c0, .slice A1 l1.length c1] w fun e w' => e = .returned (.bool r) ∧ Drawn0 w w' := by
 have hu60 := Tryz.underlying60
 have HR0 := Aside0.mk hr0
 have HC0 := Aside0.mk hc0
 clear hr0 hc0
 have HR1 := Aside0.mk hr1
 have HC1 := Aside0.mk hc1
 clear hr1 hc1
 have H := h
 unfold laws_zShares.f at H
 clear h
 by_cases c3 : (l0.length : Int) = (l1.length : Int)
 rotate_left
 ·rw [if_neg c3] at H
  have c3b0 : ((l0.length : Int) == (l1.length : Int)) = false := beq_eq_false_iff_ne.mpr c3
  have c3b1 : ((l0.length : Int) != (l1.length : Int)) = true := bne_iff_ne.mpr c3
  have c3b2 : (l0.length == l1.length) = false := by first | simpa using c3 | (simp at c3 ⊢; omega)
  obtain rfl := Option.some.inj H
  go_enter Tryz.func71, Tryz.ntmps71
  go_wp2
  repeat (go_quiet (fail); try go_wp2)
  go_ret
  exact ⟨by first | rfl | (simp; done) | (simp [*]; done), dS⟩
 rw [if_pos c3] at H
 have c3b0 : ((l0.length : Int) == (l1.length : Int)) = true := beq_iff_eq.mpr c3
 have c3b1 : ((l0.length : Int) != (l1.length : Int)) = false := bne_eq_false_iff_eq.mpr c3
 have c3b2 : (l0.length == l1.length) = true := by first | simpa using c3 | (simp at c3 ⊢; omega)
 clear c3
 have H' := Aside0.mk H
 clear H
 go_enter Tryz.func71, Tryz.ntmps71
 go_wp2
 repeat (go_quiet (fail); try go_wp2)
 go_loopg [13] k (fun kq v13 w' => ∃ (x13_1 : Int), v13 = .int .i64 x13_1 ∧ Aside0 (laws_zShares.l0 kq l0 l1 (l0.length : Int) x13_1 = some r) ∧ Aside0 (kq ≤ k) ∧ Drawn0 w w')
 case atStart => exact ⟨(0), gR, H', ⟨Nat.le_refl _⟩, dS⟩
 case round =>
  clear H'
  (try clear c1); (try clear p2); (try clear c3); (try clear c3b0); (try clear c3b1); (try clear c3b2)
  obtain ⟨x13_1, rfl, HA, HK1, ⟨m1, rfl⟩⟩ := hrel
  cases gk with
  | zero => exact absurd HA.out (by simp [laws_zShares.l0])
  | succ k1 =>
   have H := HA.out
   clear HA
   simp only [laws_zShares.l0] at H
   by_cases c4 : x13_1 < (l0.length : Int)
   rotate_left
   ·rw [if_neg c4] at H
    have c4b0 : decide (x13_1 < (l0.length : Int)) = false := decide_eq_false c4
    clear c4
    obtain rfl := Option.some.inj H
    go_wp2
    repeat (go_quiet (fail); try go_wp2)
    go_ret
    exact ⟨by first | rfl | (simp; done) | (simp [*]; done), dS⟩
   rw [if_pos c4] at H
   have c4b0 := decide_eq_true c4
   clear c4
   by_cases c5 : 0 ≤ x13_1
   rotate_left
   ·rw [if_neg c5] at H
    exact absurd H (by simp)
   rw [if_pos c5] at H
   have c5b0 := decide_eq_true c5
   clear c5
   by_cases c6 : x13_1 < (l0.length : Int)
   rotate_left
   ·rw [if_neg c6] at H
    exact absurd H (by simp)
   rw [if_pos c6] at H
   have c6b0 := decide_eq_true c6
   clear c6
   by_cases c7 : x13_1 < (l1.length : Int)
   rotate_left
   ·rw [if_neg c7] at H
    exact absurd H (by simp)
   rw [if_pos c7] at H
   have c7b0 := decide_eq_true c7
   clear c7
   by_cases c8 : (!(((rd_T60 l0 x13_1).f0) == ((rd_T60 l1 x13_1).f0)) || (!(((rd_T60 l0 x13_1).f1) == ((rd_T60 l1 x13_1).f1)))) = true
   ·rw [if_pos c8] at H
    have c8b0 : (!(((rd_T60 l0 x13_1).f0) == ((rd_T60 l1 x13_1).f0)) || (!(((rd_T60 l0 x13_1).f1) == ((rd_T60 l1 x13_1).f1)))) = true := c8
    clear c8
    obtain rfl := Option.some.inj H
    have p101 : 0 ≤ (x13_1 : Int) := oD
    have q101 : x13_1 < (l0.length : Int) := oD
    obtain ⟨ad101, e101, hx101_0, hx101_1⟩ := at_T60 HR0.out x13_1 p101 q101
    cases e101
    replace p101 := eq_true p101
    replace q101 := eq_true q101
    have p102 : 0 ≤ (x13_1 : Int) := oD
    have q102 : x13_1 < (l1.length : Int) := oD
    obtain ⟨ad102, e102, hx102_0, hx102_1⟩ := at_T60 HR1.out x13_1 p102 q102
    cases e102
    replace p102 := eq_true p102
    replace q102 := eq_true q102
    go_wp2
    repeat (go_quiet (fail); try go_wp2)
    go_ret
    exact ⟨by first | rfl | (simp; done) | (simp [*]; done), dS⟩
   rw [if_neg c8] at H
   have c8b0 : (!(((rd_T60 l0 x13_1).f0) == ((rd_T60 l1 x13_1).f0)) || (!(((rd_T60 l0 x13_1).f1) == ((rd_T60 l1 x13_1).f1)))) = false := by simpa using c8
   clear c8
   have H' := Aside0.mk H
   clear H
   have p101 : 0 ≤ (x13_1 : Int) := oD
   have q101 : x13_1 < (l0.length : Int) := oD
   obtain ⟨ad101, e101, hx101_0, hx101_1⟩ := at_T60 HR0.out x13_1 p101 q101
   cases e101
   replace p101 := eq_true p101
   replace q101 := eq_true q101
   have p102 : 0 ≤ (x13_1 : Int) := oD
   have q102 : x13_1 < (l1.length : Int) := oD
   obtain ⟨ad102, e102, hx102_0, hx102_1⟩ := at_T60 HR1.out x13_1 p102 q102
   cases e102
   replace p102 := eq_true p102
   replace q102 := eq_true q102
   go_wp2
   repeat (go_quiet (fail); try go_wp2)
   go_roundg k1
   case measure => have := HK1.out; omega
   case rel => exact ⟨(wrap64 (x13_1 + 1)), gR, H', ⟨by have := HK1.out; omega⟩, dS⟩
end Go.Proofs.YtamfpkefnhcngaaGreat.Q
namespace Go.Proofs.YtamfpkefnhcngaaGreat.Q
open Go.RowKit Go.Proofs.YtamfpkefnhcngaaGreatX Go.Proofs.YtamfpkefnhcngaaGreatY Go.Proofs.YtamfpkefnhcngaaGreatX Go.Proofs.YtamfpkefnhcngaaGreatW.PrintWords Go.Proofs.YtamfpkefnhcngaaGreatW.PrintLast Go.Proofs.YtamfpkefnhcngaaGreatW.PrintMore
attribute [local go_sem] max2_int min2_int max_two min_two max_three min_three max_four min_four   -- for this text's walks alone
set_option linter.unusedVariables false
set_option linter.unusedSimpArgs false
def laws_zIs.f (a0_0 : Int) (a0_1 : Int) (a1 : Int) (a2 : Int) : Option (Bool) := if a0_1 > 0 then (some ((wrap64 (a0_0 * a2)) == (wrap64 (a1 * a0_1)))) else (some false)
theorem laws_zIs.calls (a0_0 : Int) (a0_1 : Int) (a1 : Int) (a2 : Int) (r : Bool) (w : World) (h : laws_zIs.f a0_0 a0_1 a1 a2 = some r) :
  Calls Tryz.prog 72 #[.agg #[.int .i64 a0_0, .int .i64 a0_1], .int .i64 a1, .int .i64 a2] w fun e w' => e = .returned (.bool r) ∧ Below w.heap.size w w' := by
 have hu60 := Tryz.underlying60
 have HB := Aside0.mk (Below.refl w.heap.size w)
 have H := h
 unfold laws_zIs.f at H
 clear h
 by_cases c4 : a0_1 > 0
 ·rw [if_pos c4] at H
  have c4b0 : decide (0 < a0_1) = true := decide_eq_true c4
  clear c4
  obtain rfl := Option.some.inj H
  go_enter Tryz.func72, Tryz.ntmps72
  go_wp2_with (first | ((with_reducible refine gate_dst (N := 3) rfl ?_); refine xE (N := 3) (cs := #[.int .i64 a0_0, .int .i64 a0_1]) (t := 60) ?_; intro gb101 hg w5 BK101 hb; have GW101 := gS hg HB; have GE101 := gS hg HB; replace HB := sB HB hb; clear hb hg; obtain ⟨hcz6_0, hcz6_1, hfz6_0, hfz6_1⟩ := zZ BK101))
  go_ret
  exact ⟨fR, wB⟩
 rw [if_neg c4] at H
 have c4b0 : decide (0 < a0_1) = false := decide_eq_false c4
 clear c4
 obtain rfl := Option.some.inj H
 go_enter Tryz.func72, Tryz.ntmps72
 go_wp2_with (first | ((with_reducible refine gate_dst (N := 3) rfl ?_); refine xE (N := 3) (cs := #[.int .i64 a0_0, .int .i64 a0_1]) (t := 60) ?_; intro gb101 hg w7 BK101 hb; have GW101 := gS hg HB; have GE101 := gS hg HB; replace HB := sB HB hb; clear hb hg; (try clear hcz6_0 hcz6_1 hfz6_0 hfz6_1); obtain ⟨hcz8_0, hcz8_1, hfz8_0, hfz8_1⟩ := zZ BK101))
 go_ret
 exact ⟨fR, wB⟩
def laws_zSum.l0 : Nat → Int → List Int → Int → Int → Option (Int)
 | 0, _, _, _, _ => none
 | k + 1, x3, x6, x7, x8 => if x8 < x7 then (if 0 ≤ x8 then (if x8 < (x6.length : Int) then (laws_zSum.l0 k (wrap64 (x3 + (rd x6 x8))) x6 x7 (wrap64 (x8 + 1))) else (none)) else (none)) else (some x3)
def laws_zSum.f (k : Nat) (l0 : List Int) : Option (Int) := laws_zSum.l0 k 0 l0 (l0.length : Int) 0
theorem laws_zSum.calls (k : Nat) (A0 : Option Addr) (c0 : Nat) (l0 : List Int) (r : Int) (w : World) (hr0 : Kd.C (Kd.int .i64) w A0 l0.length l0) (hc0 : l0.length ≤ c0) (h : laws_zSum.f k l0 = some r) :
  Calls Tryz.prog 73 #[.slice A0 l0.length c0] w fun e w' => e = .returned (.int .i64 r) ∧ Drawn0 w w' := by
 have HR0 := Aside0.mk hr0
 have HC0 := Aside0.mk hc0
 clear hr0 hc0
 have H := h
 unfold laws_zSum.f at H
 clear h
 have H' := Aside0.mk H
 clear H
 go_enter Tryz.func73, Tryz.ntmps73
 go_wp2
 go_loopg [3, 8] k (fun kq v3 v8 w' => ∃ (x3_1 : Int) (x8_1 : Int), v3 = .int .i64 x3_1 ∧ v8 = .int .i64 x8_1 ∧ Aside0 (laws_zSum.l0 kq x3_1 l0 (l0.length : Int) x8_1 = some r) ∧ Aside0 (kq ≤ k) ∧ Drawn0 w w')
 case atStart => exact ⟨(0), (0), gR, gR, H', ⟨Nat.le_refl _⟩, dS⟩
 case round =>
  clear H'
  obtain ⟨x3_1, x8_1, rfl, rfl, HA, HK1, ⟨m1, rfl⟩⟩ := hrel
  cases gk with
  | zero => exact absurd HA.out (by simp [laws_zSum.l0])
  | succ k1 =>
   have H := HA.out
   clear HA
   simp only [laws_zSum.l0] at H
   by_cases c2 : x8_1 < (l0.length : Int)
   rotate_left
   ·rw [if_neg c2] at H
    have c2b0 : decide (x8_1 < (l0.length : Int)) = false := decide_eq_false c2
    clear c2
    obtain rfl := Option.some.inj H
    go_wp2
    go_ret
    exact ⟨by first | rfl | (simp; done) | (simp [*]; done), dS⟩
   rw [if_pos c2] at H
   have c2b0 := decide_eq_true c2
   clear c2
   by_cases c3 : 0 ≤ x8_1
   rotate_left
   ·rw [if_neg c3] at H
    exact absurd H (by simp)
   rw [if_pos c3] at H
   have c3b0 := decide_eq_true c3
   clear c3
   by_cases c4 : x8_1 < (l0.length : Int)
   rotate_left
   ·rw [if_neg c4] at H
    exact absurd H (by simp)
   rw [if_pos c4] at H
   have c4b0 := decide_eq_true c4
   clear c4
   have H' := Aside0.mk H
   clear H
   have p101 : 0 ≤ (x8_1 : Int) := oD
   have q101 : x8_1 < (l0.length : Int) := oD
   obtain ⟨ad101, e101, hx101_0⟩ := Kd.at_int HR0.out x8_1 p101 q101
   cases e101
   replace p101 := eq_true p101
   replace q101 := eq_true q101
   go_wp2
   go_roundg k1
   case measure => have := HK1.out; omega
   case rel => exact ⟨(wrap64 (x3_1 + (rd l0 x8_1))), (wrap64 (x8_1 + 1)), gR, gR, H', ⟨by have := HK1.out; omega⟩, dS⟩
def laws_zHas.l0 : Nat → Int → List Int → Int → Int → Option (Bool)
 | 0, _, _, _, _ => none
 | k + 1, x1, x7, x8, x9 => if x9 < x8 then (if 0 ≤ x9 then (if x9 < (x7.length : Int) then (if (rd x7 x9) = x1 then (some true) else (laws_zHas.l0 k x1 x7 x8 (wrap64 (x9 + 1)))) else (none)) else (none)) else (some false)
def laws_zHas.f (k : Nat) (l0 : List Int) (a1 : Int) : Option (Bool) := laws_zHas.l0 k a1 l0 (l0.length : Int) 0
theorem laws_zHas.calls (k : Nat) (A0 : Option Addr) (c0 : Nat) (l0 : List Int) (a1 : Int) (r : Bool) (w : World) (hr0 : Kd.C (Kd.int .i64) w A0 l0.length l0) (hc0 : l0.length ≤ c0) (h : laws_zHas.f k l0 a1 = some r) :
  Calls Tryz.prog 74 #[.slice A0 l0.length c0, .int .i64 a1] w fun e w' => e = .returned (.bool r) ∧ Drawn0 w w' := by
 have HR0 := Aside0.mk hr0
 have HC0 := Aside0.mk hc0
 clear hr0 hc0
 have H := h
 unfold laws_zHas.f at H
 clear h
 have H' := Aside0.mk H
 clear H
 go_enter Tryz.func74, Tryz.ntmps74
 go_wp2
 go_loopg [9] k (fun kq v9 w' => ∃ (x9_1 : Int), v9 = .int .i64 x9_1 ∧ Aside0 (laws_zHas.l0 kq a1 l0 (l0.length : Int) x9_1 = some r) ∧ Aside0 (kq ≤ k) ∧ Drawn0 w w')
 case atStart => exact ⟨(0), gR, H', ⟨Nat.le_refl _⟩, dS⟩
 case round =>
  clear H'
  (try clear p2)
  obtain ⟨x9_1, rfl, HA, HK1, ⟨m1, rfl⟩⟩ := hrel
  cases gk with
  | zero => exact absurd HA.out (by simp [laws_zHas.l0])
  | succ k1 =>
   have H := HA.out
   clear HA
   simp only [laws_zHas.l0] at H
   by_cases c3 : x9_1 < (l0.length : Int)
   rotate_left
   ·rw [if_neg c3] at H
    have c3b0 : decide (x9_1 < (l0.length : Int)) = false := decide_eq_false c3
    clear c3
    obtain rfl := Option.some.inj H
    go_wp2
    go_ret
    exact ⟨by first | rfl | (simp; done) | (simp [*]; done), dS⟩
   rw [if_pos c3] at H
   have c3b0 := decide_eq_true c3
   clear c3
   by_cases c4 : 0 ≤ x9_1
   rotate_left
   ·rw [if_neg c4] at H
    exact absurd H (by simp)
   rw [if_pos c4] at H
   have c4b0 := decide_eq_true c4
   clear c4
   by_cases c5 : x9_1 < (l0.length : Int)
   rotate_left
   ·rw [if_neg c5] at H
    exact absurd H (by simp)
   rw [if_pos c5] at H
   have c5b0 := decide_eq_true c5
   clear c5
   by_cases c6 : (rd l0 x9_1) = a1
   ·rw [if_pos c6] at H
    have c6b0 : ((rd l0 x9_1) == a1) = true := beq_iff_eq.mpr c6
    have c6b1 : ((rd l0 x9_1) != a1) = false := bne_eq_false_iff_eq.mpr c6
    clear c6
    obtain rfl := Option.some.inj H
    have p101 : 0 ≤ (x9_1 : Int) := oD
    have q101 : x9_1 < (l0.length : Int) := oD
    obtain ⟨ad101, e101, hx101_0⟩ := Kd.at_int HR0.out x9_1 p101 q101
    cases e101
    replace p101 := eq_true p101
    replace q101 := eq_true q101
    go_wp2
    go_ret
    exact ⟨by first | rfl | (simp; done) | (simp [*]; done), dS⟩
   rw [if_neg c6] at H
   have c6b0 : ((rd l0 x9_1) == a1) = false := beq_eq_false_iff_ne.mpr c6
   have c6b1 : ((rd l0 x9_1) != a1) = true := bne_iff_ne.mpr c6
   have H' := Aside0.mk H
   clear H
   have p101 : 0 ≤ (x9_1 : Int) := oD
   have q101 : x9_1 < (l0.length : Int) := oD
   obtain ⟨ad101, e101, hx101_0⟩ := Kd.at_int HR0.out x9_1 p101 q101
   cases e101
   replace p101 := eq_true p101
   replace q101 := eq_true q101
   go_wp2
   go_roundg k1
   case measure => have := HK1.out; omega
   case rel => exact ⟨(wrap64 (x9_1 + 1)), gR, H', ⟨by have := HK1.out; omega⟩, dS⟩
def impl_isMember.f (k : Nat) (a0_0 : Int) (l0_1 : List Int) (a1 : Int) : Option (Bool) := (impl_IsCommittee.f k a0_0 l0_1).bind fun t102 => (if t102 = true then ((impl_within.f a1 0 (wrap64 ((l0_1.length : Int) - 1))).bind fun t103 => (some t103)) else (some false))
theorem impl_isMember.calls (k : Nat) (a0_0 : Int) (A0_1 : Option Addr) (c0_1 : Nat) (l0_1 : List Int) (a1 : Int) (r : Bool) (w : World) (hr0_1 : Kd.C (Kd.int .i64) w A0_1 l0_1.length l0_1) (hc0_1 : l0_1.length ≤ c0_1) (h : impl_isMember.f k a0_0 l0_1 a1 = some r) :
  Calls Tryz.prog 165 #[.agg #[.int .i64 a0_0, .slice A0_1 l0_1.length c0_1], .int .i64 a1] w fun e w' => e = .returned (.bool r) ∧ Below w.heap.size w w' := by
 have hu26 := Tryz.underlying26
 have HR0_1 := Aside0.mk hr0_1
 have HC0_1 := Aside0.mk hc0_1
 clear hr0_1 hc0_1
 have HB := Aside0.mk (Below.refl w.heap.size w)
 have H := h
 unfold impl_isMember.f at H
 clear h
 replace H := oA H
 obtain ⟨t102, A3, H⟩ := H
 (try dsimp only at H)
 by_cases c4 : t102 = true
 rotate_left
 ·replace c4 := Bool.eq_false_iff.mpr c4
  subst c4
  replace H := iF H
  obtain rfl := Option.some.inj H
  go_enter Tryz.func165, Tryz.ntmps165
  go_wp2_with (first | ((with_reducible refine gate_dst (N := 2) rfl ?_); (try (refine gate_guard (by rfl) ?_; dsimp only)); refine xE (N := 2) (cs := #[.int .i64 a0_0, .slice A0_1 l0_1.length c0_1]) (t := 26) ?_; intro gb101 hg w10 BK101 hb; have GW101 : Aside0 (w.heap.size ≤ gb101) := gT hg; have GE101 : Aside0 (w.heap.size ≤ gb101) := gT hg; replace HB := sQ hb; clear hb hg; (try clear hcz9_0 hcz9_1 hfz9_0 hfz9_1); obtain ⟨hcz11_0, hcz11_1, hfz11_0, hfz11_1⟩ := zZ BK101) | ((with_reducible refine gate_callee (f := 20) rfl ?_); refine gL 6 Tryz.func20 #[.agg #[.int .i64 a0_0, .slice A0_1 l0_1.length c0_1]] ?_; (with_reducible refine (impl_IsCommittee.calls k a0_0 _ _ l0_1 false _ ?side1 ?side2 A3.out).mono ?_); (case side1 => have hx_ := (Kd.C_below HR0_1.out HB.out); exact cC); (case side2 => exact HC0_1.out); rintro e w12 ⟨rfl, hb⟩; refine ⟨_, rfl, ?_⟩; replace BK101 := bP BK101 hb; replace HB := sQ hb; (try clear hb)))
  go_ret
  exact ⟨fR, wB⟩
 subst c4
 replace H := iT H
 replace H := oA H
 obtain ⟨t103, A5, H⟩ := H
 (try dsimp only at H)
 obtain rfl := Option.some.inj H
 go_enter Tryz.func165, Tryz.ntmps165
 go_wp2_with (first | ((with_reducible refine gate_dst (N := 2) rfl ?_); (try (refine gate_guard (by rfl) ?_; dsimp only)); refine xE (N := 2) (cs := #[.int .i64 a0_0, .slice A0_1 l0_1.length c0_1]) (t := 26) ?_; intro gb101 hg w6 BK101 hb; have GW101 := gS hg HB; have GE101 := gS hg HB; replace HB := sB HB hb; clear hb hg; obtain ⟨hcz7_0, hcz7_1, hfz7_0, hfz7_1⟩ := zZ BK101) | ((with_reducible refine gate_callee (f := 20) rfl ?_); refine gL 6 Tryz.func20 #[.agg #[.int .i64 a0_0, .slice A0_1 l0_1.length c0_1]] ?_; (with_reducible refine (impl_IsCommittee.calls k a0_0 _ _ l0_1 true _ (Kd.C_below HR0_1.out HB.out) HC0_1.out A3.out).mono ?_); rintro e w8 ⟨rfl, hb⟩; refine ⟨_, rfl, ?_⟩; replace BK101 := bB BK101 hb; replace HB := sB HB hb; (try clear hb); (try clear hcz7_0 hcz7_1 hfz7_0 hfz7_1); obtain ⟨hcz9_0, hcz9_1, hfz9_0, hfz9_1⟩ := zZ BK101) | (go_at_call 131; (with_reducible refine (impl_within.calls a1 0 (wrap64 ((l0_1.length : Int) - 1)) t103 _ A5.out).mono ?_); rintro e w' ⟨rfl, ⟨nd, rfl⟩⟩))
 go_ret
 exact ⟨fR, wB⟩
def impl_SwingSets.f (k : Nat) (a0_0 : Int) (l0_1 : List Int) (a1 : Int) : Option (List (List Int) × Bool) := (impl_isMember.f k a0_0 l0_1 a1).bind fun t => if t = true then ((impl_Committee_votes.f k a0_0 l0_1).bind fun v => (impl_votes_sets.g k v.2 (fun x => impl_votes_isSwing.f v.1 v.2 x a1)).bind fun s => some (s, true)) else some ([], false)
theorem impl_SwingSets_1.clo (n : Int) (ws : List Bool) (kk x : Int) (b : Bool) (A : Option Addr) (c : Nat) (V K : Nat) (W : World) (h0 : W.cell? ⟨V, 0, none⟩ = some (.int .i64 n)) (h1 : W.cell? ⟨V, 1, none⟩ = some (.slice A ws.length c)) (h2 : W.cell? ⟨K, 0, none⟩ = some (.int .i64 kk)) (hr : Kd.C Kd.bool W A ws.length ws) (hc : ws.length ≤ c) (h : impl_votes_isSwing.f n ws x kk = some b) :
  Calls Tryz.prog 166 #[.int .i64 x, .pointer (some ⟨V, 0, none⟩), .pointer (some ⟨K, 0, none⟩)] W fun e W' => e = .returned (.bool b) ∧ Below W.heap.size W W' := by
 have huV := Tryz.underlying87
 have HR := Aside0.mk hr
 have HC := Aside0.mk hc
 have H := Aside0.mk h
 clear hr hc h
 go_enter Tryz.func166, Tryz.ntmps166
 go_wp2_with fail
 refine (impl_votes_isSwing.calls n A c ws x kk b _ HR.out HC.out H.out).mono ?_
 rintro e w' ⟨rfl, hb⟩
 have HB := Aside0.mk hb
 clear hb
 go_wp2
 go_ret
 exact ⟨rfl, HB.out⟩
theorem impl_SwingSets.calls (k : Nat) (a0_0 : Int) (A0_1 : Option Addr) (c0_1 : Nat) (l0_1 : List Int) (a1 : Int) (r1 : List (List Int)) (r2 : Bool) (w : World) (hr0_1 : Kd.C (Kd.int .i64) w A0_1 l0_1.length l0_1) (hc0_1 : l0_1.length ≤ c0_1) (h : impl_SwingSets.f k a0_0 l0_1 a1 = some (r1, r2)) :
  Calls Tryz.prog 75 #[.agg #[.int .i64 a0_0, .slice A0_1 l0_1.length c0_1], .int .i64 a1] w fun e w' => ∃ v0_ : Value, e = .returned (.tuple #[v0_, .bool r2]) ∧ Kd.S (Kd.slice 3 (Kd.int .i64)) 24 w' w.heap.size (fun _ => True) v0_ r1 ∧ Below w.heap.size w w' := by
 have eg : ∀ args w, (callFunc 166 args).run Tryz.prog w = .ok (.enter 166 args) w := enters_of Tryz.func166 (by kernel_rfl) rfl
 have hmf : ∀ (fn : Fn) (first cap : Array Value) (w : World), (Instr.makeFunc fn first cap).run Tryz.prog w = .ok (.func fn first cap) w := fun _ _ _ _ => rfl
 have huC := Tryz.underlying26
 have huV := Tryz.underlying87
 obtain ⟨t, ht, h2⟩ := oB h
 have HB1 := Aside0.mk (show Below w.heap.size w ((w.alloc (.cells #[.int .i64 a0_0, .slice A0_1 l0_1.length c0_1] 26)).alloc (.cells #[.int .i64 a1] 3)) from ((Below.refl _ _).alloc (Nat.le_refl _) _).alloc (by simp) _)
 have BK1 := Aside0.mk (blk_alloc (blk_new w (.cells #[.int .i64 a0_0, .slice A0_1 l0_1.length c0_1] 26)) (.cells #[.int .i64 a1] 3))
 have hkn := blk_new (w.alloc (.cells #[.int .i64 a0_0, .slice A0_1 l0_1.length c0_1] 26)) (.cells #[.int .i64 a1] 3)
 have hsz : (w.alloc (.cells #[.int .i64 a0_0, .slice A0_1 l0_1.length c0_1] 26)).heap.size = w.heap.size + 1 := by simp
 rw [hsz] at hkn
 have BN1 := Aside0.mk hkn
 have HR := Aside0.mk hr0_1
 have HC := Aside0.mk hc0_1
 have HT := Aside0.mk ht
 clear hr0_1 hc0_1 h ht hkn hsz
 cases t with
 | true =>
  rw [if_pos rfl] at h2
  obtain ⟨⟨v1, v2⟩, hv, h3⟩ := oB h2
  obtain ⟨s, hs, h4⟩ := oB h3
  simp only [Option.some.injEq, Prod.mk.injEq] at h4
  obtain ⟨rfl, rfl⟩ := h4
  have HV := Aside0.mk hv
  have HS := Aside0.mk hs
  clear h2 hv h3 hs
  go_enter Tryz.func75, Tryz.ntmps75
  go_wp2_with fail
  refine (impl_isMember.calls k a0_0 A0_1 c0_1 l0_1 a1 true _ (Kd.C_below HR.out HB1.out) HC.out HT.out).mono ?_
  rintro e w1 ⟨rfl, hb⟩
  have BK2 := bB BK1 hb
  have BN2 := bB BN1 hb
  have HB2 := Aside0.mk (HB1.out.trans (hb.mono HB1.out.size))
  clear hb
  have hc0 := (blk_cell BK2.out 0).trans rfl
  have hc1 := (blk_cell BK2.out 1).trans rfl
  go_wp2_with fail
  refine (impl_Committee_votes.calls k a0_0 A0_1 c0_1 l0_1 v1 v2 _ (Kd.C_below HR.out HB2.out) HC.out HV.out).mono ?_
  rintro e w2 ⟨u1, rfl, hO, hb⟩
  obtain ⟨A1, c1, rfl, hl1, hC1⟩ := Kd.R_reads hO
  have HC1 := Aside0.mk hC1
  have HL1 := Aside0.mk hl1
  have BN3 := Aside0.mk (blk_alloc (blk_below BN2.out hb) (.cells #[.int .i64 v1, .slice A1 v2.length c1] 87))
  have HB3 := Aside0.mk (HB2.out.trans (hb.mono HB2.out.size))
  have HB4 := Aside0.mk (HB3.out.trans ((below_alloc (Below.refl w2.heap.size w2) (.cells #[.int .i64 v1, .slice A1 v2.length c1] 87)).mono HB3.out.size))
  clear hO hb hl1 hC1 hc0 hc1
  have HX := Aside0.mk (impl_votes_sets.hof k v1 A1 c1 v2 (fun x => impl_votes_isSwing.f v1 v2 x a1) 166 #[] #[.pointer (some ⟨w2.heap.size, 0, none⟩), .pointer (some ⟨w.heap.size + 1, 0, none⟩)] s (w2.alloc (.cells #[.int .i64 v1, .slice A1 v2.length c1] 87)) (Kd.C_alloc HC1.out _) eg (fun W x b hb _ _ hx => by
   refine impl_SwingSets_1.clo v1 v2 a1 x b A1 c1 w2.heap.size (w.heap.size + 1) W ?_ ?_ ?_ (Kd.C_below (Kd.C_alloc HC1.out _) hb) HL1.out hx
   ·rw [hb.cell (p := ⟨w2.heap.size, 0, none⟩) (by simp)]
    simp [go_sem]
   ·rw [hb.cell (p := ⟨w2.heap.size, 1, none⟩) (by simp)]
    simp [go_sem]
   exact ((hb.cell (p := ⟨w.heap.size + 1, 0, none⟩) (blk_lt BN3.out)).trans (blk_cell BN3.out 0)).trans rfl) HS.out)
  go_wp2_with fail
  refine (HX.out).mono ?_
  rintro e w3 ⟨u2, rfl, hS, hb⟩
  have HSO := Aside0.mk (Kd.S_lower hS HB4.out.size)
  have HB5 := Aside0.mk (HB4.out.trans (hb.mono HB4.out.size))
  clear hS hb
  go_wp2
  go_ret2
  exact ⟨_, rfl, HSO.out, HB5.out⟩
 | false =>
  rw [if_neg (by decide)] at h2
  simp only [Option.some.injEq, Prod.mk.injEq] at h2
  obtain ⟨rfl, rfl⟩ := h2
  go_enter Tryz.func75, Tryz.ntmps75
  go_wp2_with fail
  refine (impl_isMember.calls k a0_0 A0_1 c0_1 l0_1 a1 false _ (Kd.C_below HR.out HB1.out) HC.out HT.out).mono ?_
  rintro e w1 ⟨rfl, hb⟩
  have HB2 := Aside0.mk (HB1.out.trans (hb.mono HB1.out.size))
  clear hb
  go_wp2
  go_ret2
  exact ⟨_, rfl, Kd.S_nil _ _ _ _ _, HB2.out⟩
def bits_OnesCount64.f (a0 : Int) : Option (Int) := some (Go.bits .and .i64 (wrap64 (IntKind.u64.wrap ((IntKind.u64.wrap ((IntKind.u64.wrap ((Go.bits .and .u64 (IntKind.u64.wrap (((IntKind.u64.wrap ((Go.bits .and .u64 ((IntKind.u64.wrap ((Go.bits .and .u64 (a0 / 2) 6148914691236517205) + (Go.bits .and .u64 a0 6148914691236517205))) / 4) 3689348814741910323) + (Go.bits .and .u64 (IntKind.u64.wrap ((Go.bits .and .u64 (a0 / 2) 6148914691236517205) + (Go.bits .and .u64 a0 6148914691236517205))) 3689348814741910323))) / 16) + (IntKind.u64.wrap ((Go.bits .and .u64 ((IntKind.u64.wrap ((Go.bits .and .u64 (a0 / 2) 6148914691236517205) + (Go.bits .and .u64 a0 6148914691236517205))) / 4) 3689348814741910323) + (Go.bits .and .u64 (IntKind.u64.wrap ((Go.bits .and .u64 (a0 / 2) 6148914691236517205) + (Go.bits .and .u64 a0 6148914691236517205))) 3689348814741910323))))) 1085102592571150095) + ((Go.bits .and .u64 (IntKind.u64.wrap (((IntKind.u64.wrap ((Go.bits .and .u64 ((IntKind.u64.wrap ((Go.bits .and .u64 (a0 / 2) 6148914691236517205) + (Go.bits .and .u64 a0 6148914691236517205))) / 4) 3689348814741910323) + (Go.bits .and .u64 (IntKind.u64.wrap ((Go.bits .and .u64 (a0 / 2) 6148914691236517205) + (Go.bits .and .u64 a0 6148914691236517205))) 3689348814741910323))) / 16) + (IntKind.u64.wrap ((Go.bits .and .u64 ((IntKind.u64.wrap ((Go.bits .and .u64 (a0 / 2) 6148914691236517205) + (Go.bits .and .u64 a0 6148914691236517205))) / 4) 3689348814741910323) + (Go.bits .and .u64 (IntKind.u64.wrap ((Go.bits .and .u64 (a0 / 2) 6148914691236517205) + (Go.bits .and .u64 a0 6148914691236517205))) 3689348814741910323))))) 1085102592571150095) / 256))) + ((IntKind.u64.wrap ((Go.bits .and .u64 (IntKind.u64.wrap (((IntKind.u64.wrap ((Go.bits .and .u64 ((IntKind.u64.wrap ((Go.bits .and .u64 (a0 / 2) 6148914691236517205) + (Go.bits .and .u64 a0 6148914691236517205))) / 4) 3689348814741910323) + (Go.bits .and .u64 (IntKind.u64.wrap ((Go.bits .and .u64 (a0 / 2) 6148914691236517205) + (Go.bits .and .u64 a0 6148914691236517205))) 3689348814741910323))) / 16) + (IntKind.u64.wrap ((Go.bits .and .u64 ((IntKind.u64.wrap ((Go.bits .and .u64 (a0 / 2) 6148914691236517205) + (Go.bits .and .u64 a0 6148914691236517205))) / 4) 3689348814741910323) + (Go.bits .and .u64 (IntKind.u64.wrap ((Go.bits .and .u64 (a0 / 2) 6148914691236517205) + (Go.bits .and .u64 a0 6148914691236517205))) 3689348814741910323))))) 1085102592571150095) + ((Go.bits .and .u64 (IntKind.u64.wrap (((IntKind.u64.wrap ((Go.bits .and .u64 ((IntKind.u64.wrap ((Go.bits .and .u64 (a0 / 2) 6148914691236517205) + (Go.bits .and .u64 a0 6148914691236517205))) / 4) 3689348814741910323) + (Go.bits .and .u64 (IntKind.u64.wrap ((Go.bits .and .u64 (a0 / 2) 6148914691236517205) + (Go.bits .and .u64 a0 6148914691236517205))) 3689348814741910323))) / 16) + (IntKind.u64.wrap ((Go.bits .and .u64 ((IntKind.u64.wrap ((Go.bits .and .u64 (a0 / 2) 6148914691236517205) + (Go.bits .and .u64 a0 6148914691236517205))) / 4) 3689348814741910323) + (Go.bits .and .u64 (IntKind.u64.wrap ((Go.bits .and .u64 (a0 / 2) 6148914691236517205) + (Go.bits .and .u64 a0 6148914691236517205))) 3689348814741910323))))) 1085102592571150095) / 256))) / 65536))) + ((IntKind.u64.wrap ((IntKind.u64.wrap ((Go.bits .and .u64 (IntKind.u64.wrap (((IntKind.u64.wrap ((Go.bits .and .u64 ((IntKind.u64.wrap ((Go.bits .and .u64 (a0 / 2) 6148914691236517205) + (Go.bits .and .u64 a0 6148914691236517205))) / 4) 3689348814741910323) + (Go.bits .and .u64 (IntKind.u64.wrap ((Go.bits .and .u64 (a0 / 2) 6148914691236517205) + (Go.bits .and .u64 a0 6148914691236517205))) 3689348814741910323))) / 16) + (IntKind.u64.wrap ((Go.bits .and .u64 ((IntKind.u64.wrap ((Go.bits .and .u64 (a0 / 2) 6148914691236517205) + (Go.bits .and .u64 a0 6148914691236517205))) / 4) 3689348814741910323) + (Go.bits .and .u64 (IntKind.u64.wrap ((Go.bits .and .u64 (a0 / 2) 6148914691236517205) + (Go.bits .and .u64 a0 6148914691236517205))) 3689348814741910323))))) 1085102592571150095) + ((Go.bits .and .u64 (IntKind.u64.wrap (((IntKind.u64.wrap ((Go.bits .and .u64 ((IntKind.u64.wrap ((Go.bits .and .u64 (a0 / 2) 6148914691236517205) + (Go.bits .and .u64 a0 6148914691236517205))) / 4) 3689348814741910323) + (Go.bits .and .u64 (IntKind.u64.wrap ((Go.bits .and .u64 (a0 / 2) 6148914691236517205) + (Go.bits .and .u64 a0 6148914691236517205))) 3689348814741910323))) / 16) + (IntKind.u64.wrap ((Go.bits .and .u64 ((IntKind.u64.wrap ((Go.bits .and .u64 (a0 / 2) 6148914691236517205) + (Go.bits .and .u64 a0 6148914691236517205))) / 4) 3689348814741910323) + (Go.bits .and .u64 (IntKind.u64.wrap ((Go.bits .and .u64 (a0 / 2) 6148914691236517205) + (Go.bits .and .u64 a0 6148914691236517205))) 3689348814741910323))))) 1085102592571150095) / 256))) + ((IntKind.u64.wrap ((Go.bits .and .u64 (IntKind.u64.wrap (((IntKind.u64.wrap ((Go.bits .and .u64 ((IntKind.u64.wrap ((Go.bits .and .u64 (a0 / 2) 6148914691236517205) + (Go.bits .and .u64 a0 6148914691236517205))) / 4) 3689348814741910323) + (Go.bits .and .u64 (IntKind.u64.wrap ((Go.bits .and .u64 (a0 / 2) 6148914691236517205) + (Go.bits .and .u64 a0 6148914691236517205))) 3689348814741910323))) / 16) + (IntKind.u64.wrap ((Go.bits .and .u64 ((IntKind.u64.wrap ((Go.bits .and .u64 (a0 / 2) 6148914691236517205) + (Go.bits .and .u64 a0 6148914691236517205))) / 4) 3689348814741910323) + (Go.bits .and .u64 (IntKind.u64.wrap ((Go.bits .and .u64 (a0 / 2) 6148914691236517205) + (Go.bits .and .u64 a0 6148914691236517205))) 3689348814741910323))))) 1085102592571150095) + ((Go.bits .and .u64 (IntKind.u64.wrap (((IntKind.u64.wrap ((Go.bits .and .u64 ((IntKind.u64.wrap ((Go.bits .and .u64 (a0 / 2) 6148914691236517205) + (Go.bits .and .u64 a0 6148914691236517205))) / 4) 3689348814741910323) + (Go.bits .and .u64 (IntKind.u64.wrap ((Go.bits .and .u64 (a0 / 2) 6148914691236517205) + (Go.bits .and .u64 a0 6148914691236517205))) 3689348814741910323))) / 16) + (IntKind.u64.wrap ((Go.bits .and .u64 ((IntKind.u64.wrap ((Go.bits .and .u64 (a0 / 2) 6148914691236517205) + (Go.bits .and .u64 a0 6148914691236517205))) / 4) 3689348814741910323) + (Go.bits .and .u64 (IntKind.u64.wrap ((Go.bits .and .u64 (a0 / 2) 6148914691236517205) + (Go.bits .and .u64 a0 6148914691236517205))) 3689348814741910323))))) 1085102592571150095) / 256))) / 65536))) / 4294967296)))) 127)
theorem bits_OnesCount64.calls (a0 : Int) (r : Int) (w : World) (h : bits_OnesCount64.f a0 = some r) :
  Calls Tryz.prog 230 #[.int .u64 a0] w fun e w' => e = .returned (.int .i64 r) ∧ Drawn0 w w' := by
 have H := h
 unfold bits_OnesCount64.f at H
 clear h
 obtain rfl := Option.some.inj H
 go_enter Tryz.func230, Tryz.ntmps230
 go_wp2
 go_ret
 exact ⟨by first | rfl | (simp; done) | (simp [*]; done), dS⟩
def bits_OnesCount.f (a0 : Int) : Option (Int) := (bits_OnesCount64.f a0).bind fun t101 => (some t101)
theorem bits_OnesCount.calls (a0 : Int) (r : Int) (w : World) (h : bits_OnesCount.f a0 = some r) :
  Calls Tryz.prog 215 #[.int .u64 a0] w fun e w' => e = .returned (.int .i64 r) ∧ Drawn0 w w' := by
 have H := h
 unfold bits_OnesCount.f at H
 clear h
 replace H := oA H
 obtain ⟨t101, A2, H⟩ := H
 (try dsimp only at H)
 obtain rfl := Option.some.inj H
 go_enter Tryz.func215, Tryz.ntmps215
 go_wp2_with (first | ((with_reducible refine gate_callee (f := 230) rfl ?_); refine gL 7 Tryz.func230 #[.int .u64 a0] ?_; (with_reducible refine (bits_OnesCount64.calls a0 t101 _ A2.out).mono ?_); rintro e w' ⟨rfl, ⟨nd, rfl⟩⟩; refine ⟨_, rfl, ?_⟩))
 go_ret
 exact ⟨by first | rfl | (simp; done) | (simp [*]; done), dS⟩
def impl_count.f (a0 : Int) : Option (Int) := (bits_OnesCount.f (IntKind.u64.wrap (a0))).bind fun t101 => (some t101)
theorem impl_count.calls (a0 : Int) (r : Int) (w : World) (h : impl_count.f a0 = some r) :
  Calls Tryz.prog 154 #[.int .i64 a0] w fun e w' => e = .returned (.int .i64 r) ∧ Drawn0 w w' := by
 have H := h
 unfold impl_count.f at H
 clear h
 replace H := oA H
 obtain ⟨t101, A2, H⟩ := H
 (try dsimp only at H)
 obtain rfl := Option.some.inj H
 go_enter Tryz.func154, Tryz.ntmps154
 go_wp2_with (first | ((with_reducible refine gate_callee (f := 215) rfl ?_); refine gL 5 Tryz.func215 #[.int .u64 (IntKind.u64.wrap (a0))] ?_; (with_reducible refine (bits_OnesCount.calls (IntKind.u64.wrap (a0)) t101 _ A2.out).mono ?_); rintro e w' ⟨rfl, ⟨nd, rfl⟩⟩; refine ⟨_, rfl, ?_⟩))
 go_ret
 exact ⟨by first | rfl | (simp; done) | (simp [*]; done), dS⟩
end Go.Proofs.YtamfpkefnhcngaaGreat.Q
