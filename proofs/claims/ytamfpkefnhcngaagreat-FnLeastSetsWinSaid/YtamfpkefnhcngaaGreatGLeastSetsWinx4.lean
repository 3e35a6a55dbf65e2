/- Printed functions, their contracts and plain facts on them: QSpecCountWinningOf; QLawsFnLeastSetsWinD; QLawsFnLeastSetsWin; QImplDictatorOf; QSpecDictatorOf; QImplMembers; QSlicesIndexIntInt; QSlicesContainsIntInt; QSlic. Conditions: as each theorem states. -/
import Derived.Test.YtamfpkefnhcngaaGreatGLeastSetsWinx1
import Derived.Test.YtamfpkefnhcngaaGreatGLeastSetsWinx2
import Derived.Test.YtamfpkefnhcngaaGreatGLeastSetsWinx3
set_option maxHeartbeats 8000000
set_option maxRecDepth 100000
namespace Go.Proofs.YtamfpkefnhcngaaGreat.Q
open Go.RowKit Go.Proofs.YtamfpkefnhcngaaGreatX Go.Proofs.YtamfpkefnhcngaaGreatY Go.Proofs.YtamfpkefnhcngaaGreatX Go.Proofs.YtamfpkefnhcngaaGreatW.PrintWords Go.Proofs.YtamfpkefnhcngaaGreatW.PrintLast Go.Proofs.YtamfpkefnhcngaaGreatW.PrintMore
attribute [local go_sem] max2_int min2_int max_two min_two max_three min_three max_four min_four   -- for this text's walks alone
set_option linter.unusedVariables false
set_option linter.unusedSimpArgs false
mutual
def spec_CountWinningOf.j0 : Nat → Int → Bool → Int → List Int → Option (Int × Bool)
 | 0, _, _, _, _ => none
 | k + 1, x1, x19, x102000, x102001 => if x19 = true then (some (0, false)) else ((spec_voWins.f k x102000 x102001).bind fun t104 => (spec_CountWinningOf.l0 k x1 0 t104 (t104.length : Int) 0))
def spec_CountWinningOf.l0 : Nat → Int → Int → List Bool → Int → Int → Option (Int × Bool)
 | 0, _, _, _, _, _ => none
 | k + 1, x1, x6, x21, x22, x23 => if x23 < x22 then (if 0 ≤ x23 then (if x23 < (x21.length : Int) then (if rdOf false x21 x23 = true then ((spec_voList.f k x23).bind fun t108 => (if (t108.length : Int) = x1 then (spec_CountWinningOf.l0 k x1 (wrap64 (x6 + 1)) x21 x22 (wrap64 (x23 + 1))) else (spec_CountWinningOf.l0 k x1 x6 x21 x22 (wrap64 (x23 + 1))))) else (spec_CountWinningOf.l0 k x1 x6 x21 x22 (wrap64 (x23 + 1)))) else (none)) else (none)) else (some (x6, true))
end
def spec_CountWinningOf.f (k : Nat) (a0_0 : Int) (l0_1 : List Int) (a1 : Int) : Option (Int × Bool) := (spec_voGood.f k a0_0 l0_1).bind fun t102 => (if t102 = true then ((spec_l1In.f a1 0 (l0_1.length : Int)).bind fun t103 => (spec_CountWinningOf.j0 k a1 (!t103) a0_0 l0_1)) else (spec_CountWinningOf.j0 k a1 true a0_0 l0_1))
theorem spec_CountWinningOf.calls (k : Nat) (a0_0 : Int) (A0_1 : Option Addr) (c0_1 : Nat) (l0_1 : List Int) (a1 : Int) (r1 : Int) (r2 : Bool) (w : World) (hr0_1 : Kd.C (Kd.int .i64) w A0_1 l0_1.length l0_1) (hc0_1 : l0_1.length ≤ c0_1) (h : spec_CountWinningOf.f k a0_0 l0_1 a1 = some (r1, r2)) :
  Calls Tryz.prog 55 #[.agg #[.int .i64 a0_0, .slice A0_1 l0_1.length c0_1], .int .i64 a1] w fun e w' => e = .returned (.tuple #[.int .i64 r1, .bool r2]) ∧ Below w.heap.size w w' := by
 have hu26 := Tryz.underlying26
 have HR0_1 := Aside0.mk hr0_1
 have HC0_1 := Aside0.mk hc0_1
 clear hr0_1 hc0_1
 have HB := Aside0.mk (Below.refl w.heap.size w)
 have H : ((spec_voGood.f k a0_0 l0_1).bind fun t102 => (if t102 = true then ((spec_l1In.f a1 0 (l0_1.length : Int)).bind fun t103 => (spec_CountWinningOf.j0 k a1 (!t103) a0_0 l0_1)) else (spec_CountWinningOf.j0 k a1 true a0_0 l0_1))) = some (r1, r2) := h
 clear h
 have HC3 := Aside0.mk H
 clear H
 go_enter Tryz.func55, Tryz.ntmps55
 go_upto_region 1 with (first | ((with_reducible refine gate_dst (N := 2) rfl ?_); (try (refine gate_guard (by rfl) ?_; dsimp only)); refine xE (N := 2) (cs := #[.int .i64 a0_0, .slice A0_1 l0_1.length c0_1]) (t := 26) ?_; intro gb101 hg w4 BK101 hb; have GW101 := gS hg HB; have GE101 := gS hg HB; replace HB := sB HB hb; clear hb hg))
 (try simp only [Act.put, sA, sZ, sS])
 go_cut [19] (fun v19 wc => ∃ (kq : Nat) (x19_2 : Bool), v19 = .bool x19_2 ∧ Aside0 (spec_CountWinningOf.j0 kq a1 x19_2 a0_0 l0_1 = some (r1, r2)) ∧ Aside0 (kq ≤ k) ∧ Aside0 (wc.heap[gb101]? = some (.cells #[.int .i64 a0_0, (.slice A0_1 l0_1.length c0_1)] 26 (0, 0))) ∧ Aside0 (Below w.heap.size w wc))
 case first =>
  have H := HC3.out
  clear HC3
  replace H := oA H
  obtain ⟨t102, A5, H⟩ := H
  (try dsimp only at H)
  by_cases c6 : t102 = true
  ·subst c6
   replace H := iT H
   replace H := oA H
   obtain ⟨t103, A7, H⟩ := H
   (try dsimp only at H)
   have H' := Aside0.mk H
   clear H
   have hcz8_0 := cZ BK101 0
   have hcz8_1 := cZ BK101 1
   have hfz8_0 := fZ BK101 0
   have hfz8_1 := fZ BK101 1
   go_wp2_with (first | ((with_reducible refine gate_callee (f := 129) rfl ?_); refine gL 10 Tryz.func129 #[.agg #[.int .i64 a0_0, .slice A0_1 l0_1.length c0_1]] ?_; (with_reducible refine (spec_voGood.calls k a0_0 _ _ l0_1 true _ (Kd.C_below HR0_1.out HB.out) HC0_1.out A5.out).mono ?_); rintro e w9 ⟨rfl, hb⟩; refine ⟨_, rfl, ?_⟩; replace BK101 := bB BK101 hb; replace HB := sB HB hb; (try clear hb); (try clear hcz8_0 hcz8_1 hfz8_0 hfz8_1); have hcz10_0 := cZ BK101 0; have hcz10_1 := cZ BK101 1; have hfz10_0 := fZ BK101 0; have hfz10_1 := fZ BK101 1) | (go_at_call 156; (with_reducible refine (spec_l1In.calls a1 0 (l0_1.length : Int) t103 _ A7.out).mono ?_); rintro e w' ⟨rfl, ⟨nd, rfl⟩⟩))
   go_meet
   case rel => exact ⟨_, (!t103), gR, H', ⟨by first | omega | exact Nat.le_refl _⟩, ⟨bQ BK101⟩, ⟨wB⟩⟩
  ·replace c6 := Bool.eq_false_iff.mpr c6
   subst c6
   replace H := iF H
   have H' := Aside0.mk H
   clear H
   (try clear hcz10_0 hcz10_1 hfz10_0 hfz10_1)
   have hcz11_0 := cZ BK101 0
   have hcz11_1 := cZ BK101 1
   have hfz11_0 := fZ BK101 0
   have hfz11_1 := fZ BK101 1
   go_wp2_with (first | ((with_reducible refine gate_callee (f := 129) rfl ?_); refine gL 10 Tryz.func129 #[.agg #[.int .i64 a0_0, .slice A0_1 l0_1.length c0_1]] ?_; (with_reducible refine (spec_voGood.calls k a0_0 _ _ l0_1 false _ ?side1 ?side2 A5.out).mono ?_); (case side1 => have hx_ := (Kd.C_below HR0_1.out HB.out); exact cC); (case side2 => exact HC0_1.out); rintro e w12 ⟨rfl, hb⟩; refine ⟨_, rfl, ?_⟩; replace BK101 := bP BK101 hb; replace HB := sQ hb; (try clear hb)))
   go_meet
   case rel => exact ⟨_, (true), gR, H', ⟨by first | omega | exact Nat.le_refl _⟩, ⟨bQ BK101⟩, ⟨wB⟩⟩
 case rest =>
  clear HC3
  (try clear c1); (try clear p2); (try clear c5); (try clear c6); (try clear c12); (try clear hcz11_0); (try clear hcz11_1); (try clear hfz11_0); (try clear hfz11_1)
  obtain ⟨kq, x19_2, rfl, HA, HJ2, BK101, HB⟩ := hcut
  cases kq with
  | zero => exact absurd HA.out (by simp [spec_CountWinningOf.j0])
  | succ kj2 =>
   have H := HA.out
   clear HA
   simp only [spec_CountWinningOf.j0] at H
   by_cases c13 : x19_2 = true
   ·subst c13
    replace H := iT H
    simp only [Option.some.injEq, Prod.mk.injEq] at H
    obtain ⟨rfl, rfl⟩ := H
    go_wp2
    go_ret2
    exact ⟨fR, wB⟩
   ·replace c13 := Bool.eq_false_iff.mpr c13
    subst c13
    replace H := iF H
    replace H := oA H
    obtain ⟨t104, A14, H⟩ := H
    (try dsimp only at H)
    have H' := Aside0.mk H
    clear H
    have hcz15_0 := cZ BK101 0
    have hcz15_1 := cZ BK101 1
    have hfz15_0 := fZ BK101 0
    have hfz15_1 := fZ BK101 1
    go_wp2_with (first | ((with_reducible refine gate_callee (f := 141) rfl ?_); refine gL 21 Tryz.func141 #[.agg #[.int .i64 a0_0, .slice A0_1 l0_1.length c0_1]] ?_; (with_reducible refine (spec_voWins.calls kj2 a0_0 _ _ l0_1 t104 _ (Kd.C_below HR0_1.out HB.out) HC0_1.out A14.out).mono ?_); rintro e w16 ⟨v105, rfl, ho0, hb⟩; refine ⟨_, rfl, ?_⟩; have HO106 := Aside0.mk (Kd.R_lower ho0 (below_size HB.out)); replace BK101 := bB BK101 hb; replace HB := sB HB hb; (try clear hb); (try clear ho0); obtain ⟨Ao17, co17, eo17⟩ := Kd.R_slice HO106.out; subst eo17))
    go_loopg [6, 23] kj2 (fun kq v6 v23 w' => ∃ (x6_2 : Int) (x23_2 : Int), v6 = .int .i64 x6_2 ∧ v23 = .int .i64 x23_2 ∧ Aside0 (spec_CountWinningOf.l0 kq a1 x6_2 t104 (t104.length : Int) x23_2 = some (r1, r2)) ∧ Aside0 (kq ≤ kj2) ∧ Aside0 (Kd.R Kd.bool 4 w' w.heap.size (fun _ => True) (.slice Ao17 t104.length co17) t104) ∧ Aside0 (w'.heap[gb101]? = some (.cells #[.int .i64 a0_0, (.slice A0_1 l0_1.length c0_1)] 26 (0, 0))) ∧ Aside0 (Below w.heap.size w w'))
    case atStart => exact ⟨(0), (0), gR, gR, H', ⟨Nat.le_refl _⟩, ⟨by exact HO106.out⟩, ⟨by exact BK101.out⟩, ⟨wB⟩⟩
    case round =>
     clear H'
     (try clear c1); (try clear p2); (try clear c5); (try clear c6); (try clear c12); (try clear c13); (try clear c14); (try clear hcz11_0); (try clear hcz11_1); (try clear hcz15_0); (try clear hcz15_1); (try clear hfz11_0); (try clear hfz11_1); (try clear hfz15_0); (try clear hfz15_1); (try clear p2)
     obtain ⟨x6_2, x23_2, rfl, rfl, HA, HK2, HO_21, BK101, HB⟩ := hrel
     cases gk with
     | zero => exact absurd HA.out (by simp [spec_CountWinningOf.l0])
     | succ k2 =>
      have H := HA.out
      clear HA
      simp only [spec_CountWinningOf.l0] at H
      by_cases c18 : x23_2 < (t104.length : Int)
      ·rw [if_pos c18] at H
       have c18b0 : decide (x23_2 < (t104.length : Int)) = true := decide_eq_true c18
       clear c18
       by_cases c19 : 0 ≤ x23_2
       ·rw [if_pos c19] at H
        have c19b0 : decide (0 ≤ x23_2) = true := decide_eq_true c19
        clear c19
        by_cases c20 : x23_2 < (t104.length : Int)
        ·rw [if_pos c20] at H
         have c20b0 : decide (x23_2 < (t104.length : Int)) = true := decide_eq_true c20
         clear c20
         obtain ⟨bq21, hbq21⟩ : ∃ b_ : Bool, b_ = (rdOf false t104 x23_2) := ⟨_, rfl⟩
         replace H : (if bq21 = true then ((spec_voList.f k2 x23_2).bind fun t108 => (if (t108.length : Int) = a1 then (spec_CountWinningOf.l0 k2 a1 (wrap64 (x6_2 + 1)) t104 (t104.length : Int) (wrap64 (x23_2 + 1))) else (spec_CountWinningOf.l0 k2 a1 x6_2 t104 (t104.length : Int) (wrap64 (x23_2 + 1))))) else (spec_CountWinningOf.l0 k2 a1 x6_2 t104 (t104.length : Int) (wrap64 (x23_2 + 1)))) = some (r1, r2) := by rw [← hbq21] at H; exact H
         have Nbq21 := Aside0.mk hbq21
         clear hbq21
         by_cases c22 : bq21 = true
         ·subst c22
          replace H := iT H
          replace H := oA H
          obtain ⟨t108, A23, H⟩ := H
          (try dsimp only at H)
          by_cases c24 : (t108.length : Int) = a1
          ·rw [if_pos c24] at H
           have c24b0 : ((t108.length : Int) == a1) = true := beq_iff_eq.mpr c24
           have c24b1 : ((t108.length : Int) != a1) = false := bne_eq_false_iff_eq.mpr c24
           clear c24
           have H' := Aside0.mk H
           clear H
           have p107 : 0 ≤ (x23_2 : Int) := oD
           have q107 : x23_2 < (t104.length : Int) := oD
           obtain ⟨ad107, e107, hx107_0⟩ := Kd.at_bool (Kd.R_reads' HO_21.out).2.2 x23_2 p107 q107
           (try rw [← Nbq21.out] at hx107_0)
           cases e107
           replace p107 := eq_true p107
           replace q107 := eq_true q107
           go_wp2_with (first | (go_at_call 146; (with_reducible refine (spec_voList.calls k2 x23_2 t108 _ A23.out).mono ?_); rintro e w25 ⟨v109, rfl, ho0, hb⟩; have HO110 := Aside0.mk (Kd.R_lower ho0 (below_size HB.out)); replace HO_21 := rB HO_21 hb; replace BK101 := bB BK101 hb; replace HB := sB HB hb; (try clear hb); (try clear ho0); obtain ⟨Ao26, co26, eo26⟩ := Kd.R_slice HO110.out; subst eo26))
           go_roundg k2
           case measure => have := HJ2.out; have := HK2.out; omega
           case rel => exact ⟨(wrap64 (x6_2 + 1)), (wrap64 (x23_2 + 1)), gR, gR, H', ⟨by have := HJ2.out; have := HK2.out; omega⟩, ⟨by exact HO_21.out⟩, ⟨by exact BK101.out⟩, ⟨wB⟩⟩
          ·rw [if_neg c24] at H
           have c24b0 : ((t108.length : Int) == a1) = false := beq_eq_false_iff_ne.mpr c24
           have c24b1 : ((t108.length : Int) != a1) = true := bne_iff_ne.mpr c24
           have H' := Aside0.mk H
           clear H
           have p107 : 0 ≤ (x23_2 : Int) := oD
           have q107 : x23_2 < (t104.length : Int) := oD
           obtain ⟨ad107, e107, hx107_0⟩ := Kd.at_bool (Kd.R_reads' HO_21.out).2.2 x23_2 p107 q107
           (try rw [← Nbq21.out] at hx107_0)
           cases e107
           replace p107 := eq_true p107
           replace q107 := eq_true q107
           go_wp2_with (first | (go_at_call 146; (with_reducible refine (spec_voList.calls k2 x23_2 t108 _ A23.out).mono ?_); rintro e w27 ⟨v109, rfl, ho0, hb⟩; have HO110 := Aside0.mk (Kd.R_lower ho0 (below_size HB.out)); replace HO_21 := rB HO_21 hb; replace BK101 := bB BK101 hb; replace HB := sB HB hb; (try clear hb); (try clear ho0); obtain ⟨Ao28, co28, eo28⟩ := Kd.R_slice HO110.out; subst eo28))
           go_roundg k2
           case measure => have := HJ2.out; have := HK2.out; omega
           case rel => exact ⟨(x6_2), (wrap64 (x23_2 + 1)), gR, gR, H', ⟨by have := HJ2.out; have := HK2.out; omega⟩, ⟨by exact HO_21.out⟩, ⟨by exact BK101.out⟩, ⟨wB⟩⟩
         ·replace c22 := Bool.eq_false_iff.mpr c22
          subst c22
          replace H := iF H
          have H' := Aside0.mk H
          clear H
          have p107 : 0 ≤ (x23_2 : Int) := oD
          have q107 : x23_2 < (t104.length : Int) := oD
          obtain ⟨ad107, e107, hx107_0⟩ := Kd.at_bool (Kd.R_reads' HO_21.out).2.2 x23_2 p107 q107
          (try rw [← Nbq21.out] at hx107_0)
          cases e107
          replace p107 := eq_true p107
          replace q107 := eq_true q107
          go_wp2
          go_roundg k2
          case measure => have := HJ2.out; have := HK2.out; omega
          case rel => exact ⟨(x6_2), (wrap64 (x23_2 + 1)), gR, gR, H', ⟨by have := HJ2.out; have := HK2.out; omega⟩, ⟨by exact HO_21.out⟩, ⟨by exact BK101.out⟩, ⟨wB⟩⟩
        ·rw [if_neg c20] at H
         exact absurd H (by simp)
       ·rw [if_neg c19] at H
        exact absurd H (by simp)
      ·rw [if_neg c18] at H
       have c18b0 : decide (x23_2 < (t104.length : Int)) = false := decide_eq_false c18
       clear c18
       simp only [Option.some.injEq, Prod.mk.injEq] at H
       obtain ⟨rfl, rfl⟩ := H
       go_wp2
       go_ret2
       exact ⟨fR, wB⟩
mutual
def laws_FnLeastSetsWin.j10 : Nat → List Int → Option (Bool)
 | 0, _ => none
 | k + 1, x1 => (spec_DrawCountWinningOf.f k x1).bind fun bt196 => ((impl_CountWinningOf.f k bt196.1 bt196.2.1 bt196.2.2).bind fun bt202 => ((spec_CountWinningOf.f k bt196.1 bt196.2.1 bt196.2.2).bind fun bt204 => (if (bt202.2 == bt204.2) = true then (some (bt202.1 == bt204.1)) else (none))))
def laws_FnLeastSetsWin.l0 : Nat → List Int → List (List Int) → List (List Int) → Int → Bool → Bool → Int → Int → Int → Int → List Int → Option (Bool)
 | 0, _, _, _, _, _, _, _, _, _, _, _ => none
 | k + 1, x1, x6, x10, x18, x22, x26, x30, x41, x42, x107000, x107001 => if x42 ≤ x30 then ((impl_CountWinningOf.f k x107000 x107001 x42).bind fun bt169 => (if bt169.2 = true then (laws_FnLeastSetsWin.l0 k x1 x6 x10 x18 x22 x26 x30 (wrap64 (x41 + bt169.1)) (wrap64 (x42 + 1)) x107000 x107001) else (none))) else (if x41 = x18 then (laws_FnLeastSetsWin.l1 k x1 x6 x10 x22 x26 x30 0 0 x107000 x107001) else (none))
def laws_FnLeastSetsWin.l1 : Nat → List Int → List (List Int) → List (List Int) → Bool → Bool → Int → Int → Int → Int → List Int → Option (Bool)
 | 0, _, _, _, _, _, _, _, _, _, _ => none
 | k + 1, x1, x6, x10, x22, x26, x30, x45, x46, x107000, x107001 => if 0 ≤ x30 then (if x46 < (shl .i64 1 x30) then ((laws_mList.f k x46 x30).bind fun t171 => ((impl_IsWinning.f k x107000 x107001 t171).bind fun bt174 => ((laws_mOthers.f k t171 x30).bind fun t176 => ((impl_IsWinning.f k x107000 x107001 t176).bind fun bt179 => (if bt174.2 = true then (if bt179.2 = true then (if bt174.1 = true then (if bt179.1 = true then (if x22 = true then (none) else (laws_FnLeastSetsWin.j2 k x1 x6 x10 x22 x26 x30 x45 x46 t171 bt174.1 bt179.1 false x107000 x107001)) else (laws_FnLeastSetsWin.j2 k x1 x6 x10 x22 x26 x30 x45 x46 t171 bt174.1 bt179.1 false x107000 x107001)) else (if bt179.1 = true then (laws_FnLeastSetsWin.j2 k x1 x6 x10 x22 x26 x30 x45 x46 t171 bt174.1 bt179.1 false x107000 x107001) else (laws_FnLeastSetsWin.j2 k x1 x6 x10 x22 x26 x30 x45 x46 t171 bt174.1 bt179.1 x26 x107000 x107001))) else (none)) else (none)))))) else (if x22 = true then (laws_FnLeastSetsWin.j7 k x1 x6 x10 ((x45 == 0) != x26)) else (laws_FnLeastSetsWin.j7 k x1 x6 x10 ((x45 == 0) != false)))) else (none)
def laws_FnLeastSetsWin.j2 : Nat → List Int → List (List Int) → List (List Int) → Bool → Bool → Int → Int → Int → List Int → Bool → Bool → Bool → Int → List Int → Option (Bool)
 | 0, _, _, _, _, _, _, _, _, _, _, _, _, _, _ => none
 | k + 1, x1, x6, x10, x22, x26, x30, x45, x46, x47, x48, x50, x371, x107000, x107001 => if x371 = true then (none) else (if (x48 == x50) = true then (laws_FnLeastSetsWin.j3 k x1 x6 x10 x22 x26 x30 (wrap64 (x45 + 1)) x46 x47 x48 x107000 x107001) else (laws_FnLeastSetsWin.j3 k x1 x6 x10 x22 x26 x30 x45 x46 x47 x48 x107000 x107001))
def laws_FnLeastSetsWin.j3 : Nat → List Int → List (List Int) → List (List Int) → Bool → Bool → Int → Int → Int → List Int → Bool → Int → List Int → Option (Bool)
 | 0, _, _, _, _, _, _, _, _, _, _, _, _ => none
 | k + 1, x1, x6, x10, x22, x26, x30, x45, x46, x47, x48, x107000, x107001 => laws_FnLeastSetsWin.l2 k x1 x6 x10 x22 x26 x30 x45 x46 x47 x48 true 0 x107000 x107001
def laws_FnLeastSetsWin.l2 : Nat → List Int → List (List Int) → List (List Int) → Bool → Bool → Int → Int → Int → List Int → Bool → Bool → Int → Int → List Int → Option (Bool)
 | 0, _, _, _, _, _, _, _, _, _, _, _, _, _, _ => none
 | k + 1, x1, x6, x10, x22, x26, x30, x45, x46, x47, x48, x52, x53, x107000, x107001 => if x53 < x30 then (if 0 ≤ x53 then ((laws_mList.f k (Go.bits .xor .i64 x46 (shl .i64 1 x53)) x30).bind fun t181 => ((impl_IsWinning.f k x107000 x107001 t181).bind fun bt184 => (if bt184.2 = true then (if x48 = true then (if (Int.tmod (shr .i64 x46 x53) 2) = 1 then (if bt184.1 = true then (laws_FnLeastSetsWin.j5 k x1 x6 x10 x22 x26 x30 x45 x46 x47 x48 x52 x53 true x107000 x107001) else (laws_FnLeastSetsWin.j5 k x1 x6 x10 x22 x26 x30 x45 x46 x47 x48 x52 x53 false x107000 x107001)) else (laws_FnLeastSetsWin.j5 k x1 x6 x10 x22 x26 x30 x45 x46 x47 x48 x52 x53 false x107000 x107001)) else (if (Int.tmod (shr .i64 x46 x53) 2) = 0 then (laws_FnLeastSetsWin.j5 k x1 x6 x10 x22 x26 x30 x45 x46 x47 x48 x52 x53 (!bt184.1) x107000 x107001) else (laws_FnLeastSetsWin.j5 k x1 x6 x10 x22 x26 x30 x45 x46 x47 x48 x52 x53 false x107000 x107001))) else (none)))) else (none)) else (if x48 = true then ((laws_mIn.f k x6 x47).bind fun t186 => (if (t186 != x52) = true then (none) else ((laws_mIn.f k x10 x47).bind fun t187 => (if t187 = true then (none) else (laws_FnLeastSetsWin.j6 k x1 x6 x10 x22 x26 x30 x45 x46 false x107000 x107001))))) else ((laws_mIn.f k x10 x47).bind fun t188 => (if (t188 != x52) = true then (none) else ((laws_mIn.f k x6 x47).bind fun t189 => (laws_FnLeastSetsWin.j6 k x1 x6 x10 x22 x26 x30 x45 x46 t189 x107000 x107001)))))
def laws_FnLeastSetsWin.j5 : Nat → List Int → List (List Int) → List (List Int) → Bool → Bool → Int → Int → Int → List Int → Bool → Bool → Int → Bool → Int → List Int → Option (Bool)
 | 0, _, _, _, _, _, _, _, _, _, _, _, _, _, _, _ => none
 | k + 1, x1, x6, x10, x22, x26, x30, x45, x46, x47, x48, x52, x53, x421, x107000, x107001 => if x421 = true then (laws_FnLeastSetsWin.l2 k x1 x6 x10 x22 x26 x30 x45 x46 x47 x48 false (wrap64 (x53 + 1)) x107000 x107001) else (laws_FnLeastSetsWin.l2 k x1 x6 x10 x22 x26 x30 x45 x46 x47 x48 x52 (wrap64 (x53 + 1)) x107000 x107001)
def laws_FnLeastSetsWin.j6 : Nat → List Int → List (List Int) → List (List Int) → Bool → Bool → Int → Int → Int → Bool → Int → List Int → Option (Bool)
 | 0, _, _, _, _, _, _, _, _, _, _, _ => none
 | k + 1, x1, x6, x10, x22, x26, x30, x45, x46, x457, x107000, x107001 => if x457 = true then (none) else (laws_FnLeastSetsWin.l1 k x1 x6 x10 x22 x26 x30 x45 (wrap64 (x46 + 1)) x107000 x107001)
def laws_FnLeastSetsWin.j7 : Nat → List Int → List (List Int) → List (List Int) → Bool → Option (Bool)
 | 0, _, _, _, _ => none
 | k + 1, x1, x6, x10, x464 => if x464 = true then (none) else (laws_FnLeastSetsWin.l3 k x1 x6 x10 1)
def laws_FnLeastSetsWin.l3 : Nat → List Int → List (List Int) → List (List Int) → Int → Option (Bool)
 | 0, _, _, _, _ => none
 | k + 1, x1, x6, x10, x57 => if x57 < (x6.length : Int) then (if 0 ≤ (wrap64 (x57 - 1)) then (if (wrap64 (x57 - 1)) < (x6.length : Int) then (if 0 ≤ x57 then ((laws_mBefore.f k (rd_L2 x6 (wrap64 (x57 - 1))) (rd_L2 x6 x57)).bind fun t192 => (if t192 = true then (laws_FnLeastSetsWin.l3 k x1 x6 x10 (wrap64 (x57 + 1))) else (none))) else (none)) else (none)) else (none)) else (laws_FnLeastSetsWin.l4 k x1 x10 1)
def laws_FnLeastSetsWin.l4 : Nat → List Int → List (List Int) → Int → Option (Bool)
 | 0, _, _, _ => none
 | k + 1, x1, x10, x58 => if x58 < (x10.length : Int) then (if 0 ≤ (wrap64 (x58 - 1)) then (if (wrap64 (x58 - 1)) < (x10.length : Int) then (if 0 ≤ x58 then ((laws_mBefore.f k (rd_L2 x10 (wrap64 (x58 - 1))) (rd_L2 x10 x58)).bind fun t195 => (if t195 = true then (laws_FnLeastSetsWin.l4 k x1 x10 (wrap64 (x58 + 1))) else (none))) else (none)) else (none)) else (none)) else (laws_FnLeastSetsWin.j10 k x1)
end
def laws_FnLeastSetsWin.f (k : Nat) (l0 : List Int) (l1 : List Int) : Option (Bool) := (laws_big.f l0 l1).bind fun t101 => (if t101 = true then (some true) else ((spec_DrawLeastWinning.f k l0).bind fun bt102 => ((impl_LeastWinning.f k bt102.1 bt102.2).bind fun bt107 => ((spec_LeastWinning.f k bt102.1 bt102.2).bind fun bt111 => ((impl_GreatestLosing.f k bt102.1 bt102.2).bind fun bt115 => ((spec_GreatestLosing.f k bt102.1 bt102.2).bind fun bt119 => ((impl_LeastBlocking.f k bt102.1 bt102.2).bind fun bt123 => ((spec_LeastBlocking.f k bt102.1 bt102.2).bind fun bt127 => ((impl_CountWinning.f k bt102.1 bt102.2).bind fun bt131 => ((spec_CountWinning.f k bt102.1 bt102.2).bind fun bt133 => ((impl_IsProper.f k bt102.1 bt102.2).bind fun bt135 => ((spec_IsProper.f k bt102.1 bt102.2).bind fun bt137 => ((impl_IsStrong.f k bt102.1 bt102.2).bind fun bt139 => ((spec_IsStrong.f k bt102.1 bt102.2).bind fun bt141 => (if (bt107.2 != bt111.2) = true then (none) else ((laws_mSets.f k bt107.1 bt111.1).bind fun t143 => (if t143 = true then (if (bt115.2 != bt119.2) = true then (none) else ((laws_mSets.f k bt115.1 bt119.1).bind fun t144 => (if t144 = true then (if (bt123.2 != bt127.2) = true then (none) else ((laws_mSets.f k bt123.1 bt127.1).bind fun t145 => (if t145 = true then (if (bt131.2 != bt133.2) = true then (none) else (if bt131.1 = bt133.1 then (if (bt135.2 != bt137.2) = true then (none) else (if (bt135.1 != bt137.1) = true then (none) else (if (bt139.2 != bt141.2) = true then (none) else (if (bt139.1 != bt141.1) = true then (none) else (if (bt115.2 != bt107.2) = true then (none) else (if (bt123.2 != bt107.2) = true then (none) else (if (bt131.2 != bt107.2) = true then (none) else (if (bt135.2 != bt107.2) = true then (none) else (if (bt139.2 != bt107.2) = true then (none) else ((impl_IsCommittee.f k bt102.1 bt102.2).bind fun t146 => (if (bt107.2 != t146) = true then (none) else (if bt107.2 = true then ((impl_DualCommittee.f k bt102.1 bt102.2).bind fun bt147 => ((impl_LeastWinning.f k bt147.1 bt147.2.1).bind fun bt153 => ((impl_DualCommittee.f k bt147.1 bt147.2.1).bind fun bt157 => ((impl_IsStrong.f k bt147.1 bt147.2.1).bind fun bt163 => ((impl_CountWinning.f k bt147.1 bt147.2.1).bind fun bt165 => (if bt147.2.2 = true then (if bt153.2 = true then ((laws_mSets.f k bt153.1 bt123.1).bind fun t167 => (if t167 = true then (if bt157.2.2 = true then ((laws_mCommittee.f k bt157.1 bt157.2.1 bt102.1 bt102.2).bind fun t168 => (if t168 = true then (if bt163.2 = true then (if (bt163.1 != bt135.1) = true then (none) else (if bt165.2 = true then (if bt165.1 = (wrap64 ((shl .i64 1 (bt102.2.length : Int)) - bt131.1)) then (if (bt107.1.length : Int) < 1 then (none) else (if (bt115.1.length : Int) < 1 then (none) else (laws_FnLeastSetsWin.l0 k l1 bt107.1 bt115.1 bt131.1 bt135.1 bt139.1 (bt102.2.length : Int) 0 0 bt102.1 bt102.2))) else (none)) else (none))) else (none)) else (none))) else (none)) else (none))) else (none)) else (none))))))) else (laws_FnLeastSetsWin.j10 k l1))))))))))))) else (none))) else (none)))) else (none)))) else (none))))))))))))))))))
def laws_FnLeastSetsWin.T43 : Bool × List (List Nat × List Nat) := (true, [([], []), ([], []), ([], []), ([1, 2], [1, 2]), ([0, 3, 3], [0, 3]), ([4], [4]), ([5], [5]), ([5], [5]), ([6, 4, 0, 1, 2, 3, 4, 5, 6], [6]), ([7, 8, 0, 1, 2, 3, 4, 5, 6, 7, 8], [7])])
def laws_FnLeastSetsWin.B43 : List Nat := [0, 0, 0, 6, 15, 31, 63, 63, 127, 511]
theorem laws_FnLeastSetsWin.tab43 : rtab .any (opsOf Tryz.f4 43) = laws_FnLeastSetsWin.T43 := by kernel_rfl
theorem laws_FnLeastSetsWin.bits43 : waitsOk laws_FnLeastSetsWin.T43.2 laws_FnLeastSetsWin.B43 = true := by kernel_rfl
def laws_FnLeastSetsWin.T65 : Bool × List (List Nat × List Nat) := (true, [([], []), ([], []), ([1], [1]), ([0, 2], [0, 2]), ([3], [3]), ([], []), ([], []), ([5, 6], [5, 6]), ([7], [7]), ([4, 8], [4, 8]), ([9], [9])])
def laws_FnLeastSetsWin.B65 : List Nat := [0, 0, 2, 7, 15, 0, 0, 96, 224, 511, 1023]
theorem laws_FnLeastSetsWin.tab65 : rtab .any (opsOf Tryz.f4 65) = laws_FnLeastSetsWin.T65 := by kernel_rfl
theorem laws_FnLeastSetsWin.bits65 : waitsOk laws_FnLeastSetsWin.T65.2 laws_FnLeastSetsWin.B65 = true := by kernel_rfl
def laws_FnLeastSetsWin.T70 : Bool × List (List Nat × List Nat) := (true, [([], []), ([], []), ([1], [1]), ([0, 2], [0, 2]), ([3], [3]), ([], []), ([], []), ([5, 6], [5, 6]), ([7], [7]), ([4, 8], [4, 8]), ([9], [9])])
def laws_FnLeastSetsWin.B70 : List Nat := [0, 0, 2, 7, 15, 0, 0, 96, 224, 511, 1023]
theorem laws_FnLeastSetsWin.tab70 : rtab .any (opsOf Tryz.f4 70) = laws_FnLeastSetsWin.T70 := by kernel_rfl
theorem laws_FnLeastSetsWin.bits70 : waitsOk laws_FnLeastSetsWin.T70.2 laws_FnLeastSetsWin.B70 = true := by kernel_rfl
theorem laws_FnLeastSetsWin.calls (k : Nat) (A0 : Option Addr) (c0 : Nat) (l0 : List Int) (A1 : Option Addr) (c1 : Nat) (l1 : List Int) (r : Bool) (w : World) (hr0 : Kd.C (Kd.int .u8) w A0 l0.length l0) (hc0 : l0.length ≤ c0) (hr1 : Kd.C (Kd.int .u8) w A1 l1.length l1) (hc1 : l1.length ≤ c1) (h : laws_FnLeastSetsWin.f k l0 l1 = some r) :
  Calls Tryz.prog 4 #[.slice A0 l0.length c0, .slice A1 l1.length c1] w fun e w' => e = .returned (.bool r) ∧ Below w.heap.size w w' := by
 have hu26 := Tryz.underlying26
 have HR0 := Aside0.mk hr0
 have HC0 := Aside0.mk hc0
 clear hr0 hc0
 have HR1 := Aside0.mk hr1
 have HC1 := Aside0.mk hc1
 clear hr1 hc1
 have HB := Aside0.mk (Below.refl w.heap.size w)
 have H : ((laws_big.f l0 l1).bind fun t101 => (if t101 = true then (some true) else ((spec_DrawLeastWinning.f k l0).bind fun bt102 => ((impl_LeastWinning.f k bt102.1 bt102.2).bind fun bt107 => ((spec_LeastWinning.f k bt102.1 bt102.2).bind fun bt111 => ((impl_GreatestLosing.f k bt102.1 bt102.2).bind fun bt115 => ((spec_GreatestLosing.f k bt102.1 bt102.2).bind fun bt119 => ((impl_LeastBlocking.f k bt102.1 bt102.2).bind fun bt123 => ((spec_LeastBlocking.f k bt102.1 bt102.2).bind fun bt127 => ((impl_CountWinning.f k bt102.1 bt102.2).bind fun bt131 => ((spec_CountWinning.f k bt102.1 bt102.2).bind fun bt133 => ((impl_IsProper.f k bt102.1 bt102.2).bind fun bt135 => ((spec_IsProper.f k bt102.1 bt102.2).bind fun bt137 => ((impl_IsStrong.f k bt102.1 bt102.2).bind fun bt139 => ((spec_IsStrong.f k bt102.1 bt102.2).bind fun bt141 => (if (bt107.2 != bt111.2) = true then (none) else ((laws_mSets.f k bt107.1 bt111.1).bind fun t143 => (if t143 = true then (if (bt115.2 != bt119.2) = true then (none) else ((laws_mSets.f k bt115.1 bt119.1).bind fun t144 => (if t144 = true then (if (bt123.2 != bt127.2) = true then (none) else ((laws_mSets.f k bt123.1 bt127.1).bind fun t145 => (if t145 = true then (if (bt131.2 != bt133.2) = true then (none) else (if bt131.1 = bt133.1 then (if (bt135.2 != bt137.2) = true then (none) else (if (bt135.1 != bt137.1) = true then (none) else (if (bt139.2 != bt141.2) = true then (none) else (if (bt139.1 != bt141.1) = true then (none) else (if (bt115.2 != bt107.2) = true then (none) else (if (bt123.2 != bt107.2) = true then (none) else (if (bt131.2 != bt107.2) = true then (none) else (if (bt135.2 != bt107.2) = true then (none) else (if (bt139.2 != bt107.2) = true then (none) else ((impl_IsCommittee.f k bt102.1 bt102.2).bind fun t146 => (if (bt107.2 != t146) = true then (none) else (if bt107.2 = true then ((impl_DualCommittee.f k bt102.1 bt102.2).bind fun bt147 => ((impl_LeastWinning.f k bt147.1 bt147.2.1).bind fun bt153 => ((impl_DualCommittee.f k bt147.1 bt147.2.1).bind fun bt157 => ((impl_IsStrong.f k bt147.1 bt147.2.1).bind fun bt163 => ((impl_CountWinning.f k bt147.1 bt147.2.1).bind fun bt165 => (if bt147.2.2 = true then (if bt153.2 = true then ((laws_mSets.f k bt153.1 bt123.1).bind fun t167 => (if t167 = true then (if bt157.2.2 = true then ((laws_mCommittee.f k bt157.1 bt157.2.1 bt102.1 bt102.2).bind fun t168 => (if t168 = true then (if bt163.2 = true then (if (bt163.1 != bt135.1) = true then (none) else (if bt165.2 = true then (if bt165.1 = (wrap64 ((shl .i64 1 (bt102.2.length : Int)) - bt131.1)) then (if (bt107.1.length : Int) < 1 then (none) else (if (bt115.1.length : Int) < 1 then (none) else (laws_FnLeastSetsWin.l0 k l1 bt107.1 bt115.1 bt131.1 bt135.1 bt139.1 (bt102.2.length : Int) 0 0 bt102.1 bt102.2))) else (none)) else (none))) else (none)) else (none))) else (none)) else (none))) else (none)) else (none))))))) else (laws_FnLeastSetsWin.j10 k l1))))))))))))) else (none))) else (none)))) else (none)))) else (none))))))))))))))))))) = some r := h
 clear h
 replace H := oA H
 obtain ⟨t101, A3, H⟩ := H
 (try dsimp only at H)
 by_cases c4 : t101 = true
 ·subst c4
  replace H := iT H
  as_aux_lemma =>
   obtain rfl := Option.some.inj H
   go_enter Tryz.func4, Tryz.ntmps4
   go_wp2_with (first | ((with_reducible refine gate_callee (f := 10) rfl ?_); refine gL 67 Tryz.func10 #[.slice A0 l0.length c0, .slice A1 l1.length c1] ?_; (with_reducible refine (laws_big.calls _ _ l0 _ _ l1 true _ HR0.out HC0.out HR1.out HC1.out A3.out).mono ?_); rintro e w' ⟨rfl, ⟨nd, rfl⟩⟩; refine ⟨_, rfl, ?_⟩))
   go_ret
   exact ⟨fR, wB⟩
 ·replace c4 := Bool.eq_false_iff.mpr c4
  subst c4
  replace H := iF H
  replace H := oB H
  obtain ⟨⟨t102, t103⟩, A50, H⟩ := H
  (try dsimp only at H)
  have A5 := Aside0.mk A50
  clear A50
  replace H := oB H
  obtain ⟨⟨t107, t110⟩, A60, H⟩ := H
  (try dsimp only at H)
  have A6 := Aside0.mk A60
  clear A60
  replace H := oB H
  obtain ⟨⟨t111, t114⟩, A70, H⟩ := H
  (try dsimp only at H)
  have A7 := Aside0.mk A70
  clear A70
  replace H := oB H
  obtain ⟨⟨t115, t118⟩, A80, H⟩ := H
  (try dsimp only at H)
  have A8 := Aside0.mk A80
  clear A80
  replace H := oB H
  obtain ⟨⟨t119, t122⟩, A90, H⟩ := H
  (try dsimp only at H)
  have A9 := Aside0.mk A90
  clear A90
  replace H := oB H
  obtain ⟨⟨t123, t126⟩, A100, H⟩ := H
  (try dsimp only at H)
  have A10 := Aside0.mk A100
  clear A100
  replace H := oB H
  obtain ⟨⟨t127, t130⟩, A110, H⟩ := H
  (try dsimp only at H)
  have A11 := Aside0.mk A110
  clear A110
  replace H := oB H
  obtain ⟨⟨t131, t132⟩, A120, H⟩ := H
  (try dsimp only at H)
  have A12 := Aside0.mk A120
  clear A120
  replace H := oB H
  obtain ⟨⟨t133, t134⟩, A130, H⟩ := H
  (try dsimp only at H)
  have A13 := Aside0.mk A130
  clear A130
  replace H := oB H
  obtain ⟨⟨t135, t136⟩, A140, H⟩ := H
  (try dsimp only at H)
  have A14 := Aside0.mk A140
  clear A140
  replace H := oB H
  obtain ⟨⟨t137, t138⟩, A150, H⟩ := H
  (try dsimp only at H)
  have A15 := Aside0.mk A150
  clear A150
  replace H := oB H
  obtain ⟨⟨t139, t140⟩, A160, H⟩ := H
  (try dsimp only at H)
  have A16 := Aside0.mk A160
  clear A160
  replace H := oB H
  obtain ⟨⟨t141, t142⟩, A170, H⟩ := H
  (try dsimp only at H)
  have A17 := Aside0.mk A170
  clear A170
  replace H := ite_no H
  obtain ⟨c18, H⟩ := H
  replace c18 := of_nbne c18
  subst t110
  replace H := oA H
  obtain ⟨t143, A19, H⟩ := H
  (try dsimp only at H)
  replace H := ite_yes H
  obtain ⟨c20, H⟩ := H
  subst c20
  replace H := ite_no H
  obtain ⟨c21, H⟩ := H
  replace c21 := of_nbne c21
  subst t118
  replace H := oA H
  obtain ⟨t144, A22, H⟩ := H
  (try dsimp only at H)
  replace H := ite_yes H
  obtain ⟨c23, H⟩ := H
  subst c23
  replace H := ite_no H
  obtain ⟨c24, H⟩ := H
  replace c24 := of_nbne c24
  subst t126
  replace H := oA H
  obtain ⟨t145, A25, H⟩ := H
  (try dsimp only at H)
  replace H := ite_yes H
  obtain ⟨c26, H⟩ := H
  subst c26
  replace H := ite_no H
  obtain ⟨c27, H⟩ := H
  replace c27 := of_nbne c27
  subst t132
  replace H := ite_yes H
  obtain ⟨c28, H⟩ := H
  have c28b0 : (t131 == t133) = true := beq_iff_eq.mpr c28
  have c28b1 : (t131 != t133) = false := bne_eq_false_iff_eq.mpr c28
  clear c28
  replace H := ite_no H
  obtain ⟨c29, H⟩ := H
  replace c29 := of_nbne c29
  subst t136
  replace H := ite_no H
  obtain ⟨c30, H⟩ := H
  replace c30 := of_nbne c30
  subst t135
  replace H := ite_no H
  obtain ⟨c31, H⟩ := H
  replace c31 := of_nbne c31
  subst t140
  replace H := ite_no H
  obtain ⟨c32, H⟩ := H
  replace c32 := of_nbne c32
  subst t139
  replace H := ite_no H
  obtain ⟨c33, H⟩ := H
  replace c33 := of_nbne c33
  subst t122
  replace H := ite_no H
  obtain ⟨c34, H⟩ := H
  replace c34 := of_nbne c34
  subst t130
  replace H := ite_no H
  obtain ⟨c35, H⟩ := H
  replace c35 := of_nbne c35
  subst t134
  replace H := ite_no H
  obtain ⟨c36, H⟩ := H
  replace c36 := of_nbne c36
  subst t138
  replace H := ite_no H
  obtain ⟨c37, H⟩ := H
  replace c37 := of_nbne c37
  subst t142
  replace H := oA H
  obtain ⟨t146, A38, H⟩ := H
  (try dsimp only at H)
  replace H := ite_no H
  obtain ⟨c39, H⟩ := H
  replace c39 := of_nbne c39
  subst t114
  have HC40 := Aside0.mk H
  clear H
  go_enter Tryz.func4, Tryz.ntmps4
  go_upto_region 3 with (first | ((with_reducible refine gate_callee (f := 10) rfl ?_); refine gL 67 Tryz.func10 #[.slice A0 l0.length c0, .slice A1 l1.length c1] ?_; (with_reducible refine (laws_big.calls _ _ l0 _ _ l1 false _ ?side1 ?side2 ?side3 ?side4 A3.out).mono ?_); (case side1 => have hx_ := HR0.out; exact cC); (case side2 => exact HC0.out); (case side3 => have hx_ := HR1.out; exact cC); (case side4 => exact HC1.out); rintro e w' ⟨rfl, ⟨nd, rfl⟩⟩; refine ⟨_, rfl, ?_⟩))
  go_upto_region 4 with (first | ((with_reducible refine gate_callee (f := 35) rfl ?_); refine gL 69 Tryz.func35 #[.slice A0 l0.length c0] ?_; (with_reducible refine (spec_DrawLeastWinning.calls k _ _ l0 t102 t103 _ ?side1 ?side2 A5.out).mono ?_); (case side1 => have hx_ := HR0.out; exact cC); (case side2 => exact HC0.out); rintro e w41 ⟨v104, rfl, ho0, hb⟩; refine ⟨_, rfl, ?_⟩; have HO105 := Aside0.mk (Kd.R_lower ho0 (below_size (by repeat (first | exact HB.out | apply ba | apply bd | apply be)))); replace HB := sQ hb; (try clear hb); (try clear ho0)) | ((with_reducible refine gate_dst (N := 5) rfl ?_); (try (refine gate_guard (by rfl) ?_; dsimp only)); refine xE (N := 5) (cs := #[.int .i64 0, .slice none 0 0]) (t := 26) ?_; intro gb106 hg w42 BK106 hb; have GW106 := Aside0.mk ((by rw [hg]; exact (below_size (by repeat (first | exact HB.out | apply ba | apply bd | apply be))) : w.heap.size ≤ gb106)); have GE106 := Aside0.mk ((by rw [hg]; exact (below_size (by repeat (first | exact HB.out | apply ba | apply bd | apply be))) : w.heap.size ≤ gb106)); replace HO105 := rP HO105 hb; replace HB := sQ hb; clear hb hg; have hcz43_0 := cZ BK106 0; have hcz43_1 := cZ BK106 1; have hfz43_0 := fZ BK106 0; have hfz43_1 := fZ BK106 1; obtain ⟨Ao44, co44, eo44⟩ := Kd.R_slice HO105.out; subst eo44))
  go_upto_region 5 with (first | ((with_reducible refine gate_callee (f := 36) rfl ?_); refine gL 72 Tryz.func36 #[.agg #[.int .i64 t102, .slice Ao44 t103.length co44]] ?_; (with_reducible refine (impl_LeastWinning.calls k t102 _ _ t103 t107 t146 _ ?side1 ?side2 A6.out).mono ?_); (case side1 => refine (Kd.R_reads' (e := 3) (base := w.heap.size) (ok := fun k_ => True) (n := t103.length) (c := co44) ?_).2.2; exact (by (with_reducible repeat (first | apply qA | apply qN | apply qD)); exact (Kd.R_mono (Kd.R_far (p := ⟨gb106, 1, none⟩) (Kd.R_far (p := ⟨gb106, 0, none⟩) (Kd.R_types HO105.out BK106.out (by decide)) (fun _ hk => hk.2) (.int .i64 t102)) (fun _ hk => hk.2) (.slice Ao44 t103.length co44)) (fun _ h_ => h_.1)))); (case side2 => exact (Kd.R_reads' HO105.out).2.1); rintro e w45 ⟨v108, rfl, ho0, hb⟩; refine ⟨_, rfl, ?_⟩; have HO109 := Aside0.mk (Kd.S_lower (Kd.S_new' ho0 (Kd.R_lt (by (with_reducible repeat (first | apply qA | apply qN | apply qD)); exact (Kd.R_mono (Kd.R_far (p := ⟨gb106, 1, none⟩) (Kd.R_far (p := ⟨gb106, 0, none⟩) (Kd.R_types HO105.out BK106.out (by decide)) (fun _ hk => hk.2) (.int .i64 t102)) (fun _ hk => hk.2) (.slice Ao44 t103.length co44)) (fun _ h_ => h_.1))))) (below_size (by repeat (first | exact HB.out | apply ba | apply bd | apply be | refine bs ?_ GE106.out)))); replace HO105 := Aside0.mk (Kd.R_below (by (with_reducible repeat (first | apply qA | apply qN | apply qD)); exact (Kd.R_mono (Kd.R_far (p := ⟨gb106, 1, none⟩) (Kd.R_far (p := ⟨gb106, 0, none⟩) (Kd.R_types HO105.out BK106.out (by decide)) (fun _ hk => hk.2) (.int .i64 t102)) (fun _ hk => hk.2) (.slice Ao44 t103.length co44)) (fun _ h_ => h_.1))) hb); replace BK106 := Aside0.mk (blk_below (g := gb106) (o := .cells #[.int .i64 t102, .slice Ao44 t103.length co44] 26 (0, 0)) (by (with_reducible repeat (first | refine kN ?_ _ | refine kD ?_ | refine kA ?_ _)); refine blk_put (cs := #[.int .i64 t102, .slice none 0 0]) ?_ 1 _ rfl; (with_reducible repeat (first | refine kN ?_ _ | refine kD ?_ | refine kA ?_ _)); refine blk_put (cs := #[.int .i64 0, .slice none 0 0]) ?_ 0 _ rfl; (with_reducible repeat (first | refine kN ?_ _ | refine kD ?_ | refine kA ?_ _)); exact BK106.out) hb); replace HB := sQ hb; (try clear hb); (try clear ho0); (try clear hcz43_0 hcz43_1 hfz43_0 hfz43_1); have hcz46_0 := cZ BK106 0; have hcz46_1 := cZ BK106 1; have hfz46_0 := fZ BK106 0; have hfz46_1 := fZ BK106 1))
  go_upto_region 6 with (first | ((with_reducible refine gate_callee (f := 37) rfl ?_); refine gL 77 Tryz.func37 #[.agg #[.int .i64 t102, .slice Ao44 t103.length co44]] ?_; (with_reducible refine (spec_LeastWinning.calls k t102 _ _ t103 t111 t146 _ ?side1 ?side2 A7.out).mono ?_); (case side1 => have hx_ := (Kd.R_reads' HO105.out).2.2; exact cC); (case side2 => exact (Kd.R_reads' HO105.out).2.1); rintro e w47 ⟨v112, rfl, ho0, hb⟩; refine ⟨_, rfl, ?_⟩; have HO113 := Aside0.mk (Kd.S_lower (Kd.S_new' (Kd.S_new' ho0 (Kd.R_lt (rQ HO105))) (Kd.S_lt (tQ HO109))) (below_size (by repeat (first | exact HB.out | apply ba | apply bd | apply be | refine bs ?_ GE106.out)))); replace HO105 := rP HO105 hb; replace HO109 := tE HO109 (Kd.S_base ho0) hb; replace BK106 := bP BK106 hb; replace HB := sQ hb; (try clear hb); (try clear ho0); (try clear hcz46_0 hcz46_1 hfz46_0 hfz46_1); have hcz48_0 := cZ BK106 0; have hcz48_1 := cZ BK106 1; have hfz48_0 := fZ BK106 0; have hfz48_1 := fZ BK106 1))
  go_upto_region 7 with (first | ((with_reducible refine gate_callee (f := 38) rfl ?_); refine gL 82 Tryz.func38 #[.agg #[.int .i64 t102, .slice Ao44 t103.length co44]] ?_; (with_reducible refine (impl_GreatestLosing.calls k t102 _ _ t103 t115 t146 _ ?side1 ?side2 A8.out).mono ?_); (case side1 => have hx_ := (Kd.R_reads' HO105.out).2.2; exact cC); (case side2 => exact (Kd.R_reads' HO105.out).2.1); rintro e w49 ⟨v116, rfl, ho0, hb⟩; refine ⟨_, rfl, ?_⟩; have HO117 := Aside0.mk (Kd.S_lower (Kd.S_new' (Kd.S_new' (Kd.S_new' ho0 (Kd.R_lt (rQ HO105))) (Kd.S_lt (tQ HO109))) (Kd.S_lt (tQ HO113))) (below_size (by repeat (first | exact HB.out | apply ba | apply bd | apply be | refine bs ?_ GE106.out)))); replace HO105 := rP HO105 hb; replace HO109 := tE HO109 (Kd.S_base ho0) hb; replace HO113 := tE HO113 (Kd.S_base ho0) hb; replace BK106 := bP BK106 hb; replace HB := sQ hb; (try clear hb); (try clear ho0); (try clear hcz48_0 hcz48_1 hfz48_0 hfz48_1); have hcz50_0 := cZ BK106 0; have hcz50_1 := cZ BK106 1; have hfz50_0 := fZ BK106 0; have hfz50_1 := fZ BK106 1))
  go_upto_region 8 with (first | ((with_reducible refine gate_callee (f := 39) rfl ?_); refine gL 87 Tryz.func39 #[.agg #[.int .i64 t102, .slice Ao44 t103.length co44]] ?_; (with_reducible refine (spec_GreatestLosing.calls k t102 _ _ t103 t119 t146 _ ?side1 ?side2 A9.out).mono ?_); (case side1 => have hx_ := (Kd.R_reads' HO105.out).2.2; exact cC); (case side2 => exact (Kd.R_reads' HO105.out).2.1); rintro e w51 ⟨v120, rfl, ho0, hb⟩; refine ⟨_, rfl, ?_⟩; have HO121 := Aside0.mk (Kd.S_lower (Kd.S_new' (Kd.S_new' (Kd.S_new' (Kd.S_new' ho0 (Kd.R_lt (rQ HO105))) (Kd.S_lt (tQ HO109))) (Kd.S_lt (tQ HO113))) (Kd.S_lt (tQ HO117))) (below_size (by repeat (first | exact HB.out | apply ba | apply bd | apply be | refine bs ?_ GE106.out)))); replace HO105 := rP HO105 hb; replace HO109 := tE HO109 (Kd.S_base ho0) hb; replace HO113 := tE HO113 (Kd.S_base ho0) hb; replace HO117 := tE HO117 (Kd.S_base ho0) hb; replace BK106 := bP BK106 hb; replace HB := sQ hb; (try clear hb); (try clear ho0); (try clear hcz50_0 hcz50_1 hfz50_0 hfz50_1); have hcz52_0 := cZ BK106 0; have hcz52_1 := cZ BK106 1; have hfz52_0 := fZ BK106 0; have hfz52_1 := fZ BK106 1))
  go_upto_region 9 with (first | ((with_reducible refine gate_callee (f := 40) rfl ?_); refine gL 92 Tryz.func40 #[.agg #[.int .i64 t102, .slice Ao44 t103.length co44]] ?_; (with_reducible refine (impl_LeastBlocking.calls k t102 _ _ t103 t123 t146 _ ?side1 ?side2 A10.out).mono ?_); (case side1 => have hx_ := (Kd.R_reads' HO105.out).2.2; exact cC); (case side2 => exact (Kd.R_reads' HO105.out).2.1); rintro e w53 ⟨v124, rfl, ho0, hb⟩; refine ⟨_, rfl, ?_⟩; have HO125 := Aside0.mk (Kd.S_lower (Kd.S_new' (Kd.S_new' (Kd.S_new' (Kd.S_new' (Kd.S_new' ho0 (Kd.R_lt (rQ HO105))) (Kd.S_lt (tQ HO109))) (Kd.S_lt (tQ HO113))) (Kd.S_lt (tQ HO117))) (Kd.S_lt (tQ HO121))) (below_size (by repeat (first | exact HB.out | apply ba | apply bd | apply be | refine bs ?_ GE106.out)))); replace HO105 := rP HO105 hb; replace HO109 := tE HO109 (Kd.S_base ho0) hb; replace HO113 := tE HO113 (Kd.S_base ho0) hb; replace HO117 := tE HO117 (Kd.S_base ho0) hb; replace HO121 := tE HO121 (Kd.S_base ho0) hb; replace BK106 := bP BK106 hb; replace HB := sQ hb; (try clear hb); (try clear ho0); (try clear hcz52_0 hcz52_1 hfz52_0 hfz52_1); have hcz54_0 := cZ BK106 0; have hcz54_1 := cZ BK106 1; have hfz54_0 := fZ BK106 0; have hfz54_1 := fZ BK106 1))
  go_upto_region 10 with (first | ((with_reducible refine gate_callee (f := 41) rfl ?_); refine gL 97 Tryz.func41 #[.agg #[.int .i64 t102, .slice Ao44 t103.length co44]] ?_; (with_reducible refine (spec_LeastBlocking.calls k t102 _ _ t103 t127 t146 _ ?side1 ?side2 A11.out).mono ?_); (case side1 => have hx_ := (Kd.R_reads' HO105.out).2.2; exact cC); (case side2 => exact (Kd.R_reads' HO105.out).2.1); rintro e w55 ⟨v128, rfl, ho0, hb⟩; refine ⟨_, rfl, ?_⟩; have HO129 := Aside0.mk (Kd.S_lower (Kd.S_new' (Kd.S_new' (Kd.S_new' (Kd.S_new' (Kd.S_new' (Kd.S_new' ho0 (Kd.R_lt (rQ HO105))) (Kd.S_lt (tQ HO109))) (Kd.S_lt (tQ HO113))) (Kd.S_lt (tQ HO117))) (Kd.S_lt (tQ HO121))) (Kd.S_lt (tQ HO125))) (below_size (by repeat (first | exact HB.out | apply ba | apply bd | apply be | refine bs ?_ GE106.out)))); replace HO105 := rP HO105 hb; replace HO109 := tE HO109 (Kd.S_base ho0) hb; replace HO113 := tE HO113 (Kd.S_base ho0) hb; replace HO117 := tE HO117 (Kd.S_base ho0) hb; replace HO121 := tE HO121 (Kd.S_base ho0) hb; replace HO125 := tE HO125 (Kd.S_base ho0) hb; replace BK106 := bP BK106 hb; replace HB := sQ hb; (try clear hb); (try clear ho0); (try clear hcz54_0 hcz54_1 hfz54_0 hfz54_1); have hcz56_0 := cZ BK106 0; have hcz56_1 := cZ BK106 1; have hfz56_0 := fZ BK106 0; have hfz56_1 := fZ BK106 1))
  go_upto_region 11 with (first | ((with_reducible refine gate_callee (f := 42) rfl ?_); refine gL 102 Tryz.func42 #[.agg #[.int .i64 t102, .slice Ao44 t103.length co44]] ?_; (with_reducible refine (impl_CountWinning.calls k t102 _ _ t103 t131 t146 _ ?side1 ?side2 A12.out).mono ?_); (case side1 => have hx_ := (Kd.R_reads' HO105.out).2.2; exact cC); (case side2 => exact (Kd.R_reads' HO105.out).2.1); rintro e w57 ⟨rfl, hb⟩; refine ⟨_, rfl, ?_⟩; replace HO105 := rP HO105 hb; replace HO109 := tP HO109 hb; replace HO113 := tP HO113 hb; replace HO117 := tP HO117 hb; replace HO121 := tP HO121 hb; replace HO125 := tP HO125 hb; replace HO129 := tP HO129 hb; replace BK106 := bP BK106 hb; replace HB := sQ hb; (try clear hb); (try clear hcz56_0 hcz56_1 hfz56_0 hfz56_1); have hcz58_0 := cZ BK106 0; have hcz58_1 := cZ BK106 1; have hfz58_0 := fZ BK106 0; have hfz58_1 := fZ BK106 1))
  go_upto_region 12 with (first | ((with_reducible refine gate_callee (f := 43) rfl ?_); refine gL 107 Tryz.func43 #[.agg #[.int .i64 t102, .slice Ao44 t103.length co44]] ?_; (with_reducible refine (spec_CountWinning.calls k t102 _ _ t103 t133 t146 _ ?side1 ?side2 A13.out).mono ?_); (case side1 => have hx_ := (Kd.R_reads' HO105.out).2.2; exact cC); (case side2 => exact (Kd.R_reads' HO105.out).2.1); rintro e w59 ⟨rfl, hb⟩; refine ⟨_, rfl, ?_⟩; replace HO105 := rP HO105 hb; replace HO109 := tP HO109 hb; replace HO113 := tP HO113 hb; replace HO117 := tP HO117 hb; replace HO121 := tP HO121 hb; replace HO125 := tP HO125 hb; replace HO129 := tP HO129 hb; replace BK106 := bP BK106 hb; replace HB := sQ hb; (try clear hb); (try clear hcz58_0 hcz58_1 hfz58_0 hfz58_1); have hcz60_0 := cZ BK106 0; have hcz60_1 := cZ BK106 1; have hfz60_0 := fZ BK106 0; have hfz60_1 := fZ BK106 1))
  go_upto_region 13 with (first | ((with_reducible refine gate_callee (f := 44) rfl ?_); refine gL 112 Tryz.func44 #[.agg #[.int .i64 t102, .slice Ao44 t103.length co44]] ?_; (with_reducible refine (impl_IsProper.calls k t102 _ _ t103 t137 t146 _ ?side1 ?side2 A14.out).mono ?_); (case side1 => have hx_ := (Kd.R_reads' HO105.out).2.2; exact cC); (case side2 => exact (Kd.R_reads' HO105.out).2.1); rintro e w61 ⟨rfl, hb⟩; refine ⟨_, rfl, ?_⟩; replace HO105 := rP HO105 hb; replace HO109 := tP HO109 hb; replace HO113 := tP HO113 hb; replace HO117 := tP HO117 hb; replace HO121 := tP HO121 hb; replace HO125 := tP HO125 hb; replace HO129 := tP HO129 hb; replace BK106 := bP BK106 hb; replace HB := sQ hb; (try clear hb); (try clear hcz60_0 hcz60_1 hfz60_0 hfz60_1); have hcz62_0 := cZ BK106 0; have hcz62_1 := cZ BK106 1; have hfz62_0 := fZ BK106 0; have hfz62_1 := fZ BK106 1))
  go_upto_region 14 with (first | ((with_reducible refine gate_callee (f := 45) rfl ?_); refine gL 117 Tryz.func45 #[.agg #[.int .i64 t102, .slice Ao44 t103.length co44]] ?_; (with_reducible refine (spec_IsProper.calls k t102 _ _ t103 t137 t146 _ ?side1 ?side2 A15.out).mono ?_); (case side1 => have hx_ := (Kd.R_reads' HO105.out).2.2; exact cC); (case side2 => exact (Kd.R_reads' HO105.out).2.1); rintro e w63 ⟨rfl, hb⟩; refine ⟨_, rfl, ?_⟩; replace HO105 := rP HO105 hb; replace HO109 := tP HO109 hb; replace HO113 := tP HO113 hb; replace HO117 := tP HO117 hb; replace HO121 := tP HO121 hb; replace HO125 := tP HO125 hb; replace HO129 := tP HO129 hb; replace BK106 := bP BK106 hb; replace HB := sQ hb; (try clear hb); (try clear hcz62_0 hcz62_1 hfz62_0 hfz62_1); have hcz64_0 := cZ BK106 0; have hcz64_1 := cZ BK106 1; have hfz64_0 := fZ BK106 0; have hfz64_1 := fZ BK106 1))
  go_upto_region 15 with (first | ((with_reducible refine gate_callee (f := 46) rfl ?_); refine gL 122 Tryz.func46 #[.agg #[.int .i64 t102, .slice Ao44 t103.length co44]] ?_; (with_reducible refine (impl_IsStrong.calls k t102 _ _ t103 t141 t146 _ ?side1 ?side2 A16.out).mono ?_); (case side1 => have hx_ := (Kd.R_reads' HO105.out).2.2; exact cC); (case side2 => exact (Kd.R_reads' HO105.out).2.1); rintro e w65 ⟨rfl, hb⟩; refine ⟨_, rfl, ?_⟩; replace HO105 := rP HO105 hb; replace HO109 := tP HO109 hb; replace HO113 := tP HO113 hb; replace HO117 := tP HO117 hb; replace HO121 := tP HO121 hb; replace HO125 := tP HO125 hb; replace HO129 := tP HO129 hb; replace BK106 := bP BK106 hb; replace HB := sQ hb; (try clear hb); (try clear hcz64_0 hcz64_1 hfz64_0 hfz64_1); have hcz66_0 := cZ BK106 0; have hcz66_1 := cZ BK106 1; have hfz66_0 := fZ BK106 0; have hfz66_1 := fZ BK106 1))
  go_upto_region 16 with (first | ((with_reducible refine gate_callee (f := 47) rfl ?_); refine gL 127 Tryz.func47 #[.agg #[.int .i64 t102, .slice Ao44 t103.length co44]] ?_; (with_reducible refine (spec_IsStrong.calls k t102 _ _ t103 t141 t146 _ ?side1 ?side2 A17.out).mono ?_); (case side1 => have hx_ := (Kd.R_reads' HO105.out).2.2; exact cC); (case side2 => exact (Kd.R_reads' HO105.out).2.1); rintro e w67 ⟨rfl, hb⟩; refine ⟨_, rfl, ?_⟩; replace HO105 := rP HO105 hb; replace HO109 := tP HO109 hb; replace HO113 := tP HO113 hb; replace HO117 := tP HO117 hb; replace HO121 := tP HO121 hb; replace HO125 := tP HO125 hb; replace HO129 := tP HO129 hb; replace BK106 := bP BK106 hb; replace HB := sQ hb; (try clear hb); obtain ⟨Ao68, co68, eo68⟩ := Kd.S_slice HO109.out; subst eo68; obtain ⟨Ao69, co69, eo69⟩ := Kd.S_slice HO113.out; subst eo69))
  go_upto_if 222 with (first | (go_at_call 48; (with_reducible refine (laws_mSets.calls k _ _ t107 _ _ t111 true _ ?side1 ?side2 ?side3 ?side4 A19.out).mono ?_); (case side1 => have hx_ := (Kd.S_reads' HO109.out).2.2; exact cC); (case side2 => exact (Kd.S_reads' HO109.out).2.1); (case side3 => have hx_ := (Kd.S_reads' HO113.out).2.2; exact cC); (case side4 => exact (Kd.S_reads' HO113.out).2.1); rintro e w' ⟨rfl, ⟨nd, rfl⟩⟩; obtain ⟨Ao70, co70, eo70⟩ := Kd.S_slice HO117.out; subst eo70; obtain ⟨Ao71, co71, eo71⟩ := Kd.S_slice HO121.out; subst eo71) | (go_at_call 48; (with_reducible refine (laws_mSets.calls k _ _ t115 _ _ t119 true _ ?side1 ?side2 ?side3 ?side4 A22.out).mono ?_); (case side1 => have hx_ := (Kd.S_reads' HO117.out).2.2; exact cC); (case side2 => exact (Kd.S_reads' HO117.out).2.1); (case side3 => have hx_ := (Kd.S_reads' HO121.out).2.2; exact cC); (case side4 => exact (Kd.S_reads' HO121.out).2.1); rintro e w' ⟨rfl, ⟨nd, rfl⟩⟩; obtain ⟨Ao72, co72, eo72⟩ := Kd.S_slice HO125.out; subst eo72; obtain ⟨Ao73, co73, eo73⟩ := Kd.S_slice HO129.out; subst eo73) | (go_at_call 48; (with_reducible refine (laws_mSets.calls k _ _ t123 _ _ t127 true _ ?side1 ?side2 ?side3 ?side4 A25.out).mono ?_); (case side1 => have hx_ := (Kd.S_reads' HO125.out).2.2; exact cC); (case side2 => exact (Kd.S_reads' HO125.out).2.1); (case side3 => have hx_ := (Kd.S_reads' HO129.out).2.2; exact cC); (case side4 => exact (Kd.S_reads' HO129.out).2.1); rintro e w' ⟨rfl, ⟨nd, rfl⟩⟩; (try clear hcz66_0 hcz66_1 hfz66_0 hfz66_1); have hcz74_0 := cZ BK106 0; have hcz74_1 := cZ BK106 1; have hfz74_0 := fZ BK106 0; have hfz74_1 := fZ BK106 1) | (go_at_call 20; (with_reducible refine (impl_IsCommittee.calls k t102 _ _ t103 t146 _ ?side1 ?side2 A38.out).mono ?_); (case side1 => have hx_ := (Kd.R_reads' HO105.out).2.2; exact cC); (case side2 => exact (Kd.R_reads' HO105.out).2.1); rintro e w75 ⟨rfl, hb⟩; replace HO105 := rP HO105 hb; replace HO109 := tP HO109 hb; replace HO113 := tP HO113 hb; replace HO117 := tP HO117 hb; replace HO121 := tP HO121 hb; replace HO125 := tP HO125 hb; replace HO129 := tP HO129 hb; replace BK106 := bP BK106 hb; replace HB := sQ hb; (try clear hb)))
  (try simp only [Act.put, sA, sZ, sS])
  refine cutT_ [F,F,F,F,T,F,F,F,F,F,F,F,F,F,F,F,F,F,F,F,F,F,F,F,F,F,F,F,F,F,T,T,T,T,T,T,T,T,T,T,T,T,T,T,T,T,T,T,T,T,T,T,T,T,T,T,T,T,T,F,F,F,F,F,F,F,F,F,F,F,F,F,F,F,F,F,F,F,F,F,F,F,F,F,F,F,F,F,F,F,F,F,F,F,F,F,F,F,F,F,F,F,F,F,F,F,F,F,F,F,F,F,F,F,F,F,F,F,F,F,F,F,F,F,F,F,F,F,F,F,F,F,F,F,F,F,F,F,F,F,F,F,F,F,F,F,F,F,F,F,F,F,F,F,F,F,F,F,F,F,F,F,F,F,F,F,F,F,F,F,F,F,F,F,F,F,F,F,F,F,F,F,F,F,F,F,F,F,F,F,F,F,F,F,F,F,F,F,F,F,F,F,F,F,F,F,F,F,F,F,F,F,F,F,F,F,F,F,F,F,F,F,T,T,T,T,T,T,T,T,T,T,T,T,T,T,T,T,T,T,T,T,T,T,T,T,T,T,T,T,T,T,T,T,T,T,T,T,T,T,T,T,T,T,T,T,T,T,T,T,T,T,T,T,T,T,T,T,T,T,T,T,T,T,T,T,T,T,T,T,T,T,T,T,T,T,T,T,T,T,T,T,T,T,T,T,T,T,T,T,T,T,T,T,T,T,T,T,T,T,T,T,T,T,T,T,T,T,T,T,T,T,T,T,T,T,T,T,T,T,T,T,T,T,T,T,T,T,T,T,T,T,T,T,T,T,T,T,T,T,T,T,T,T,T,T,T,T,T,T,T,T,T,T,T,T,T,T,T,T,T,T,T,T,T,T,T,T,T,T,T,T,T,T,T,T,T,T,T,T,T,T,T,T,T,T,T,T,T,T,T,T,T,T,T,T,T,T,T,T,T,T,T,T,T,T,T,T,T,T,T,T,T,T,T,T,T,T,T,T,T,T,T,T,T,T,T,T,T,T,T,T,T,T,T,T,T,T,T,T,T,T,T,T,T,T,T,T,T,T,T,T,T,T,T,T,T,T,T,T,T,T,T,T,T,T,T,T,T,T,T,T,T,T,T,T,T,T,T] (fun T_ wc_ => (fun wc => ∃ (kq : Nat), Aside0 (laws_FnLeastSetsWin.j10 kq l1 = some r) ∧ Aside0 (kq ≤ k) ∧ Aside0 (Kd.R (Kd.int .i64) 3 wc w.heap.size (fun _ => True) (.slice Ao44 t103.length co44) t103) ∧ Aside0 (wc.heap[gb106]? = some (.cells #[.int .i64 t102, (.slice Ao44 t103.length co44)] 26 (0, 0))) ∧ Aside0 (Below w.heap.size w wc))  wc_) ?restj10 ?firstj10
  case firstj10 => as_aux_lemma =>
   intro J_ K_ hJ_j10 hM_
   have H := HC40.out
   clear HC40
   by_cases c76 : t146 = true
   ·subst c76
    replace H := iT H
    replace H := oB H
    obtain ⟨⟨t147, t148, t151⟩, A770, H⟩ := H
    (try dsimp only at H)
    have A77 := Aside0.mk A770
    clear A770
    replace H := oB H
    obtain ⟨⟨t153, t156⟩, A780, H⟩ := H
    (try dsimp only at H)
    have A78 := Aside0.mk A780
    clear A780
    replace H := oB H
    obtain ⟨⟨t157, t158, t161⟩, A790, H⟩ := H
    (try dsimp only at H)
    have A79 := Aside0.mk A790
    clear A790
    replace H := oB H
    obtain ⟨⟨t163, t164⟩, A800, H⟩ := H
    (try dsimp only at H)
    have A80 := Aside0.mk A800
    clear A800
    replace H := oB H
    obtain ⟨⟨t165, t166⟩, A810, H⟩ := H
    (try dsimp only at H)
    have A81 := Aside0.mk A810
    clear A810
    replace H := ite_yes H
    obtain ⟨c82, H⟩ := H
    subst c82
    replace H := ite_yes H
    obtain ⟨c83, H⟩ := H
    subst c83
    replace H := oA H
    obtain ⟨t167, A84, H⟩ := H
    (try dsimp only at H)
    replace H := ite_yes H
    obtain ⟨c85, H⟩ := H
    subst c85
    replace H := ite_yes H
    obtain ⟨c86, H⟩ := H
    subst c86
    replace H := oA H
    obtain ⟨t168, A87, H⟩ := H
    (try dsimp only at H)
    replace H := ite_yes H
    obtain ⟨c88, H⟩ := H
    subst c88
    replace H := ite_yes H
    obtain ⟨c89, H⟩ := H
    subst c89
    replace H := ite_no H
    obtain ⟨c90, H⟩ := H
    replace c90 := of_nbne c90
    subst t163
    (try simp only [bne_self_eq_false])
    replace H := ite_yes H
    obtain ⟨c91, H⟩ := H
    subst c91
    obtain ⟨ji92, hji92⟩ : ∃ j_ : Int, (shl .i64 1 (t103.length : Int)) = j_ := ⟨_, rfl⟩
    replace H : (if t165 = (wrap64 ((ji92) - t131)) then (if (t107.length : Int) < 1 then (none) else (if (t115.length : Int) < 1 then (none) else (laws_FnLeastSetsWin.l0 k l1 t107 t115 t131 t137 t141 (t103.length : Int) 0 0 t102 t103))) else (none)) = some r := by first | (rw [hji92] at H; exact H) | (simp only [hji92] at H ⊢; exact H)
    (try rw [hji92] at A77)
    (try rw [hji92] at A78)
    (try rw [hji92] at A79)
    (try rw [hji92] at A80)
    (try rw [hji92] at A81)
    (try rw [hji92] at A84)
    (try rw [hji92] at A87)
    have hji92_ : (IntKind.i64.wrap (1 * 2 ^ min (t103.length : Int).toNat 64)) = ji92 := hji92
    have hji92z : (t103.length : Int) ≤ 64 → (IntKind.i64.wrap (1 * 2 ^ (t103.length : Int).toNat)) = ji92 := shl_small hji92
    have hji92p : (IntKind.i64.wrap (1 * 2 ^ min t103.length 64)) = ji92 := hji92_
    have hji92q : (t103.length : Int) ≤ 64 → (IntKind.i64.wrap (1 * 2 ^ t103.length)) = ji92 := hji92z
    have hji92r : (IntKind.i64.wrap (2 ^ min t103.length 64)) = ji92 := by have h_ := hji92p; rw [Int.one_mul] at h_; exact h_
    have hji92s : (t103.length : Int) ≤ 64 → (IntKind.i64.wrap (2 ^ t103.length)) = ji92 := fun hle_ => by have h_ := hji92q hle_; rw [Int.one_mul] at h_; exact h_
    have hji92u : (IntKind.i64.wrap (2 ^ min (t103.length : Int).toNat 64)) = ji92 := by have h_ := hji92_; rw [Int.one_mul] at h_; exact h_
    have hji92v : (t103.length : Int) ≤ 64 → (IntKind.i64.wrap (2 ^ (t103.length : Int).toNat)) = ji92 := fun hle_ => by have h_ := hji92z hle_; rw [Int.one_mul] at h_; exact h_
    have hji92y : (wrap64 (1 * 2 ^ min (t103.length : Int).toNat 64)) = ji92 := (i64_w _).symm.trans hji92_
    have hji92x : (t103.length : Int) ≤ 64 → (wrap64 (1 * 2 ^ (t103.length : Int).toNat)) = ji92 := fun h_ => (i64_w _).symm.trans (hji92z h_)
    replace H := ite_yes H
    obtain ⟨c93, H⟩ := H
    have c93b0 : (t165 == (wrap64 ((ji92) - t131))) = true := beq_iff_eq.mpr c93
    have c93b1 : (t165 != (wrap64 ((ji92) - t131))) = false := bne_eq_false_iff_eq.mpr c93
    clear c93
    replace H := ite_no H
    obtain ⟨c94, H⟩ := H
    have c94b0 : decide ((t107.length : Int) < 1) = false := decide_eq_false c94
    have c94b1 : decide (t107.length < 1) = false := decide_eq_false (by omega)
    clear c94
    replace H := ite_no H
    obtain ⟨c95, H⟩ := H
    have c95b0 : decide ((t115.length : Int) < 1) = false := decide_eq_false c95
    have c95b1 : decide (t115.length < 1) = false := decide_eq_false (by omega)
    clear c95
    have H' := Aside0.mk H
    clear H
    have hcz96_0 := cZ BK106 0
    have hcz96_1 := cZ BK106 1
    have hfz96_0 := fZ BK106 0
    have hfz96_1 := fZ BK106 1
    go_upto_region 21 with (first | ((with_reducible refine gate_callee (f := 23) rfl ?_); refine gL 228 Tryz.func23 #[.agg #[.int .i64 t102, .slice Ao44 t103.length co44]] ?_; (with_reducible refine (impl_DualCommittee.calls k t102 _ _ t103 t147 t148 true _ ?side1 ?side2 A77.out).mono ?_); (case side1 => have hx_ := (Kd.R_reads' HO105.out).2.2; exact cC); (case side2 => exact (Kd.R_reads' HO105.out).2.1); rintro e w97 ⟨v149, rfl, ho0, hb⟩; refine ⟨_, rfl, ?_⟩; have HO150 := Aside0.mk (Kd.R_lower (Kd.R_new' ho0 (Kd.R_lt HO105.out)) (below_size HB.out)); replace HO105 := rE HO105 (Kd.R_base ho0) hb; replace HO109 := tE HO109 (Kd.R_base ho0) hb; replace HO113 := tE HO113 (Kd.R_base ho0) hb; replace HO117 := tE HO117 (Kd.R_base ho0) hb; replace HO121 := tE HO121 (Kd.R_base ho0) hb; replace HO125 := tE HO125 (Kd.R_base ho0) hb; replace HO129 := tE HO129 (Kd.R_base ho0) hb; replace BK106 := bB BK106 hb; replace HB := sB HB hb; (try clear hb); (try clear ho0)) | ((with_reducible refine gate_dst (N := 31) rfl ?_); (try (refine gate_guard (by rfl) ?_; dsimp only)); refine xE (N := 31) (cs := #[.int .i64 0, .slice none 0 0]) (t := 26) ?_; intro gb152 hg w98 BK152 hb; have GW152 := gS hg HB; have GE152 := gS hg HB; have NB106_152 := nL hg (blk_lt BK106.out); have NB152_106 := nG hg (blk_lt BK106.out); replace HO105 := rB HO105 hb; replace HO109 := tB HO109 hb; replace HO113 := tB HO113 hb; replace HO117 := tB HO117 hb; replace HO121 := tB HO121 hb; replace HO125 := tB HO125 hb; replace HO129 := tB HO129 hb; replace HO150 := rB HO150 hb; replace BK106 := bB BK106 hb; replace HB := sB HB hb; clear hb hg; have hnb99 := NB152_106.out; have hnc99 := NB106_152.out; (try clear hcz96_0 hcz96_1 hfz96_0 hfz96_1); have hcz100_0 := cZ BK152 0; have hcz100_1 := cZ BK152 1; have hfz100_0 := fZ BK152 0; have hfz100_1 := fZ BK152 1; obtain ⟨Ao101, co101, eo101⟩ := Kd.R_slice HO150.out; subst eo101))
    go_upto_region 22 with (first | ((with_reducible refine gate_callee (f := 36) rfl ?_); refine gL 233 Tryz.func36 #[.agg #[.int .i64 t147, .slice Ao101 t148.length co101]] ?_; (with_reducible refine (impl_LeastWinning.calls k t147 _ _ t148 t153 true _ ?side1 ?side2 A78.out).mono ?_); (case side1 => refine (Kd.R_reads' (e := 3) (base := w.heap.size) (ok := fun k_ => (True ∧ nb (.slice Ao44 t103.length co44) k_)) (n := t148.length) (c := co101) ?_).2.2; exact (by exact (Kd.R_mono (Kd.R_far (p := ⟨gb152, 1, none⟩) (Kd.R_far (p := ⟨gb152, 0, none⟩) (Kd.R_types HO150.out BK152.out (by decide)) (fun _ hk => hk.2) (.int .i64 t147)) (fun _ hk => hk.2) (.slice Ao101 t148.length co101)) (fun _ h_ => h_.1)))); (case side2 => exact (Kd.R_reads' HO150.out).2.1); rintro e w102 ⟨v154, rfl, ho0, hb⟩; refine ⟨_, rfl, ?_⟩; have HO155 := Aside0.mk (Kd.S_lower (Kd.S_new' (Kd.S_new' (Kd.S_new' (Kd.S_new' (Kd.S_new' (Kd.S_new' (Kd.S_new' (Kd.S_new' ho0 (Kd.R_lt (by exact (Kd.R_mono (Kd.R_far (p := ⟨gb152, 1, none⟩) (Kd.R_far (p := ⟨gb152, 0, none⟩) (Kd.R_types HO105.out BK152.out (by decide)) (fun _ hk => hk.2) (.int .i64 t147)) (fun _ hk => hk.2) (.slice Ao101 t148.length co101)) (fun _ h_ => h_.1))))) (Kd.S_lt (by exact (Kd.S_mono (Kd.S_far (p := ⟨gb152, 1, none⟩) (Kd.S_far (p := ⟨gb152, 0, none⟩) (Kd.S_types HO109.out BK152.out (by decide)) (fun _ hk => hk.2) (.int .i64 t147)) (fun _ hk => hk.2) (.slice Ao101 t148.length co101)) (fun _ h_ => h_.1))))) (Kd.S_lt (by exact (Kd.S_mono (Kd.S_far (p := ⟨gb152, 1, none⟩) (Kd.S_far (p := ⟨gb152, 0, none⟩) (Kd.S_types HO113.out BK152.out (by decide)) (fun _ hk => hk.2) (.int .i64 t147)) (fun _ hk => hk.2) (.slice Ao101 t148.length co101)) (fun _ h_ => h_.1))))) (Kd.S_lt (by exact (Kd.S_mono (Kd.S_far (p := ⟨gb152, 1, none⟩) (Kd.S_far (p := ⟨gb152, 0, none⟩) (Kd.S_types HO117.out BK152.out (by decide)) (fun _ hk => hk.2) (.int .i64 t147)) (fun _ hk => hk.2) (.slice Ao101 t148.length co101)) (fun _ h_ => h_.1))))) (Kd.S_lt (by exact (Kd.S_mono (Kd.S_far (p := ⟨gb152, 1, none⟩) (Kd.S_far (p := ⟨gb152, 0, none⟩) (Kd.S_types HO121.out BK152.out (by decide)) (fun _ hk => hk.2) (.int .i64 t147)) (fun _ hk => hk.2) (.slice Ao101 t148.length co101)) (fun _ h_ => h_.1))))) (Kd.S_lt (by exact (Kd.S_mono (Kd.S_far (p := ⟨gb152, 1, none⟩) (Kd.S_far (p := ⟨gb152, 0, none⟩) (Kd.S_types HO125.out BK152.out (by decide)) (fun _ hk => hk.2) (.int .i64 t147)) (fun _ hk => hk.2) (.slice Ao101 t148.length co101)) (fun _ h_ => h_.1))))) (Kd.S_lt (by exact (Kd.S_mono (Kd.S_far (p := ⟨gb152, 1, none⟩) (Kd.S_far (p := ⟨gb152, 0, none⟩) (Kd.S_types HO129.out BK152.out (by decide)) (fun _ hk => hk.2) (.int .i64 t147)) (fun _ hk => hk.2) (.slice Ao101 t148.length co101)) (fun _ h_ => h_.1))))) (Kd.R_lt (by exact (Kd.R_mono (Kd.R_far (p := ⟨gb152, 1, none⟩) (Kd.R_far (p := ⟨gb152, 0, none⟩) (Kd.R_types HO150.out BK152.out (by decide)) (fun _ hk => hk.2) (.int .i64 t147)) (fun _ hk => hk.2) (.slice Ao101 t148.length co101)) (fun _ h_ => h_.1))))) (below_size (by repeat (first | exact HB.out | apply ba | refine bs ?_ GE152.out)))); replace HO105 := Aside0.mk (Kd.R_below (by exact (Kd.R_mono (Kd.R_far (p := ⟨gb152, 1, none⟩) (Kd.R_far (p := ⟨gb152, 0, none⟩) (Kd.R_types HO105.out BK152.out (by decide)) (fun _ hk => hk.2) (.int .i64 t147)) (fun _ hk => hk.2) (.slice Ao101 t148.length co101)) (fun _ h_ => h_.1))) hb); replace HO109 := Aside0.mk (Kd.S_elder' (by exact (Kd.S_mono (Kd.S_far (p := ⟨gb152, 1, none⟩) (Kd.S_far (p := ⟨gb152, 0, none⟩) (Kd.S_types HO109.out BK152.out (by decide)) (fun _ hk => hk.2) (.int .i64 t147)) (fun _ hk => hk.2) (.slice Ao101 t148.length co101)) (fun _ h_ => h_.1))) (Kd.S_base ho0) hb); replace HO113 := Aside0.mk (Kd.S_elder' (by exact (Kd.S_mono (Kd.S_far (p := ⟨gb152, 1, none⟩) (Kd.S_far (p := ⟨gb152, 0, none⟩) (Kd.S_types HO113.out BK152.out (by decide)) (fun _ hk => hk.2) (.int .i64 t147)) (fun _ hk => hk.2) (.slice Ao101 t148.length co101)) (fun _ h_ => h_.1))) (Kd.S_base ho0) hb); replace HO117 := Aside0.mk (Kd.S_elder' (by exact (Kd.S_mono (Kd.S_far (p := ⟨gb152, 1, none⟩) (Kd.S_far (p := ⟨gb152, 0, none⟩) (Kd.S_types HO117.out BK152.out (by decide)) (fun _ hk => hk.2) (.int .i64 t147)) (fun _ hk => hk.2) (.slice Ao101 t148.length co101)) (fun _ h_ => h_.1))) (Kd.S_base ho0) hb); replace HO121 := Aside0.mk (Kd.S_elder' (by exact (Kd.S_mono (Kd.S_far (p := ⟨gb152, 1, none⟩) (Kd.S_far (p := ⟨gb152, 0, none⟩) (Kd.S_types HO121.out BK152.out (by decide)) (fun _ hk => hk.2) (.int .i64 t147)) (fun _ hk => hk.2) (.slice Ao101 t148.length co101)) (fun _ h_ => h_.1))) (Kd.S_base ho0) hb); replace HO125 := Aside0.mk (Kd.S_elder' (by exact (Kd.S_mono (Kd.S_far (p := ⟨gb152, 1, none⟩) (Kd.S_far (p := ⟨gb152, 0, none⟩) (Kd.S_types HO125.out BK152.out (by decide)) (fun _ hk => hk.2) (.int .i64 t147)) (fun _ hk => hk.2) (.slice Ao101 t148.length co101)) (fun _ h_ => h_.1))) (Kd.S_base ho0) hb); replace HO129 := Aside0.mk (Kd.S_elder' (by exact (Kd.S_mono (Kd.S_far (p := ⟨gb152, 1, none⟩) (Kd.S_far (p := ⟨gb152, 0, none⟩) (Kd.S_types HO129.out BK152.out (by decide)) (fun _ hk => hk.2) (.int .i64 t147)) (fun _ hk => hk.2) (.slice Ao101 t148.length co101)) (fun _ h_ => h_.1))) (Kd.S_base ho0) hb); replace HO150 := Aside0.mk (Kd.R_below (by exact (Kd.R_mono (Kd.R_far (p := ⟨gb152, 1, none⟩) (Kd.R_far (p := ⟨gb152, 0, none⟩) (Kd.R_types HO150.out BK152.out (by decide)) (fun _ hk => hk.2) (.int .i64 t147)) (fun _ hk => hk.2) (.slice Ao101 t148.length co101)) (fun _ h_ => h_.1))) hb); replace BK106 := Aside0.mk (blk_below (g := gb106) (o := .cells #[.int .i64 t102, .slice Ao44 t103.length co44] 26 (0, 0)) (by refine blk_far ?_ NB106_152.out _; refine blk_far ?_ NB106_152.out _; exact BK106.out) hb); replace BK152 := Aside0.mk (blk_below (g := gb152) (o := .cells #[.int .i64 t147, .slice Ao101 t148.length co101] 26 (0, 0)) (by refine blk_put (cs := #[.int .i64 t147, .slice none 0 0]) ?_ 1 _ rfl; refine blk_put (cs := #[.int .i64 0, .slice none 0 0]) ?_ 0 _ rfl; exact BK152.out) hb); replace HB := Aside0.mk (below_step (by repeat (first | exact HB.out | apply ba | refine bs ?_ GE152.out)) hb); (try clear hb); (try clear ho0); (try clear hcz100_0 hcz100_1 hfz100_0 hfz100_1); have hcz103_0 := cZ BK152 0; have hcz103_1 := cZ BK152 1; have hfz103_0 := fZ BK152 0; have hfz103_1 := fZ BK152 1))
    go_upto_region 23 with (first | ((with_reducible refine gate_callee (f := 23) rfl ?_); refine gL 238 Tryz.func23 #[.agg #[.int .i64 t147, .slice Ao101 t148.length co101]] ?_; (with_reducible refine (impl_DualCommittee.calls k t147 _ _ t148 t157 t158 true _ ?side1 ?side2 A79.out).mono ?_); (case side1 => have hx_ := (Kd.R_reads' HO150.out).2.2; exact cC); (case side2 => exact (Kd.R_reads' HO150.out).2.1); rintro e w104 ⟨v159, rfl, ho0, hb⟩; refine ⟨_, rfl, ?_⟩; have HO160 := Aside0.mk (Kd.R_lower (Kd.R_new' (Kd.R_new' ho0 (Kd.R_lt HO105.out)) (Kd.R_lt HO150.out)) (below_size HB.out)); replace HO105 := rE HO105 (Kd.R_base ho0) hb; replace HO109 := tE HO109 (Kd.R_base ho0) hb; replace HO113 := tE HO113 (Kd.R_base ho0) hb; replace HO117 := tE HO117 (Kd.R_base ho0) hb; replace HO121 := tE HO121 (Kd.R_base ho0) hb; replace HO125 := tE HO125 (Kd.R_base ho0) hb; replace HO129 := tE HO129 (Kd.R_base ho0) hb; replace HO150 := rE HO150 (Kd.R_base ho0) hb; replace HO155 := tE HO155 (Kd.R_base ho0) hb; replace BK106 := bB BK106 hb; replace BK152 := bB BK152 hb; replace HB := sB HB hb; (try clear hb); (try clear ho0)) | ((with_reducible refine gate_dst (N := 35) rfl ?_); (try (refine gate_guard (by rfl) ?_; dsimp only)); refine xE (N := 35) (cs := #[.int .i64 0, .slice none 0 0]) (t := 26) ?_; intro gb162 hg w105 BK162 hb; have GW162 := gS hg HB; have GE162 := gS hg HB; have NB106_162 := nL hg (blk_lt BK106.out); have NB162_106 := nG hg (blk_lt BK106.out); have NB152_162 := nL hg (blk_lt BK152.out); have NB162_152 := nG hg (blk_lt BK152.out); replace HO105 := rB HO105 hb; replace HO109 := tB HO109 hb; replace HO113 := tB HO113 hb; replace HO117 := tB HO117 hb; replace HO121 := tB HO121 hb; replace HO125 := tB HO125 hb; replace HO129 := tB HO129 hb; replace HO150 := rB HO150 hb; replace HO155 := tB HO155 hb; replace HO160 := rB HO160 hb; replace BK106 := bB BK106 hb; replace BK152 := bB BK152 hb; replace HB := sB HB hb; clear hb hg; have hnb106 := NB162_106.out; have hnc106 := NB106_162.out; have hnb107 := NB162_152.out; have hnc107 := NB152_162.out; (try clear hcz103_0 hcz103_1 hfz103_0 hfz103_1); have hcz108_0 := cZ BK162 0; have hcz108_1 := cZ BK162 1; have hfz108_0 := fZ BK162 0; have hfz108_1 := fZ BK162 1; obtain ⟨Ao109, co109, eo109⟩ := Kd.R_slice HO160.out; subst eo109; have hcz110_0 := cZ BK152 0; have hcz110_1 := cZ BK152 1; have hfz110_0 := fZ BK152 0; have hfz110_1 := fZ BK152 1))
    go_upto_region 24 with (first | ((with_reducible refine gate_callee (f := 46) rfl ?_); refine gL 243 Tryz.func46 #[.agg #[.int .i64 t147, .slice Ao101 t148.length co101]] ?_; (with_reducible refine (impl_IsStrong.calls k t147 _ _ t148 t137 true _ ?side1 ?side2 A80.out).mono ?_); (case side1 => refine (Kd.R_reads' (e := 3) (base := w.heap.size) (ok := fun k_ => ((True ∧ nb (.slice Ao44 t103.length co44) k_) ∧ nb (.slice Ao109 t158.length co109) k_)) (n := t148.length) (c := co101) ?_).2.2; exact (by exact (Kd.R_mono (Kd.R_far (p := ⟨gb162, 1, none⟩) (Kd.R_far (p := ⟨gb162, 0, none⟩) (Kd.R_types HO150.out BK162.out (by decide)) (fun _ hk => hk.2) (.int .i64 t157)) (fun _ hk => hk.2) (.slice Ao109 t158.length co109)) (fun _ h_ => h_.1)))); (case side2 => exact (Kd.R_reads' HO150.out).2.1); rintro e w111 ⟨rfl, hb⟩; refine ⟨_, rfl, ?_⟩; replace HO105 := Aside0.mk (Kd.R_below (by exact (Kd.R_mono (Kd.R_far (p := ⟨gb162, 1, none⟩) (Kd.R_far (p := ⟨gb162, 0, none⟩) (Kd.R_types HO105.out BK162.out (by decide)) (fun _ hk => hk.2) (.int .i64 t157)) (fun _ hk => hk.2) (.slice Ao109 t158.length co109)) (fun _ h_ => h_.1))) hb); replace HO109 := Aside0.mk (Kd.S_below (by exact (Kd.S_mono (Kd.S_far (p := ⟨gb162, 1, none⟩) (Kd.S_far (p := ⟨gb162, 0, none⟩) (Kd.S_types HO109.out BK162.out (by decide)) (fun _ hk => hk.2) (.int .i64 t157)) (fun _ hk => hk.2) (.slice Ao109 t158.length co109)) (fun _ h_ => h_.1))) hb); replace HO113 := Aside0.mk (Kd.S_below (by exact (Kd.S_mono (Kd.S_far (p := ⟨gb162, 1, none⟩) (Kd.S_far (p := ⟨gb162, 0, none⟩) (Kd.S_types HO113.out BK162.out (by decide)) (fun _ hk => hk.2) (.int .i64 t157)) (fun _ hk => hk.2) (.slice Ao109 t158.length co109)) (fun _ h_ => h_.1))) hb); replace HO117 := Aside0.mk (Kd.S_below (by exact (Kd.S_mono (Kd.S_far (p := ⟨gb162, 1, none⟩) (Kd.S_far (p := ⟨gb162, 0, none⟩) (Kd.S_types HO117.out BK162.out (by decide)) (fun _ hk => hk.2) (.int .i64 t157)) (fun _ hk => hk.2) (.slice Ao109 t158.length co109)) (fun _ h_ => h_.1))) hb); replace HO121 := Aside0.mk (Kd.S_below (by exact (Kd.S_mono (Kd.S_far (p := ⟨gb162, 1, none⟩) (Kd.S_far (p := ⟨gb162, 0, none⟩) (Kd.S_types HO121.out BK162.out (by decide)) (fun _ hk => hk.2) (.int .i64 t157)) (fun _ hk => hk.2) (.slice Ao109 t158.length co109)) (fun _ h_ => h_.1))) hb); replace HO125 := Aside0.mk (Kd.S_below (by exact (Kd.S_mono (Kd.S_far (p := ⟨gb162, 1, none⟩) (Kd.S_far (p := ⟨gb162, 0, none⟩) (Kd.S_types HO125.out BK162.out (by decide)) (fun _ hk => hk.2) (.int .i64 t157)) (fun _ hk => hk.2) (.slice Ao109 t158.length co109)) (fun _ h_ => h_.1))) hb); replace HO129 := Aside0.mk (Kd.S_below (by exact (Kd.S_mono (Kd.S_far (p := ⟨gb162, 1, none⟩) (Kd.S_far (p := ⟨gb162, 0, none⟩) (Kd.S_types HO129.out BK162.out (by decide)) (fun _ hk => hk.2) (.int .i64 t157)) (fun _ hk => hk.2) (.slice Ao109 t158.length co109)) (fun _ h_ => h_.1))) hb); replace HO150 := Aside0.mk (Kd.R_below (by exact (Kd.R_mono (Kd.R_far (p := ⟨gb162, 1, none⟩) (Kd.R_far (p := ⟨gb162, 0, none⟩) (Kd.R_types HO150.out BK162.out (by decide)) (fun _ hk => hk.2) (.int .i64 t157)) (fun _ hk => hk.2) (.slice Ao109 t158.length co109)) (fun _ h_ => h_.1))) hb); replace HO155 := Aside0.mk (Kd.S_below (by exact (Kd.S_mono (Kd.S_far (p := ⟨gb162, 1, none⟩) (Kd.S_far (p := ⟨gb162, 0, none⟩) (Kd.S_types HO155.out BK162.out (by decide)) (fun _ hk => hk.2) (.int .i64 t157)) (fun _ hk => hk.2) (.slice Ao109 t158.length co109)) (fun _ h_ => h_.1))) hb); replace HO160 := Aside0.mk (Kd.R_below (by exact (Kd.R_mono (Kd.R_far (p := ⟨gb162, 1, none⟩) (Kd.R_far (p := ⟨gb162, 0, none⟩) (Kd.R_types HO160.out BK162.out (by decide)) (fun _ hk => hk.2) (.int .i64 t157)) (fun _ hk => hk.2) (.slice Ao109 t158.length co109)) (fun _ h_ => h_.1))) hb); replace BK106 := Aside0.mk (blk_below (g := gb106) (o := .cells #[.int .i64 t102, .slice Ao44 t103.length co44] 26 (0, 0)) (by refine blk_far ?_ NB106_162.out _; refine blk_far ?_ NB106_162.out _; exact BK106.out) hb); replace BK152 := Aside0.mk (blk_below (g := gb152) (o := .cells #[.int .i64 t147, .slice Ao101 t148.length co101] 26 (0, 0)) (by refine blk_far ?_ NB152_162.out _; refine blk_far ?_ NB152_162.out _; exact BK152.out) hb); replace BK162 := Aside0.mk (blk_below (g := gb162) (o := .cells #[.int .i64 t157, .slice Ao109 t158.length co109] 26 (0, 0)) (by refine blk_put (cs := #[.int .i64 t157, .slice none 0 0]) ?_ 1 _ rfl; refine blk_put (cs := #[.int .i64 0, .slice none 0 0]) ?_ 0 _ rfl; exact BK162.out) hb); replace HB := Aside0.mk (below_step (by repeat (first | exact HB.out | apply ba | refine bs ?_ GE162.out)) hb); (try clear hb); (try clear hcz110_0 hcz110_1 hfz110_0 hfz110_1); have hcz112_0 := cZ BK152 0; have hcz112_1 := cZ BK152 1; have hfz112_0 := fZ BK152 0; have hfz112_1 := fZ BK152 1))
    go_upto_region 25 with (first | ((with_reducible refine gate_callee (f := 42) rfl ?_); refine gL 248 Tryz.func42 #[.agg #[.int .i64 t147, .slice Ao101 t148.length co101]] ?_; (with_reducible refine (impl_CountWinning.calls k t147 _ _ t148 t165 true _ ?side1 ?side2 A81.out).mono ?_); (case side1 => have hx_ := (Kd.R_reads' HO150.out).2.2; exact cC); (case side2 => exact (Kd.R_reads' HO150.out).2.1); rintro e w113 ⟨rfl, hb⟩; refine ⟨_, rfl, ?_⟩; replace HO105 := rB HO105 hb; replace HO109 := tB HO109 hb; replace HO113 := tB HO113 hb; replace HO117 := tB HO117 hb; replace HO121 := tB HO121 hb; replace HO125 := tB HO125 hb; replace HO129 := tB HO129 hb; replace HO150 := rB HO150 hb; replace HO155 := tB HO155 hb; replace HO160 := rB HO160 hb; replace BK106 := bB BK106 hb; replace BK152 := bB BK152 hb; replace BK162 := bB BK162 hb; replace HB := sB HB hb; (try clear hb); obtain ⟨Ao114, co114, eo114⟩ := Kd.S_slice HO155.out; subst eo114))
    go_wp2_with (first | (go_at_call 48; (with_reducible refine (laws_mSets.calls k _ _ t153 _ _ t123 true _ ?side1 ?side2 ?side3 ?side4 A84.out).mono ?_); (case side1 => have hx_ := (Kd.S_reads' HO155.out).2.2; exact cC); (case side2 => exact (Kd.S_reads' HO155.out).2.1); (case side3 => have hx_ := (Kd.S_reads' HO125.out).2.2; exact cC); (case side4 => exact (Kd.S_reads' HO125.out).2.1); rintro e w' ⟨rfl, ⟨nd, rfl⟩⟩; (try clear hcz112_0 hcz112_1 hfz112_0 hfz112_1); have hcz115_0 := cZ BK162 0; have hcz115_1 := cZ BK162 1; have hfz115_0 := fZ BK162 0; have hfz115_1 := fZ BK162 1; have hcz116_0 := cZ BK106 0; have hcz116_1 := cZ BK106 1; have hfz116_0 := fZ BK106 0; have hfz116_1 := fZ BK106 1) | (go_at_call 49; (with_reducible refine (laws_mCommittee.calls k t157 _ _ t158 t102 _ _ t103 true _ ?side1 ?side2 ?side3 ?side4 A87.out).mono ?_); (case side1 => have hx_ := (Kd.R_reads' HO160.out).2.2; exact cC); (case side2 => exact (Kd.R_reads' HO160.out).2.1); (case side3 => have hx_ := (Kd.R_reads' HO105.out).2.2; exact cC); (case side4 => exact (Kd.R_reads' HO105.out).2.1); rintro e w117 ⟨rfl, hb⟩; replace HO105 := rP HO105 hb; replace HO109 := tP HO109 hb; replace HO113 := tP HO113 hb; replace HO117 := tP HO117 hb; replace HO121 := tP HO121 hb; replace HO125 := tP HO125 hb; replace HO129 := tP HO129 hb; replace HO150 := rP HO150 hb; replace HO155 := tP HO155 hb; replace HO160 := rP HO160 hb; replace BK106 := bP BK106 hb; replace BK152 := bP BK152 hb; replace BK162 := bP BK162 hb; replace HB := sQ hb; (try clear hb)))
    refine loopT_ [F,F,F,F,T,F,F,F,F,F,F,F,F,F,F,F,F,F,F,F,F,F,F,F,F,F,F,F,F,F,F,F,F,F,F,F,F,F,F,F,F,T,T,T,T,F,F,F,F,F,F,F,F,F,F,F,F,F,F,F,F,F,F,F,F,F,F,F,F,F,F,F,F,F,F,F,F,F,F,F,F,F,F,F,F,F,F,F,F,F,F,F,F,F,F,F,F,F,F,F,F,F,F,F,F,F,F,F,F,F,F,F,F,F,F,F,F,F,F,F,F,F,F,F,F,F,F,F,F,F,F,F,F,F,F,F,F,F,F,F,F,F,F,F,F,F,F,F,F,F,F,F,F,F,F,F,F,F,F,F,F,F,F,F,F,F,F,F,F,F,F,F,F,F,F,F,F,F,F,F,F,F,F,F,F,F,F,F,F,F,F,F,F,F,F,F,F,F,F,F,F,F,F,F,F,F,F,F,F,F,F,F,F,F,F,F,F,F,F,F,F,F,F,F,F,F,F,F,F,F,F,F,F,F,F,F,F,F,F,F,F,F,F,F,F,F,F,F,F,F,F,F,F,F,F,F,F,F,F,F,F,F,F,F,F,F,F,F,F,F,F,F,F,F,F,F,F,F,F,F,F,F,F,F,F,F,F,F,F,F,F,F,F,F,F,F,F,F,F,F,F,F,F,F,T,T,T,T,T,T,T,T,T,T,T,T,T,T,T,T] k (fun kq_ T_ w_ => (fun kq v41 v42 w' => ∃ (x41_1 : Int) (x42_1 : Int), v41 = .int .i64 x41_1 ∧ v42 = .int .i64 x42_1 ∧ Aside0 (laws_FnLeastSetsWin.l0 kq l1 t107 t115 t131 t137 t141 (t103.length : Int) x41_1 x42_1 t102 t103 = some r) ∧ Aside0 (kq ≤ k) ∧ Aside0 (Kd.S (Kd.slice 3 (Kd.int .i64)) 24 w' w.heap.size (fun k_ => nb (.slice Ao70 t115.length co70) k_ ∧ nb (.slice Ao44 t103.length co44) k_ ∧ nb (.slice Ao101 t148.length co101) k_ ∧ nb (.slice Ao109 t158.length co109) k_) (.slice Ao68 t107.length co68) t107) ∧ Aside0 (Kd.S (Kd.slice 3 (Kd.int .i64)) 24 w' w.heap.size (fun k_ => nb (.slice Ao68 t107.length co68) k_ ∧ nb (.slice Ao44 t103.length co44) k_ ∧ nb (.slice Ao101 t148.length co101) k_ ∧ nb (.slice Ao109 t158.length co109) k_) (.slice Ao70 t115.length co70) t115) ∧ Aside0 (Kd.R (Kd.int .i64) 3 w' w.heap.size (fun k_ => nb (.slice Ao101 t148.length co101) k_ ∧ nb (.slice Ao109 t158.length co109) k_) (.slice Ao44 t103.length co44) t103) ∧ Aside0 (Kd.R (Kd.int .i64) 3 w' w.heap.size (fun k_ => nb (.slice Ao44 t103.length co44) k_ ∧ nb (.slice Ao109 t158.length co109) k_) (.slice Ao101 t148.length co101) t148) ∧ Aside0 (Kd.R (Kd.int .i64) 3 w' w.heap.size (fun k_ => nb (.slice Ao44 t103.length co44) k_ ∧ nb (.slice Ao101 t148.length co101) k_) (.slice Ao109 t158.length co109) t158) ∧ Aside0 (w'.heap[gb106]? = some (.cells #[.int .i64 t102, (.slice Ao44 t103.length co44)] 26 (0, 0))) ∧ Aside0 (w'.heap[gb152]? = some (.cells #[.int .i64 t147, (.slice Ao101 t148.length co101)] 26 (0, 0))) ∧ Aside0 (w'.heap[gb162]? = some (.cells #[.int .i64 t157, (.slice Ao109 t158.length co109)] 26 (0, 0))) ∧ Aside0 (Below w.heap.size w w')) kq_ (T_ 41) (T_ 42) w_) (by kernel_rfl) ?atStart ?round
    case atStart => exact ⟨(0), (0), gR, gR, H', ⟨Nat.le_refl _⟩, ⟨by (with_reducible repeat (first | apply Kd.S_alloc | apply Kd.S_drewN | apply Kd.S_drew)); exact Kd.S_mono HO109.out (fun _ hk => by first | exact ⟨hk.1.1.1.1.1.1.2, ⟨hk.1.1.1.1.1.1.1.1.2, ⟨hk.1.1.2, hk.2⟩⟩⟩ | simp_all)⟩, ⟨by (with_reducible repeat (first | apply Kd.S_alloc | apply Kd.S_drewN | apply Kd.S_drew)); exact Kd.S_mono HO117.out (fun _ hk => by first | exact ⟨hk.1.1.1.1.1.1.1.2, ⟨hk.1.1.1.1.1.1.1.1.2, ⟨hk.1.1.2, hk.2⟩⟩⟩ | simp_all)⟩, ⟨by (with_reducible repeat (first | apply qA | apply qN | apply qD)); exact Kd.R_mono HO105.out (fun _ hk => by first | exact ⟨hk.1.2, hk.2⟩ | simp_all)⟩, ⟨by (with_reducible repeat (first | apply qA | apply qN | apply qD)); exact Kd.R_mono HO150.out (fun _ hk => by first | exact ⟨hk.1.2, hk.2⟩ | simp_all)⟩, ⟨by (with_reducible repeat (first | apply qA | apply qN | apply qD)); exact Kd.R_mono HO160.out (fun _ hk => by first | exact ⟨hk.1.2, hk.2⟩ | simp_all)⟩, ⟨bQ BK106⟩, ⟨bQ BK152⟩, ⟨bQ BK162⟩, ⟨wB⟩⟩
    case round => as_aux_lemma =>
     intro gk T_ wr hrel J_ K_ hJ_l0 hM_
     (try clear hji92 hji92_ hji92z hji92p hji92q hji92r hji92s hji92u hji92v hji92y hji92x)
     simp only [putT, putM, T, F, Nat.reduceAdd]
     (try dsimp only at hrel)
     generalize T_ 41 = u41 at hrel ⊢
     generalize T_ 42 = u42 at hrel ⊢
     clear H'
     (try clear c1); (try clear c2); (try clear p2); (try clear c3); (try clear c4); (try clear p6); (try clear c7); (try clear c8); (try clear c9); (try clear c10); (try clear c18); (try clear c20); (try clear c21); (try clear c23); (try clear c24); (try clear c26); (try clear c27); (try clear c28); (try clear c28b0); (try clear c28b1); (try clear c29); (try clear c30); (try clear c31); (try clear c32); (try clear c33); (try clear c34); (try clear c35); (try clear c36); (try clear c37); (try clear c38); (try clear c39); (try clear c40); (try clear c41); (try clear c42); (try clear c43); (try clear c44); (try clear c45); (try clear c46); (try clear c47); (try clear p64); (try clear c76); (try clear c82); (try clear c83); (try clear c85); (try clear c86); (try clear c88); (try clear c89); (try clear c90); (try clear c91); (try clear c93); (try clear c93b0); (try clear c93b1); (try clear c94); (try clear c94b0); (try clear c94b1); (try clear c95); (try clear c95b0); (try clear c95b1); (try clear c99); (try clear c106); (try clear c107); (try clear hcz108_0); (try clear hcz108_1); (try clear hcz115_0); (try clear hcz115_1); (try clear hcz116_0); (try clear hcz116_1); (try clear hcz74_0); (try clear hcz74_1); (try clear hfz108_0); (try clear hfz108_1); (try clear hfz115_0); (try clear hfz115_1); (try clear hfz116_0); (try clear hfz116_1); (try clear hfz74_0); (try clear hfz74_1)
     obtain ⟨x41_1, x42_1, rfl, rfl, HA, HK1, HO_6, HO_10, HO_107001, HO_153001, HO_163001, BK106, BK152, BK162, HB⟩ := hrel
     cases gk with
     | zero => exact absurd HA.out (by simp [laws_FnLeastSetsWin.l0])
     | succ k1 =>
      have H := HA.out
      clear HA
      simp only [laws_FnLeastSetsWin.l0] at H
      by_cases c118 : x42_1 ≤ (t103.length : Int)
      ·rw [if_pos c118] at H
       have c118b0 : decide (x42_1 ≤ (t103.length : Int)) = true := decide_eq_true c118
       clear c118
       replace H := oB H
       obtain ⟨⟨t169, t170⟩, A1190, H⟩ := H
       (try dsimp only at H)
       have A119 := Aside0.mk A1190
       clear A1190
       replace H := ite_yes H
       obtain ⟨c120, H⟩ := H
       subst c120
       as_aux_lemma =>
        have H' := Aside0.mk H
        clear H
        have hnb121 := NB106_152.out
        have hnc121 := NB152_106.out
        have hnb122 := NB106_162.out
        have hnc122 := NB162_106.out
        have hcz123_0 := cZ BK106 0
        have hcz123_1 := cZ BK106 1
        have hfz123_0 := fZ BK106 0
        have hfz123_1 := fZ BK106 1
        go_wp2_with (first | ((with_reducible refine gate_callee (f := 50) rfl ?_); refine gL 312 Tryz.func50 #[.agg #[.int .i64 t102, .slice Ao44 t103.length co44], .int .i64 x42_1] ?_; (with_reducible refine (impl_CountWinningOf.calls k1 t102 _ _ t103 x42_1 t169 true _ ?side1 ?side2 A119.out).mono ?_); (case side1 => have hx_ := (Kd.R_reads' HO_107001.out).2.2; exact cC); (case side2 => exact (Kd.R_reads' HO_107001.out).2.1); rintro e w124 ⟨rfl, hb⟩; refine ⟨_, rfl, ?_⟩; replace HO_6 := tB HO_6 hb; replace HO_10 := tB HO_10 hb; replace HO_107001 := rB HO_107001 hb; replace HO_153001 := rB HO_153001 hb; replace HO_163001 := rB HO_163001 hb; replace BK106 := bB BK106 hb; replace BK152 := bB BK152 hb; replace BK162 := bB BK162 hb; replace HB := sB HB hb; (try clear hb)))
        refine roundT_ k1 ?measure hJ_l0 (by kernel_rfl) ?rel
        case measure => have := HK1.out; omega
        case rel => exact ⟨(wrap64 (x41_1 + t169)), (wrap64 (x42_1 + 1)), gR, gR, H', ⟨by have := HK1.out; omega⟩, ⟨by exact HO_6.out⟩, ⟨by exact HO_10.out⟩, ⟨by exact HO_107001.out⟩, ⟨by exact HO_153001.out⟩, ⟨by exact HO_163001.out⟩, ⟨by exact BK106.out⟩, ⟨by exact BK152.out⟩, ⟨by exact BK162.out⟩, ⟨wB⟩⟩
      ·rw [if_neg c118] at H
       have c118b0 : decide (x42_1 ≤ (t103.length : Int)) = false := decide_eq_false c118
       clear c118
       replace H := ite_yes H
       obtain ⟨c125, H⟩ := H
       have c125b0 : (x41_1 == t131) = true := beq_iff_eq.mpr c125
       have c125b1 : (x41_1 != t131) = false := bne_eq_false_iff_eq.mpr c125
       clear c125
       have H' := Aside0.mk H
       clear H
       go_wp2
       refine loopT_ [F,F,F,F,T,F,F,F,F,F,F,F,F,F,F,F,F,F,F,F,F,F,F,F,F,F,F,F,F,F,F,F,F,F,F,F,F,F,F,F,F,F,F,F,F,T,T,T,T,T,T,T,T,T,T,T,T,F,F,F,F,F,F,F,F,F,F,F,F,F,F,F,F,F,F,F,F,F,F,F,F,F,F,F,F,F,F,F,F,F,F,F,F,F,F,F,F,F,F,F,F,F,F,F,F,F,F,F,F,F,F,F,F,F,F,F,F,F,F,F,F,F,F,F,F,F,F,F,F,F,F,F,F,F,F,F,F,F,F,F,F,F,F,F,F,F,F,F,F,F,F,F,F,F,F,F,F,F,F,F,F,F,F,F,F,F,F,F,F,F,F,F,F,F,F,F,F,F,F,F,F,F,F,F,F,F,F,F,F,F,F,F,F,F,F,F,F,F,F,F,F,F,F,F,F,F,F,F,F,F,F,F,F,F,F,F,F,F,F,F,F,F,F,F,F,F,F,F,F,F,F,F,F,F,F,F,F,F,F,F,F,F,F,F,F,F,F,F,F,F,F,F,F,F,F,F,F,F,F,F,F,F,F,F,F,F,F,F,F,F,F,F,F,F,F,F,F,F,F,F,F,F,F,F,F,F,F,F,F,F,F,F,F,F,F,F,F,F,F,F,F,F,F,F,F,F,F,F,F,F,F,F,F,F,F,F,F,F,F,F,F,F,F,T,T,T,T,T,T,T,T,T,T,T,T,T,T,T,T,T,T,T,T,T,T,T,T,T,T,T,T,T,T,T,T,T,T,T,T,T,T,T,T,T,T,T,T,T,T,T,T,T,T,T,T,T,T,T,T,T,T,T,T,T,T,T,T,T,T,T,T,T,T,T,T,T,T,T,T,T,T,T,T,T,T,T,T,T,T,T,T,T,T,T,T,T,T,T,T,T,T,T,T,T,T,T,T,T,T,T,T,T,T,T,T,T,T,T,T,T,T,T,T,T,T,T,T,T,T,T,T,T,T,T,T,T,T,T] k1 (fun kq_ T_ w_ => (fun kq v45 v46 w' => ∃ (x45_2 : Int) (x46_2 : Int), v45 = .int .i64 x45_2 ∧ v46 = .int .i64 x46_2 ∧ Aside0 (laws_FnLeastSetsWin.l1 kq l1 t107 t115 t137 t141 (t103.length : Int) x45_2 x46_2 t102 t103 = some r) ∧ Aside0 (kq ≤ k1) ∧ Aside0 (Kd.S (Kd.slice 3 (Kd.int .i64)) 24 w' w.heap.size (fun k_ => nb (.slice Ao70 t115.length co70) k_ ∧ nb (.slice Ao44 t103.length co44) k_ ∧ nb (.slice Ao101 t148.length co101) k_ ∧ nb (.slice Ao109 t158.length co109) k_) (.slice Ao68 t107.length co68) t107) ∧ Aside0 (Kd.S (Kd.slice 3 (Kd.int .i64)) 24 w' w.heap.size (fun k_ => nb (.slice Ao68 t107.length co68) k_ ∧ nb (.slice Ao44 t103.length co44) k_ ∧ nb (.slice Ao101 t148.length co101) k_ ∧ nb (.slice Ao109 t158.length co109) k_) (.slice Ao70 t115.length co70) t115) ∧ Aside0 (Kd.R (Kd.int .i64) 3 w' w.heap.size (fun k_ => nb (.slice Ao101 t148.length co101) k_ ∧ nb (.slice Ao109 t158.length co109) k_) (.slice Ao44 t103.length co44) t103) ∧ Aside0 (Kd.R (Kd.int .i64) 3 w' w.heap.size (fun k_ => nb (.slice Ao44 t103.length co44) k_ ∧ nb (.slice Ao109 t158.length co109) k_) (.slice Ao101 t148.length co101) t148) ∧ Aside0 (Kd.R (Kd.int .i64) 3 w' w.heap.size (fun k_ => nb (.slice Ao44 t103.length co44) k_ ∧ nb (.slice Ao101 t148.length co101) k_) (.slice Ao109 t158.length co109) t158) ∧ Aside0 (w'.heap[gb106]? = some (.cells #[.int .i64 t102, (.slice Ao44 t103.length co44)] 26 (0, 0))) ∧ Aside0 (w'.heap[gb152]? = some (.cells #[.int .i64 t147, (.slice Ao101 t148.length co101)] 26 (0, 0))) ∧ Aside0 (w'.heap[gb162]? = some (.cells #[.int .i64 t157, (.slice Ao109 t158.length co109)] 26 (0, 0))) ∧ Aside0 (Below w.heap.size w w')) kq_ (T_ 45) (T_ 46) w_) (by kernel_rfl) ?atStart ?round
       case atStart => exact ⟨(0), (0), gR, gR, H', ⟨Nat.le_refl _⟩, ⟨by exact HO_6.out⟩, ⟨by exact HO_10.out⟩, ⟨by exact HO_107001.out⟩, ⟨by exact HO_153001.out⟩, ⟨by exact HO_163001.out⟩, ⟨by exact BK106.out⟩, ⟨by exact BK152.out⟩, ⟨by exact BK162.out⟩, ⟨wB⟩⟩
       case round => as_aux_lemma =>
        intro gk T_ wr hrel J_ K_ hJ_l1 hM_
        simp only [putT, putM, T, F, Nat.reduceAdd]
        (try dsimp only at hrel)
        generalize T_ 45 = u45 at hrel ⊢
        generalize T_ 46 = u46 at hrel ⊢
        clear H'
        (try clear c1); (try clear c2); (try clear p2); (try clear c3); (try clear c4); (try clear c5); (try clear p6); (try clear c7); (try clear c8); (try clear c9); (try clear c10); (try clear c11); (try clear c12); (try clear c18); (try clear c20); (try clear c21); (try clear c23); (try clear c24); (try clear c26); (try clear c27); (try clear c28); (try clear c28b0); (try clear c28b1); (try clear c29); (try clear c30); (try clear c31); (try clear c32); (try clear c33); (try clear c34); (try clear c35); (try clear c36); (try clear c37); (try clear c38); (try clear c39); (try clear c40); (try clear c41); (try clear c42); (try clear c43); (try clear c44); (try clear c45); (try clear c46); (try clear c47); (try clear c50); (try clear p64); (try clear c76); (try clear c82); (try clear c83); (try clear c85); (try clear c86); (try clear c88); (try clear c89); (try clear c90); (try clear c91); (try clear c93); (try clear c93b0); (try clear c93b1); (try clear c94); (try clear c94b0); (try clear c94b1); (try clear c95); (try clear c95b0); (try clear c95b1); (try clear c99); (try clear c106); (try clear c107); (try clear c118); (try clear c118b0); (try clear c120); (try clear c121); (try clear c122); (try clear c125); (try clear c125b0); (try clear c125b1); (try clear hcz108_0); (try clear hcz108_1); (try clear hcz115_0); (try clear hcz115_1); (try clear hcz116_0); (try clear hcz116_1); (try clear hcz123_0); (try clear hcz123_1); (try clear hcz74_0); (try clear hcz74_1); (try clear hfz108_0); (try clear hfz108_1); (try clear hfz115_0); (try clear hfz115_1); (try clear hfz116_0); (try clear hfz116_1); (try clear hfz123_0); (try clear hfz123_1); (try clear hfz74_0); (try clear hfz74_1); (try clear p2); (try clear p6); (try clear p64)
        obtain ⟨x45_2, x46_2, rfl, rfl, HA, HK2, HO_6, HO_10, HO_107001, HO_153001, HO_163001, BK106, BK152, BK162, HB⟩ := hrel
        cases gk with
        | zero => exact absurd HA.out (by simp [laws_FnLeastSetsWin.l1])
        | succ k2 =>
         have H := HA.out
         clear HA
         simp only [laws_FnLeastSetsWin.l1] at H
         replace H := ite_yes H
         obtain ⟨c126, H⟩ := H
         have c126b0 := eq_true c126
         have c126b1 : decide (0 ≤ (t103.length : Int)) = true := decide_eq_true c126
         clear c126
         obtain ⟨ji127, hji127⟩ : ∃ j_ : Int, (shl .i64 1 (t103.length : Int)) = j_ := ⟨_, rfl⟩
         replace H : (if x46_2 < (ji127) then ((laws_mList.f k2 x46_2 (t103.length : Int)).bind fun t171 => ((impl_IsWinning.f k2 t102 t103 t171).bind fun bt174 => ((laws_mOthers.f k2 t171 (t103.length : Int)).bind fun t176 => ((impl_IsWinning.f k2 t102 t103 t176).bind fun bt179 => (if bt174.2 = true then (if bt179.2 = true then (if bt174.1 = true then (if bt179.1 = true then (if t137 = true then (none) else (laws_FnLeastSetsWin.j2 k2 l1 t107 t115 t137 t141 (t103.length : Int) x45_2 x46_2 t171 bt174.1 bt179.1 false t102 t103)) else (laws_FnLeastSetsWin.j2 k2 l1 t107 t115 t137 t141 (t103.length : Int) x45_2 x46_2 t171 bt174.1 bt179.1 false t102 t103)) else (if bt179.1 = true then (laws_FnLeastSetsWin.j2 k2 l1 t107 t115 t137 t141 (t103.length : Int) x45_2 x46_2 t171 bt174.1 bt179.1 false t102 t103) else (laws_FnLeastSetsWin.j2 k2 l1 t107 t115 t137 t141 (t103.length : Int) x45_2 x46_2 t171 bt174.1 bt179.1 t141 t102 t103))) else (none)) else (none)))))) else (if t137 = true then (laws_FnLeastSetsWin.j7 k2 l1 t107 t115 ((x45_2 == 0) != t141)) else (laws_FnLeastSetsWin.j7 k2 l1 t107 t115 ((x45_2 == 0) != false)))) = some r := by first | (rw [hji127] at H; exact H) | (simp only [hji127] at H ⊢; exact H)
         have hji127_ : (IntKind.i64.wrap (1 * 2 ^ min (t103.length : Int).toNat 64)) = ji127 := hji127
         have hji127z : (t103.length : Int) ≤ 64 → (IntKind.i64.wrap (1 * 2 ^ (t103.length : Int).toNat)) = ji127 := shl_small hji127
         have hji127p : (IntKind.i64.wrap (1 * 2 ^ min t103.length 64)) = ji127 := hji127_
         have hji127q : (t103.length : Int) ≤ 64 → (IntKind.i64.wrap (1 * 2 ^ t103.length)) = ji127 := hji127z
         have hji127r : (IntKind.i64.wrap (2 ^ min t103.length 64)) = ji127 := by have h_ := hji127p; rw [Int.one_mul] at h_; exact h_
         have hji127s : (t103.length : Int) ≤ 64 → (IntKind.i64.wrap (2 ^ t103.length)) = ji127 := fun hle_ => by have h_ := hji127q hle_; rw [Int.one_mul] at h_; exact h_
         have hji127u : (IntKind.i64.wrap (2 ^ min (t103.length : Int).toNat 64)) = ji127 := by have h_ := hji127_; rw [Int.one_mul] at h_; exact h_
         have hji127v : (t103.length : Int) ≤ 64 → (IntKind.i64.wrap (2 ^ (t103.length : Int).toNat)) = ji127 := fun hle_ => by have h_ := hji127z hle_; rw [Int.one_mul] at h_; exact h_
         have hji127y : (wrap64 (1 * 2 ^ min (t103.length : Int).toNat 64)) = ji127 := (i64_w _).symm.trans hji127_
         have hji127x : (t103.length : Int) ≤ 64 → (wrap64 (1 * 2 ^ (t103.length : Int).toNat)) = ji127 := fun h_ => (i64_w _).symm.trans (hji127z h_)
         by_cases c128 : x46_2 < (ji127)
         ·rw [if_pos c128] at H
          have c128b0 : decide (x46_2 < (ji127)) = true := decide_eq_true c128
          clear c128
          replace H := oA H
          obtain ⟨t171, A129, H⟩ := H
          (try dsimp only at H)
          replace H := oB H
          obtain ⟨⟨t174, t175⟩, A1300, H⟩ := H
          (try dsimp only at H)
          have A130 := Aside0.mk A1300
          clear A1300
          replace H := oA H
          obtain ⟨t176, A131, H⟩ := H
          (try dsimp only at H)
          replace H := oB H
          obtain ⟨⟨t179, t180⟩, A1320, H⟩ := H
          (try dsimp only at H)
          have A132 := Aside0.mk A1320
          clear A1320
          have HC133 := Aside0.mk H
          clear H
          go_upto_region 42 with (first | ((with_reducible refine gate_callee (f := 51) rfl ?_); refine gL 331 Tryz.func51 #[.int .i64 x46_2, .int .i64 (t103.length : Int)] ?_; (with_reducible refine (laws_mList.calls k2 x46_2 (t103.length : Int) t171 _ A129.out).mono ?_); rintro e w134 ⟨v172, rfl, ho0, hb⟩; refine ⟨_, rfl, ?_⟩; have HO173 := Aside0.mk (Kd.R_lower (Kd.R_new' (Kd.R_new' (Kd.R_new' ho0 (Kd.R_lt HO_107001.out)) (Kd.R_lt HO_153001.out)) (Kd.R_lt HO_163001.out)) (below_size HB.out)); replace HO_6 := tE HO_6 (Kd.R_base ho0) hb; replace HO_10 := tE HO_10 (Kd.R_base ho0) hb; replace HO_107001 := rE HO_107001 (Kd.R_base ho0) hb; replace HO_153001 := rE HO_153001 (Kd.R_base ho0) hb; replace HO_163001 := rE HO_163001 (Kd.R_base ho0) hb; replace BK106 := bB BK106 hb; replace BK152 := bB BK152 hb; replace BK162 := bB BK162 hb; replace HB := sB HB hb; (try clear hb); (try clear ho0); have hnb135 := NB106_152.out; have hnc135 := NB152_106.out; have hnb136 := NB106_162.out; have hnc136 := NB162_106.out; have hcz137_0 := cZ BK106 0; have hcz137_1 := cZ BK106 1; have hfz137_0 := fZ BK106 0; have hfz137_1 := fZ BK106 1; obtain ⟨Ao138, co138, eo138⟩ := Kd.R_slice HO173.out; subst eo138))
          try go_wp2_with (first | ((with_reducible refine gate_callee (f := 12) rfl ?_); refine gL 335 Tryz.func12 #[.agg #[.int .i64 t102, .slice Ao44 t103.length co44], .slice Ao138 t171.length co138] ?_; (with_reducible refine (impl_IsWinning.calls k2 t102 _ _ t103 _ _ t171 t174 t175 _ ?side1 ?side2 ?side3 ?side4 A130.out).mono ?_); (case side1 => have hx_ := (Kd.R_reads' HO_107001.out).2.2; exact cC); (case side2 => exact (Kd.R_reads' HO_107001.out).2.1); (case side3 => have hx_ := (Kd.R_reads' HO173.out).2.2; exact cC); (case side4 => exact (Kd.R_reads' HO173.out).2.1); rintro e w139 ⟨rfl, hb⟩; refine ⟨_, rfl, ?_⟩; replace HO_6 := tB HO_6 hb; replace HO_10 := tB HO_10 hb; replace HO_107001 := rB HO_107001 hb; replace HO_153001 := rB HO_153001 hb; replace HO_163001 := rB HO_163001 hb; replace HO173 := rB HO173 hb; replace BK106 := bB BK106 hb; replace BK152 := bB BK152 hb; replace BK162 := bB BK162 hb; replace HB := sB HB hb; (try clear hb)))
          replace HO_6 := Aside0.mk (Kd.S_drew HO_6.out)
          replace HO_10 := Aside0.mk (Kd.S_drew HO_10.out)
          replace HO_107001 := rD HO_107001
          replace HO_153001 := rD HO_153001
          replace HO_163001 := rD HO_163001
          replace HO173 := rD HO173
          replace BK106 := bD BK106
          replace BK152 := bD BK152
          replace BK162 := bD BK162
          replace HB := Aside0.mk (below_drew1 HB.out)
          refine start_ (n := 10) (S := fun w' => w'.cell? ⟨gb106, 0, none⟩ = some (.int .i64 t102) ∧ w'.cell? ⟨gb106, 1, none⟩ = some (.slice Ao44 t103.length co44)) (ds := []) #[F,F,F,F,F,F,F,F,F,F] (by kernel_rfl) rfl rfl ⟨(blk_cell BK106.out 0).trans rfl, (blk_cell BK106.out 1).trans rfl⟩ (fun hHeld => ?_); refine with_tabW laws_FnLeastSetsWin.tab43 laws_FnLeastSetsWin.bits43 (fun HT_ HW_ => ?_)
          generalize w139.drew = w140 at HO_6 HO_10 HO_107001 HO_153001 HO_163001 HO173 BK106 BK152 BK162 HB hHeld ⊢
          refine pU 1 HT_ ?_
          refine pU 2 HT_ ?_
          refine tK 0 HT_ HW_ hHeld (hy := by rintro w' ⟨s0, s1⟩; go_simp; with_reducible rfl) ?_
          refine oN 3 HT_ (fun K hK => ?_)
          refine gE Tryz.func22 #[.slice Ao138 t171.length co138, .int .i64 (t103.length : Int)] ?_
          with_reducible refine (laws_mOthers.calls k2 _ _ t171 (t103.length : Int) t176 _ ?side1 ?side2 A131.out).mono ?_
          (case side1 => have hx_ := (Kd.R_reads' HO173.out).2.2; exact cC)
          (case side2 => exact (Kd.R_reads' HO173.out).2.1)
          rintro e w141 ⟨v177, rfl, ho0, hb⟩
          refine ⟨_, rfl, ?_⟩
          have HO178 := Aside0.mk (Kd.R_lower (Kd.R_new' (Kd.R_new' (Kd.R_new' (Kd.R_new' ho0 (Kd.R_lt HO_107001.out)) (Kd.R_lt HO_153001.out)) (Kd.R_lt HO_163001.out)) (Kd.R_lt HO173.out)) (below_size HB.out))
          replace HO_6 := tE HO_6 (Kd.R_base ho0) hb
          replace HO_10 := tE HO_10 (Kd.R_base ho0) hb
          replace HO_107001 := rE HO_107001 (Kd.R_base ho0) hb
          replace HO_153001 := rE HO_153001 (Kd.R_base ho0) hb
          replace HO_163001 := rE HO_163001 (Kd.R_base ho0) hb
          replace HO173 := rE HO173 (Kd.R_base ho0) hb
          replace BK106 := bB BK106 hb
          replace BK152 := bB BK152 hb
          replace BK162 := bB BK162 hb
          replace HB := sB HB hb
          (try clear hb)
          (try clear hb2)
          (try clear hk)
          (try clear hi)
          (try clear ho0)
          obtain ⟨Ao142, co142, eo142⟩ := Kd.R_slice HO178.out
          (first | subst eo142 | (injection eo142 with f1_ f2_ f3_; have f4_ := f1_.symm; have f5_ := f3_.symm; clear f1_ f2_ f3_; subst f4_; subst f5_))
          refine hK.out _ _ ⟨(blk_cell BK106.out 0).trans rfl, (blk_cell BK106.out 1).trans rfl⟩ (fun hHeld => ?_)
          clear hK K
          refine nM ?_
          refine oN 4 HT_ (fun K hK => ?_)
          refine gE Tryz.func12 #[.agg #[.int .i64 t102, .slice Ao44 t103.length co44], .slice Ao142 t176.length co142] ?_
          with_reducible refine (impl_IsWinning.calls k2 t102 _ _ t103 _ _ t176 t179 t180 _ ?side1 ?side2 ?side3 ?side4 A132.out).mono ?_
          (case side1 => have hx_ := (Kd.R_reads' HO_107001.out).2.2; exact cC)
          (case side2 => exact (Kd.R_reads' HO_107001.out).2.1)
          (case side3 => have hx_ := (Kd.R_reads' HO178.out).2.2; exact cC)
          (case side4 => exact (Kd.R_reads' HO178.out).2.1)
          rintro e w143 ⟨rfl, hb⟩
          refine ⟨_, rfl, ?_⟩
          replace HO_6 := tB HO_6 hb
          replace HO_10 := tB HO_10 hb
          replace HO_107001 := rB HO_107001 hb
          replace HO_153001 := rB HO_153001 hb
          replace HO_163001 := rB HO_163001 hb
          replace HO173 := rB HO173 hb
          replace HO178 := rB HO178 hb
          replace BK106 := bB BK106 hb
          replace BK152 := bB BK152 hb
          replace BK162 := bB BK162 hb
          replace HB := sB HB hb
          (try clear hb)
          (try clear hb2)
          (try clear hk)
          (try clear hi)
          refine hK.out _ _ ⟨(blk_cell BK106.out 0).trans rfl, (blk_cell BK106.out 1).trans rfl⟩ (fun hHeld => ?_)
          clear hK K
          refine nM ?_
          refine pU 5 HT_ ?_
          refine pU 6 HT_ ?_
          refine pU 7 HT_ ?_
          refine pU 8 HT_ ?_
          refine pU 9 HT_ ?_
          refine done_ (done_of HT_.out (by kernel_rfl)) ?_
          go_upto_region 44 with (fail)
          refine cutT_ [F,F,F,F,F,F,F,F,F,F,F,F,F,F,F,F,F,F,F,F,F,F,F,F,F,F,F,F,F,F,F,F,F,F,F,F,F,F,F,F,F,F,F,F,F,F,F,F,F,F,F,F,F,F,F,F,F,F,F,F,F,F,F,F,F,F,F,F,F,F,F,F,F,F,F,F,F,F,F,F,F,F,F,F,F,F,F,F,F,F,F,F,F,F,F,F,F,F,F,F,F,F,F,F,F,F,F,F,F,F,F,F,F,F,F,F,F,F,F,F,F,F,F,F,F,F,F,F,F,F,F,F,F,F,F,F,F,F,F,F,F,F,F,F,F,F,F,F,F,F,F,F,F,F,F,F,F,F,F,F,F,F,F,F,F,F,F,F,F,F,F,F,F,F,F,F,F,F,F,F,F,F,F,F,F,F,F,F,F,F,F,F,F,F,F,F,F,F,F,F,F,F,F,F,F,F,F,F,F,F,F,F,F,F,F,F,F,F,F,F,F,F,F,F,F,F,F,F,F,F,F,F,F,F,F,F,F,F,F,F,F,F,F,F,F,F,F,F,F,F,F,F,F,F,F,F,F,F,F,F,F,F,F,F,F,F,F,F,F,F,F,F,F,F,F,F,F,F,F,F,F,F,F,F,F,F,F,F,F,F,F,F,F,F,F,F,F,F,F,F,F,F,F,F,F,F,F,F,F,F,F,F,F,F,F,F,F,F,F,F,F,F,F,F,F,F,F,F,F,F,F,F,F,F,F,F,F,F,F,F,F,F,F,F,F,F,T,T,T,T,T,T,T,T,T,T,T,T,T,T,T,T,T,T,T,T,T,T,T,T,T,T] (fun T_ wc_ => (fun v371 wc => ∃ (kq : Nat) (x371_132 : Bool), v371 = .bool x371_132 ∧ Aside0 (laws_FnLeastSetsWin.j2 kq l1 t107 t115 t137 t141 (t103.length : Int) x45_2 x46_2 t171 t174 t179 x371_132 t102 t103 = some r) ∧ Aside0 (kq ≤ k2) ∧ Aside0 (Kd.S (Kd.slice 3 (Kd.int .i64)) 24 wc w.heap.size (fun k_ => nb (.slice Ao70 t115.length co70) k_ ∧ nb (.slice Ao138 t171.length co138) k_ ∧ nb (.slice Ao44 t103.length co44) k_ ∧ nb (.slice Ao101 t148.length co101) k_ ∧ nb (.slice Ao109 t158.length co109) k_) (.slice Ao68 t107.length co68) t107) ∧ Aside0 (Kd.S (Kd.slice 3 (Kd.int .i64)) 24 wc w.heap.size (fun k_ => nb (.slice Ao68 t107.length co68) k_ ∧ nb (.slice Ao138 t171.length co138) k_ ∧ nb (.slice Ao44 t103.length co44) k_ ∧ nb (.slice Ao101 t148.length co101) k_ ∧ nb (.slice Ao109 t158.length co109) k_) (.slice Ao70 t115.length co70) t115) ∧ Aside0 (Kd.R (Kd.int .i64) 3 wc w.heap.size (fun k_ => nb (.slice Ao44 t103.length co44) k_ ∧ nb (.slice Ao101 t148.length co101) k_ ∧ nb (.slice Ao109 t158.length co109) k_) (.slice Ao138 t171.length co138) t171) ∧ Aside0 (Kd.R (Kd.int .i64) 3 wc w.heap.size (fun k_ => nb (.slice Ao138 t171.length co138) k_ ∧ nb (.slice Ao101 t148.length co101) k_ ∧ nb (.slice Ao109 t158.length co109) k_) (.slice Ao44 t103.length co44) t103) ∧ Aside0 (Kd.R (Kd.int .i64) 3 wc w.heap.size (fun k_ => nb (.slice Ao138 t171.length co138) k_ ∧ nb (.slice Ao44 t103.length co44) k_ ∧ nb (.slice Ao109 t158.length co109) k_) (.slice Ao101 t148.length co101) t148) ∧ Aside0 (Kd.R (Kd.int .i64) 3 wc w.heap.size (fun k_ => nb (.slice Ao138 t171.length co138) k_ ∧ nb (.slice Ao44 t103.length co44) k_ ∧ nb (.slice Ao101 t148.length co101) k_) (.slice Ao109 t158.length co109) t158) ∧ Aside0 (wc.heap[gb106]? = some (.cells #[.int .i64 t102, (.slice Ao44 t103.length co44)] 26 (0, 0))) ∧ Aside0 (wc.heap[gb152]? = some (.cells #[.int .i64 t147, (.slice Ao101 t148.length co101)] 26 (0, 0))) ∧ Aside0 (wc.heap[gb162]? = some (.cells #[.int .i64 t157, (.slice Ao109 t158.length co109)] 26 (0, 0))) ∧ Aside0 (Below w.heap.size w wc)) (T_ 371) wc_) ?restj2 ?firstj2
          case firstj2 => as_aux_lemma =>
           intro J_ K_ hJ_j2 hM_
           have H := HC133.out
           clear HC133
           replace H := ite_yes H
           obtain ⟨c144, H⟩ := H
           subst c144
           replace H := ite_yes H
           obtain ⟨c145, H⟩ := H
           subst c145
           by_cases c146 : t174 = true
           ·subst c146
            replace H := iT H
            by_cases c147 : t179 = true
            ·subst c147
             replace H := iT H
             replace H := ite_no H
             obtain ⟨c148, H⟩ := H
             replace c148 := Bool.eq_false_iff.mpr c148
             subst c148
             as_aux_lemma =>
              have H' := Aside0.mk H
              clear H
              go_wp2
              refine meetT_ hJ_j2 (by kernel_rfl) ?rel
              case rel => exact ⟨_, (false), gR, H', ⟨by have := HK1.out; have := HK2.out; first | omega | exact Nat.le_refl _⟩, ⟨by exact Kd.S_mono HO_6.out (fun _ hk => by first | exact ⟨hk.1.1.1, ⟨hk.1.2, ⟨hk.1.1.2.1, ⟨hk.1.1.2.2.1, hk.1.1.2.2.2⟩⟩⟩⟩ | simp_all)⟩, ⟨by exact Kd.S_mono HO_10.out (fun _ hk => by first | exact ⟨hk.1.1.1, ⟨hk.1.2, ⟨hk.1.1.2.1, ⟨hk.1.1.2.2.1, hk.1.1.2.2.2⟩⟩⟩⟩ | simp_all)⟩, ⟨by exact Kd.R_mono HO173.out (fun _ hk => by first | exact ⟨hk.1.1.1.2, ⟨hk.1.1.2, hk.1.2⟩⟩ | simp_all)⟩, ⟨by exact Kd.R_mono HO_107001.out (fun _ hk => by first | exact ⟨hk.1.2, ⟨hk.1.1.1, hk.1.1.2⟩⟩ | simp_all)⟩, ⟨by exact Kd.R_mono HO_153001.out (fun _ hk => by first | exact ⟨hk.1.2, ⟨hk.1.1.1, hk.1.1.2⟩⟩ | simp_all)⟩, ⟨by exact Kd.R_mono HO_163001.out (fun _ hk => by first | exact ⟨hk.1.2, ⟨hk.1.1.1, hk.1.1.2⟩⟩ | simp_all)⟩, ⟨by exact BK106.out⟩, ⟨by exact BK152.out⟩, ⟨by exact BK162.out⟩, ⟨wB⟩⟩
            ·replace c147 := Bool.eq_false_iff.mpr c147
             subst c147
             replace H := iF H
             as_aux_lemma =>
              have H' := Aside0.mk H
              clear H
              go_wp2
              refine meetT_ hJ_j2 (by kernel_rfl) ?rel
              case rel => exact ⟨_, (false), gR, H', ⟨by have := HK1.out; have := HK2.out; first | omega | exact Nat.le_refl _⟩, ⟨by exact Kd.S_mono HO_6.out (fun _ hk => by first | exact ⟨hk.1.1.1, ⟨hk.1.2, ⟨hk.1.1.2.1, ⟨hk.1.1.2.2.1, hk.1.1.2.2.2⟩⟩⟩⟩ | simp_all)⟩, ⟨by exact Kd.S_mono HO_10.out (fun _ hk => by first | exact ⟨hk.1.1.1, ⟨hk.1.2, ⟨hk.1.1.2.1, ⟨hk.1.1.2.2.1, hk.1.1.2.2.2⟩⟩⟩⟩ | simp_all)⟩, ⟨by exact Kd.R_mono HO173.out (fun _ hk => by first | exact ⟨hk.1.1.1.2, ⟨hk.1.1.2, hk.1.2⟩⟩ | simp_all)⟩, ⟨by exact Kd.R_mono HO_107001.out (fun _ hk => by first | exact ⟨hk.1.2, ⟨hk.1.1.1, hk.1.1.2⟩⟩ | simp_all)⟩, ⟨by exact Kd.R_mono HO_153001.out (fun _ hk => by first | exact ⟨hk.1.2, ⟨hk.1.1.1, hk.1.1.2⟩⟩ | simp_all)⟩, ⟨by exact Kd.R_mono HO_163001.out (fun _ hk => by first | exact ⟨hk.1.2, ⟨hk.1.1.1, hk.1.1.2⟩⟩ | simp_all)⟩, ⟨by exact BK106.out⟩, ⟨by exact BK152.out⟩, ⟨by exact BK162.out⟩, ⟨wB⟩⟩
           ·replace c146 := Bool.eq_false_iff.mpr c146
            subst c146
            replace H := iF H
            by_cases c149 : t179 = true
            ·subst c149
             replace H := iT H
             as_aux_lemma =>
              have H' := Aside0.mk H
              clear H
              go_wp2
              refine meetT_ hJ_j2 (by kernel_rfl) ?rel
              case rel => exact ⟨_, (false), gR, H', ⟨by have := HK1.out; have := HK2.out; first | omega | exact Nat.le_refl _⟩, ⟨by exact Kd.S_mono HO_6.out (fun _ hk => by first | exact ⟨hk.1.1.1, ⟨hk.1.2, ⟨hk.1.1.2.1, ⟨hk.1.1.2.2.1, hk.1.1.2.2.2⟩⟩⟩⟩ | simp_all)⟩, ⟨by exact Kd.S_mono HO_10.out (fun _ hk => by first | exact ⟨hk.1.1.1, ⟨hk.1.2, ⟨hk.1.1.2.1, ⟨hk.1.1.2.2.1, hk.1.1.2.2.2⟩⟩⟩⟩ | simp_all)⟩, ⟨by exact Kd.R_mono HO173.out (fun _ hk => by first | exact ⟨hk.1.1.1.2, ⟨hk.1.1.2, hk.1.2⟩⟩ | simp_all)⟩, ⟨by exact Kd.R_mono HO_107001.out (fun _ hk => by first | exact ⟨hk.1.2, ⟨hk.1.1.1, hk.1.1.2⟩⟩ | simp_all)⟩, ⟨by exact Kd.R_mono HO_153001.out (fun _ hk => by first | exact ⟨hk.1.2, ⟨hk.1.1.1, hk.1.1.2⟩⟩ | simp_all)⟩, ⟨by exact Kd.R_mono HO_163001.out (fun _ hk => by first | exact ⟨hk.1.2, ⟨hk.1.1.1, hk.1.1.2⟩⟩ | simp_all)⟩, ⟨by exact BK106.out⟩, ⟨by exact BK152.out⟩, ⟨by exact BK162.out⟩, ⟨wB⟩⟩
            ·replace c149 := Bool.eq_false_iff.mpr c149
             subst c149
             replace H := iF H
             as_aux_lemma =>
              have H' := Aside0.mk H
              clear H
              go_wp2
              refine meetT_ hJ_j2 (by kernel_rfl) ?rel
              case rel => exact ⟨_, (t141), gR, H', ⟨by have := HK1.out; have := HK2.out; first | omega | exact Nat.le_refl _⟩, ⟨by exact Kd.S_mono HO_6.out (fun _ hk => by first | exact ⟨hk.1.1.1, ⟨hk.1.2, ⟨hk.1.1.2.1, ⟨hk.1.1.2.2.1, hk.1.1.2.2.2⟩⟩⟩⟩ | simp_all)⟩, ⟨by exact Kd.S_mono HO_10.out (fun _ hk => by first | exact ⟨hk.1.1.1, ⟨hk.1.2, ⟨hk.1.1.2.1, ⟨hk.1.1.2.2.1, hk.1.1.2.2.2⟩⟩⟩⟩ | simp_all)⟩, ⟨by exact Kd.R_mono HO173.out (fun _ hk => by first | exact ⟨hk.1.1.1.2, ⟨hk.1.1.2, hk.1.2⟩⟩ | simp_all)⟩, ⟨by exact Kd.R_mono HO_107001.out (fun _ hk => by first | exact ⟨hk.1.2, ⟨hk.1.1.1, hk.1.1.2⟩⟩ | simp_all)⟩, ⟨by exact Kd.R_mono HO_153001.out (fun _ hk => by first | exact ⟨hk.1.2, ⟨hk.1.1.1, hk.1.1.2⟩⟩ | simp_all)⟩, ⟨by exact Kd.R_mono HO_163001.out (fun _ hk => by first | exact ⟨hk.1.2, ⟨hk.1.1.1, hk.1.1.2⟩⟩ | simp_all)⟩, ⟨by exact BK106.out⟩, ⟨by exact BK152.out⟩, ⟨by exact BK162.out⟩, ⟨wB⟩⟩
          case restj2 => as_aux_lemma =>
           intro T_ wc hcut
           (try clear hji127 hji127_ hji127z hji127p hji127q hji127r hji127s hji127u hji127v hji127y hji127x)
           simp only [putT, putM, T, F, Nat.reduceAdd]
           (try dsimp only at hcut)
           generalize T_ 371 = u371 at hcut ⊢
           clear HC133
           (try clear c1); (try clear c2); (try clear p2); (try clear c3); (try clear c4); (try clear c5); (try clear p6); (try clear c7); (try clear c8); (try clear c9); (try clear c10); (try clear c11); (try clear c12); (try clear c13); (try clear c14); (try clear c18); (try clear c20); (try clear c21); (try clear c22); (try clear c23); (try clear c24); (try clear c26); (try clear c27); (try clear c28); (try clear c28b0); (try clear c28b1); (try clear c29); (try clear c30); (try clear c31); (try clear c32); (try clear c33); (try clear c34); (try clear c35); (try clear c36); (try clear c37); (try clear c38); (try clear c39); (try clear c40); (try clear c41); (try clear c42); (try clear c43); (try clear c44); (try clear c45); (try clear c46); (try clear c47); (try clear c50); (try clear c51); (try clear p64); (try clear c76); (try clear c82); (try clear c83); (try clear c85); (try clear c86); (try clear c88); (try clear c89); (try clear c90); (try clear c91); (try clear c93); (try clear c93b0); (try clear c93b1); (try clear c94); (try clear c94b0); (try clear c94b1); (try clear c95); (try clear c95b0); (try clear c95b1); (try clear c99); (try clear c106); (try clear c107); (try clear c118); (try clear c118b0); (try clear c120); (try clear c121); (try clear c122); (try clear c125); (try clear c125b0); (try clear c125b1); (try clear c126); (try clear c126b0); (try clear c126b1); (try clear c128); (try clear c128b0); (try clear c135); (try clear c136); (try clear c144); (try clear c145); (try clear c146); (try clear c147); (try clear c148); (try clear c149); (try clear hcz108_0); (try clear hcz108_1); (try clear hcz115_0); (try clear hcz115_1); (try clear hcz116_0); (try clear hcz116_1); (try clear hcz123_0); (try clear hcz123_1); (try clear hcz137_0); (try clear hcz137_1); (try clear hcz74_0); (try clear hcz74_1); (try clear hfz108_0); (try clear hfz108_1); (try clear hfz115_0); (try clear hfz115_1); (try clear hfz116_0); (try clear hfz116_1); (try clear hfz123_0); (try clear hfz123_1); (try clear hfz137_0); (try clear hfz137_1); (try clear hfz74_0); (try clear hfz74_1); (try clear p2); (try clear p6); (try clear p64)
           obtain ⟨kq, x371_132, rfl, HA, HJ132, HO_6, HO_10, HO_47, HO_107001, HO_153001, HO_163001, BK106, BK152, BK162, HB⟩ := hcut
           cases kq with
           | zero => exact absurd HA.out (by simp [laws_FnLeastSetsWin.j2])
           | succ kj132 =>
            have H := HA.out
            clear HA
            simp only [laws_FnLeastSetsWin.j2] at H
            replace H := ite_no H
            obtain ⟨c150, H⟩ := H
            replace c150 := Bool.eq_false_iff.mpr c150
            subst c150
            have HC151 := Aside0.mk H
            clear H
            go_upto_if 374 with (fail)
            refine cutT_ [F,F,F,F,F,F,F,F,F,F,F,F,F,F,F,F,F,F,F,F,F,F,F,F,F,F,F,F,F,F,F,F,F,F,F,F,F,F,F,F,F,F,F,F,F,T,F,F,F,F,F,F,F,F,F,F,F,F,F,F,F,F,F,F,F,F,F,F,F,F,F,F,F,F,F,F,F,F,F,F,F,F,F,F,F,F,F,F,F,F,F,F,F,F,F,F,F,F,F,F,F,F,F,F,F,F,F,F,F,F,F,F,F,F,F,F,F,F,F,F,F,F,F,F,F,F,F,F,F,F,F,F,F,F,F,F,F,F,F,F,F,F,F,F,F,F,F,F,F,F,F,F,F,F,F,F,F,F,F,F,F,F,F,F,F,F,F,F,F,F,F,F,F,F,F,F,F,F,F,F,F,F,F,F,F,F,F,F,F,F,F,F,F,F,F,F,F,F,F,F,F,F,F,F,F,F,F,F,F,F,F,F,F,F,F,F,F,F,F,F,F,F,F,F,F,F,F,F,F,F,F,F,F,F,F,F,F,F,F,F,F,F,F,F,F,F,F,F,F,F,F,F,F,F,F,F,F,F,F,F,F,F,F,F,F,F,F,F,F,F,F,F,F,F,F,F,F,F,F,F,F,F,F,F,F,F,F,F,F,F,F,F,F,F,F,F,F,F,F,F,F,F,F,F,F,F,F,F,F,F,F,F,F,F,F,F,F,F,F,F,F,F,F,F,F,F,F,F,F,F,F,F,F,F,F,F,F,F,F,F,F,F,F,F,F,F,F,F,F,F,F,F,F,F,F,F,F,F,F,F,F,F,F,F,F,F,F,F,F,F,F,F,F,F,T,T,T] (fun T_ wc_ => (fun v45 wc => ∃ (kq : Nat) (x45_150 : Int), v45 = .int .i64 x45_150 ∧ Aside0 (laws_FnLeastSetsWin.j3 kq l1 t107 t115 t137 t141 (t103.length : Int) x45_150 x46_2 t171 t174 t102 t103 = some r) ∧ Aside0 (kq ≤ kj132) ∧ Aside0 (Kd.S (Kd.slice 3 (Kd.int .i64)) 24 wc w.heap.size (fun k_ => nb (.slice Ao70 t115.length co70) k_ ∧ nb (.slice Ao138 t171.length co138) k_ ∧ nb (.slice Ao44 t103.length co44) k_ ∧ nb (.slice Ao101 t148.length co101) k_ ∧ nb (.slice Ao109 t158.length co109) k_) (.slice Ao68 t107.length co68) t107) ∧ Aside0 (Kd.S (Kd.slice 3 (Kd.int .i64)) 24 wc w.heap.size (fun k_ => nb (.slice Ao68 t107.length co68) k_ ∧ nb (.slice Ao138 t171.length co138) k_ ∧ nb (.slice Ao44 t103.length co44) k_ ∧ nb (.slice Ao101 t148.length co101) k_ ∧ nb (.slice Ao109 t158.length co109) k_) (.slice Ao70 t115.length co70) t115) ∧ Aside0 (Kd.R (Kd.int .i64) 3 wc w.heap.size (fun k_ => nb (.slice Ao44 t103.length co44) k_ ∧ nb (.slice Ao101 t148.length co101) k_ ∧ nb (.slice Ao109 t158.length co109) k_) (.slice Ao138 t171.length co138) t171) ∧ Aside0 (Kd.R (Kd.int .i64) 3 wc w.heap.size (fun k_ => nb (.slice Ao138 t171.length co138) k_ ∧ nb (.slice Ao101 t148.length co101) k_ ∧ nb (.slice Ao109 t158.length co109) k_) (.slice Ao44 t103.length co44) t103) ∧ Aside0 (Kd.R (Kd.int .i64) 3 wc w.heap.size (fun k_ => nb (.slice Ao138 t171.length co138) k_ ∧ nb (.slice Ao44 t103.length co44) k_ ∧ nb (.slice Ao109 t158.length co109) k_) (.slice Ao101 t148.length co101) t148) ∧ Aside0 (Kd.R (Kd.int .i64) 3 wc w.heap.size (fun k_ => nb (.slice Ao138 t171.length co138) k_ ∧ nb (.slice Ao44 t103.length co44) k_ ∧ nb (.slice Ao101 t148.length co101) k_) (.slice Ao109 t158.length co109) t158) ∧ Aside0 (wc.heap[gb106]? = some (.cells #[.int .i64 t102, (.slice Ao44 t103.length co44)] 26 (0, 0))) ∧ Aside0 (wc.heap[gb152]? = some (.cells #[.int .i64 t147, (.slice Ao101 t148.length co101)] 26 (0, 0))) ∧ Aside0 (wc.heap[gb162]? = some (.cells #[.int .i64 t157, (.slice Ao109 t158.length co109)] 26 (0, 0))) ∧ Aside0 (Below w.heap.size w wc)) (T_ 45) wc_) ?restj3 ?firstj3
            case firstj3 => as_aux_lemma =>
             intro J_ K_ hJ_j3 hM_
             have H := HC151.out
             clear HC151
             by_cases c152 : (t174 == t179) = true
             ·rw [if_pos c152] at H
              replace c152 := of_beq c152
              subst t174
              (try simp only [beq_self_eq_true, bne_self_eq_false, Bool.not_beq_self, Bool.not_bne_self])
              as_aux_lemma =>
               have H' := Aside0.mk H
               clear H
               go_wp2
               refine meetT_ hJ_j3 (by kernel_rfl) ?rel
               case rel => exact ⟨_, (wrap64 (x45_2 + 1)), gR, H', ⟨by have := HK1.out; have := HK2.out; have := HJ132.out; first | omega | exact Nat.le_refl _⟩, ⟨by exact HO_6.out⟩, ⟨by exact HO_10.out⟩, ⟨by exact HO_47.out⟩, ⟨by exact HO_107001.out⟩, ⟨by exact HO_153001.out⟩, ⟨by exact HO_163001.out⟩, ⟨by exact BK106.out⟩, ⟨by exact BK152.out⟩, ⟨by exact BK162.out⟩, ⟨wB⟩⟩
             ·rw [if_neg c152] at H
              replace c152 := of_nbeq c152
              subst t174
              (try simp only [beq_self_eq_true, bne_self_eq_false, Bool.not_beq_self, Bool.not_bne_self])
              as_aux_lemma =>
               have H' := Aside0.mk H
               clear H
               go_wp2
               refine meetT_ hJ_j3 (by kernel_rfl) ?rel
               case rel => exact ⟨_, (x45_2), gR, H', ⟨by have := HK1.out; have := HK2.out; have := HJ132.out; first | omega | exact Nat.le_refl _⟩, ⟨by exact HO_6.out⟩, ⟨by exact HO_10.out⟩, ⟨by exact HO_47.out⟩, ⟨by exact HO_107001.out⟩, ⟨by exact HO_153001.out⟩, ⟨by exact HO_163001.out⟩, ⟨by exact BK106.out⟩, ⟨by exact BK152.out⟩, ⟨by exact BK162.out⟩, ⟨wB⟩⟩
            case restj3 => as_aux_lemma =>
             intro T_ wc hcut
             simp only [putT, putM, T, F, Nat.reduceAdd]
             (try dsimp only at hcut)
             generalize T_ 45 = u45 at hcut ⊢
             clear HC151
             (try clear c1); (try clear c2); (try clear p2); (try clear c3); (try clear c4); (try clear c5); (try clear p6); (try clear c7); (try clear c8); (try clear c9); (try clear c10); (try clear c11); (try clear c12); (try clear c13); (try clear c14); (try clear c15); (try clear c18); (try clear c20); (try clear c21); (try clear c22); (try clear c23); (try clear c24); (try clear c26); (try clear c27); (try clear c28); (try clear c28b0); (try clear c28b1); (try clear c29); (try clear c30); (try clear c31); (try clear c32); (try clear c33); (try clear c34); (try clear c35); (try clear c36); (try clear c37); (try clear c38); (try clear c39); (try clear c40); (try clear c41); (try clear c42); (try clear c43); (try clear c44); (try clear c45); (try clear c46); (try clear c47); (try clear c50); (try clear c51); (try clear p64); (try clear c76); (try clear c82); (try clear c83); (try clear c85); (try clear c86); (try clear c88); (try clear c89); (try clear c90); (try clear c91); (try clear c93); (try clear c93b0); (try clear c93b1); (try clear c94); (try clear c94b0); (try clear c94b1); (try clear c95); (try clear c95b0); (try clear c95b1); (try clear c99); (try clear c106); (try clear c107); (try clear c118); (try clear c118b0); (try clear c120); (try clear c121); (try clear c122); (try clear c125); (try clear c125b0); (try clear c125b1); (try clear c126); (try clear c126b0); (try clear c126b1); (try clear c128); (try clear c128b0); (try clear c135); (try clear c136); (try clear c144); (try clear c145); (try clear c146); (try clear c147); (try clear c148); (try clear c149); (try clear c150); (try clear c152); (try clear hcz108_0); (try clear hcz108_1); (try clear hcz115_0); (try clear hcz115_1); (try clear hcz116_0); (try clear hcz116_1); (try clear hcz123_0); (try clear hcz123_1); (try clear hcz137_0); (try clear hcz137_1); (try clear hcz74_0); (try clear hcz74_1); (try clear hfz108_0); (try clear hfz108_1); (try clear hfz115_0); (try clear hfz115_1); (try clear hfz116_0); (try clear hfz116_1); (try clear hfz123_0); (try clear hfz123_1); (try clear hfz137_0); (try clear hfz137_1); (try clear hfz74_0); (try clear hfz74_1); (try clear p2); (try clear p6); (try clear p64)
             obtain ⟨kq, x45_150, rfl, HA, HJ150, HO_6, HO_10, HO_47, HO_107001, HO_153001, HO_163001, BK106, BK152, BK162, HB⟩ := hcut
             cases kq with
             | zero => exact absurd HA.out (by simp [laws_FnLeastSetsWin.j3])
             | succ kj150 =>
              have H := HA.out
              clear HA
              simp only [laws_FnLeastSetsWin.j3] at H
              have H' := Aside0.mk H
              clear H
              go_wp2
              refine loopT_ [F,F,F,F,T,F,F,F,F,F,F,F,F,F,F,F,F,F,F,F,F,F,F,F,F,F,F,F,F,F,F,F,F,F,F,F,F,F,F,F,F,F,F,F,F,F,F,F,F,F,F,F,T,T,T,T,T,F,F,F,F,F,F,F,F,F,F,F,F,F,F,F,F,F,F,F,F,F,F,F,F,F,F,F,F,F,F,F,F,F,F,F,F,F,F,F,F,F,F,F,F,F,F,F,F,F,F,F,F,F,F,F,F,F,F,F,F,F,F,F,F,F,F,F,F,F,F,F,F,F,F,F,F,F,F,F,F,F,F,F,F,F,F,F,F,F,F,F,F,F,F,F,F,F,F,F,F,F,F,F,F,F,F,F,F,F,F,F,F,F,F,F,F,F,F,F,F,F,F,F,F,F,F,F,F,F,F,F,F,F,F,F,F,F,F,F,F,F,F,F,F,F,F,F,F,F,F,F,F,F,F,F,F,F,F,F,F,F,F,F,F,F,F,F,F,F,F,F,F,F,F,F,F,F,F,F,F,F,F,F,F,F,F,F,F,F,F,F,F,F,F,F,F,F,F,F,F,F,F,F,F,F,F,F,F,F,F,F,F,F,F,F,F,F,F,F,F,F,F,F,F,F,F,F,F,F,F,F,F,F,F,F,F,F,F,F,F,F,F,F,F,F,F,F,F,F,F,F,F,F,F,F,F,F,F,F,F,F,F,F,F,F,F,F,F,F,F,F,F,F,F,F,F,F,F,F,F,F,F,F,F,F,F,F,F,F,F,F,F,F,F,F,F,F,F,F,F,F,F,F,F,F,F,F,F,F,F,F,F,F,F,F,F,F,F,F,F,T,T,T,T,T,T,T,T,T,T,T,T,T,T,T,T,T,T,T,T,T,T,T,T,T,T,T,T,T,T,T,T,T,T,T,T,T,T,T,T,T,T,T,T,T] kj150 (fun kq_ T_ w_ => (fun kq v52 v53 w' => ∃ (x52_5 : Bool) (x53_5 : Int), v52 = .bool x52_5 ∧ v53 = .int .i64 x53_5 ∧ Aside0 (laws_FnLeastSetsWin.l2 kq l1 t107 t115 t137 t141 (t103.length : Int) x45_150 x46_2 t171 t174 x52_5 x53_5 t102 t103 = some r) ∧ Aside0 (kq ≤ kj150) ∧ Aside0 (Kd.S (Kd.slice 3 (Kd.int .i64)) 24 w' w.heap.size (fun k_ => nb (.slice Ao70 t115.length co70) k_ ∧ nb (.slice Ao138 t171.length co138) k_ ∧ nb (.slice Ao44 t103.length co44) k_ ∧ nb (.slice Ao101 t148.length co101) k_ ∧ nb (.slice Ao109 t158.length co109) k_) (.slice Ao68 t107.length co68) t107) ∧ Aside0 (Kd.S (Kd.slice 3 (Kd.int .i64)) 24 w' w.heap.size (fun k_ => nb (.slice Ao68 t107.length co68) k_ ∧ nb (.slice Ao138 t171.length co138) k_ ∧ nb (.slice Ao44 t103.length co44) k_ ∧ nb (.slice Ao101 t148.length co101) k_ ∧ nb (.slice Ao109 t158.length co109) k_) (.slice Ao70 t115.length co70) t115) ∧ Aside0 (Kd.R (Kd.int .i64) 3 w' w.heap.size (fun k_ => nb (.slice Ao44 t103.length co44) k_ ∧ nb (.slice Ao101 t148.length co101) k_ ∧ nb (.slice Ao109 t158.length co109) k_) (.slice Ao138 t171.length co138) t171) ∧ Aside0 (Kd.R (Kd.int .i64) 3 w' w.heap.size (fun k_ => nb (.slice Ao138 t171.length co138) k_ ∧ nb (.slice Ao101 t148.length co101) k_ ∧ nb (.slice Ao109 t158.length co109) k_) (.slice Ao44 t103.length co44) t103) ∧ Aside0 (Kd.R (Kd.int .i64) 3 w' w.heap.size (fun k_ => nb (.slice Ao138 t171.length co138) k_ ∧ nb (.slice Ao44 t103.length co44) k_ ∧ nb (.slice Ao109 t158.length co109) k_) (.slice Ao101 t148.length co101) t148) ∧ Aside0 (Kd.R (Kd.int .i64) 3 w' w.heap.size (fun k_ => nb (.slice Ao138 t171.length co138) k_ ∧ nb (.slice Ao44 t103.length co44) k_ ∧ nb (.slice Ao101 t148.length co101) k_) (.slice Ao109 t158.length co109) t158) ∧ Aside0 (w'.heap[gb106]? = some (.cells #[.int .i64 t102, (.slice Ao44 t103.length co44)] 26 (0, 0))) ∧ Aside0 (w'.heap[gb152]? = some (.cells #[.int .i64 t147, (.slice Ao101 t148.length co101)] 26 (0, 0))) ∧ Aside0 (w'.heap[gb162]? = some (.cells #[.int .i64 t157, (.slice Ao109 t158.length co109)] 26 (0, 0))) ∧ Aside0 (Below w.heap.size w w')) kq_ (T_ 52) (T_ 53) w_) (by kernel_rfl) ?atStart ?round
              case atStart => exact ⟨(true), (0), gR, gR, H', ⟨Nat.le_refl _⟩, ⟨by exact HO_6.out⟩, ⟨by exact HO_10.out⟩, ⟨by exact HO_47.out⟩, ⟨by exact HO_107001.out⟩, ⟨by exact HO_153001.out⟩, ⟨by exact HO_163001.out⟩, ⟨by exact BK106.out⟩, ⟨by exact BK152.out⟩, ⟨by exact BK162.out⟩, ⟨wB⟩⟩
              case round => as_aux_lemma =>
               intro gk T_ wr hrel J_ K_ hJ_l2 hM_
               simp only [putT, putM, T, F, Nat.reduceAdd]
               (try dsimp only at hrel)
               generalize T_ 52 = u52 at hrel ⊢
               generalize T_ 53 = u53 at hrel ⊢
               clear H'
               (try clear c1); (try clear c2); (try clear p2); (try clear c3); (try clear c4); (try clear c5); (try clear p6); (try clear c7); (try clear c8); (try clear c9); (try clear c10); (try clear c11); (try clear c12); (try clear c13); (try clear c14); (try clear c15); (try clear c18); (try clear c20); (try clear c21); (try clear c22); (try clear c23); (try clear c24); (try clear c26); (try clear c27); (try clear c28); (try clear c28b0); (try clear c28b1); (try clear c29); (try clear c30); (try clear c31); (try clear c32); (try clear c33); (try clear c34); (try clear c35); (try clear c36); (try clear c37); (try clear c38); (try clear c39); (try clear c40); (try clear c41); (try clear c42); (try clear c43); (try clear c44); (try clear c45); (try clear c46); (try clear c47); (try clear c50); (try clear c51); (try clear p64); (try clear c76); (try clear c82); (try clear c83); (try clear c85); (try clear c86); (try clear c88); (try clear c89); (try clear c90); (try clear c91); (try clear c93); (try clear c93b0); (try clear c93b1); (try clear c94); (try clear c94b0); (try clear c94b1); (try clear c95); (try clear c95b0); (try clear c95b1); (try clear c99); (try clear c106); (try clear c107); (try clear c118); (try clear c118b0); (try clear c120); (try clear c121); (try clear c122); (try clear c125); (try clear c125b0); (try clear c125b1); (try clear c126); (try clear c126b0); (try clear c126b1); (try clear c128); (try clear c128b0); (try clear c135); (try clear c136); (try clear c144); (try clear c145); (try clear c146); (try clear c147); (try clear c148); (try clear c149); (try clear c150); (try clear c152); (try clear hcz108_0); (try clear hcz108_1); (try clear hcz115_0); (try clear hcz115_1); (try clear hcz116_0); (try clear hcz116_1); (try clear hcz123_0); (try clear hcz123_1); (try clear hcz137_0); (try clear hcz137_1); (try clear hcz74_0); (try clear hcz74_1); (try clear hfz108_0); (try clear hfz108_1); (try clear hfz115_0); (try clear hfz115_1); (try clear hfz116_0); (try clear hfz116_1); (try clear hfz123_0); (try clear hfz123_1); (try clear hfz137_0); (try clear hfz137_1); (try clear hfz74_0); (try clear hfz74_1); (try clear p2); (try clear p6); (try clear p64)
               obtain ⟨x52_5, x53_5, rfl, rfl, HA, HK5, HO_6, HO_10, HO_47, HO_107001, HO_153001, HO_163001, BK106, BK152, BK162, HB⟩ := hrel
               cases gk with
               | zero => exact absurd HA.out (by simp [laws_FnLeastSetsWin.l2])
               | succ k5 =>
                have H := HA.out
                clear HA
                simp only [laws_FnLeastSetsWin.l2] at H
                by_cases c153 : x53_5 < (t103.length : Int)
                ·rw [if_pos c153] at H
                 have c153b0 : decide (x53_5 < (t103.length : Int)) = true := decide_eq_true c153
                 clear c153
                 replace H := ite_yes H
                 obtain ⟨c154, H⟩ := H
                 have c154b0 := eq_true c154
                 have c154b1 : decide (0 ≤ x53_5) = true := decide_eq_true c154
                 clear c154
                 obtain ⟨ji155, hji155⟩ : ∃ j_ : Int, (shl .i64 1 x53_5) = j_ := ⟨_, rfl⟩
                 replace H : ((laws_mList.f k5 (Go.bits .xor .i64 x46_2 (ji155)) (t103.length : Int)).bind fun t181 => ((impl_IsWinning.f k5 t102 t103 t181).bind fun bt184 => (if bt184.2 = true then (if t174 = true then (if (Int.tmod (shr .i64 x46_2 x53_5) 2) = 1 then (if bt184.1 = true then (laws_FnLeastSetsWin.j5 k5 l1 t107 t115 t137 t141 (t103.length : Int) x45_150 x46_2 t171 t174 x52_5 x53_5 true t102 t103) else (laws_FnLeastSetsWin.j5 k5 l1 t107 t115 t137 t141 (t103.length : Int) x45_150 x46_2 t171 t174 x52_5 x53_5 false t102 t103)) else (laws_FnLeastSetsWin.j5 k5 l1 t107 t115 t137 t141 (t103.length : Int) x45_150 x46_2 t171 t174 x52_5 x53_5 false t102 t103)) else (if (Int.tmod (shr .i64 x46_2 x53_5) 2) = 0 then (laws_FnLeastSetsWin.j5 k5 l1 t107 t115 t137 t141 (t103.length : Int) x45_150 x46_2 t171 t174 x52_5 x53_5 (!bt184.1) t102 t103) else (laws_FnLeastSetsWin.j5 k5 l1 t107 t115 t137 t141 (t103.length : Int) x45_150 x46_2 t171 t174 x52_5 x53_5 false t102 t103))) else (none)))) = some r := by first | (rw [hji155] at H; exact H) | (simp only [hji155] at H ⊢; exact H)
                 have hji155_ : (IntKind.i64.wrap (1 * 2 ^ min x53_5.toNat 64)) = ji155 := hji155
                 have hji155z : x53_5 ≤ 64 → (IntKind.i64.wrap (1 * 2 ^ x53_5.toNat)) = ji155 := shl_small hji155
                 have hji155u : (IntKind.i64.wrap (2 ^ min x53_5.toNat 64)) = ji155 := by have h_ := hji155_; rw [Int.one_mul] at h_; exact h_
                 have hji155v : x53_5 ≤ 64 → (IntKind.i64.wrap (2 ^ x53_5.toNat)) = ji155 := fun hle_ => by have h_ := hji155z hle_; rw [Int.one_mul] at h_; exact h_
                 have hji155y : (wrap64 (1 * 2 ^ min x53_5.toNat 64)) = ji155 := (i64_w _).symm.trans hji155_
                 have hji155x : x53_5 ≤ 64 → (wrap64 (1 * 2 ^ x53_5.toNat)) = ji155 := fun h_ => (i64_w _).symm.trans (hji155z h_)
                 replace H := oA H
                 obtain ⟨t181, A156, H⟩ := H
                 (try dsimp only at H)
                 replace H := oB H
                 obtain ⟨⟨t184, t185⟩, A1570, H⟩ := H
                 (try dsimp only at H)
                 have A157 := Aside0.mk A1570
                 clear A1570
                 replace H := ite_yes H
                 obtain ⟨c158, H⟩ := H
                 subst c158
                 have HC159 := Aside0.mk H
                 clear H
                 go_upto_region 56 with (first | ((with_reducible refine gate_callee (f := 51) rfl ?_); refine goesL_ (some 387) rfl rfl Tryz.func51 (by kernel_rfl) rfl #[.int .i64 (Go.bits .xor .i64 x46_2 (ji155)), .int .i64 (t103.length : Int)] rfl (by (try simp only [mA, mC, mN]); first | done | (simp only [hji155]; rfl) | rfl | (simp only [List.length_drop, List.length_take]; rfl)) ?_; (with_reducible refine (laws_mList.calls k5 (Go.bits .xor .i64 x46_2 (ji155)) (t103.length : Int) t181 _ A156.out).mono ?_); rintro e w160 ⟨v182, rfl, ho0, hb⟩; refine ⟨_, rfl, ?_⟩; have HO183 := Aside0.mk (Kd.R_lower (Kd.R_new' (Kd.R_new' (Kd.R_new' (Kd.R_new' ho0 (Kd.R_lt HO_47.out)) (Kd.R_lt HO_107001.out)) (Kd.R_lt HO_153001.out)) (Kd.R_lt HO_163001.out)) (below_size HB.out)); replace HO_6 := tE HO_6 (Kd.R_base ho0) hb; replace HO_10 := tE HO_10 (Kd.R_base ho0) hb; replace HO_47 := rE HO_47 (Kd.R_base ho0) hb; replace HO_107001 := rE HO_107001 (Kd.R_base ho0) hb; replace HO_153001 := rE HO_153001 (Kd.R_base ho0) hb; replace HO_163001 := rE HO_163001 (Kd.R_base ho0) hb; replace BK106 := bB BK106 hb; replace BK152 := bB BK152 hb; replace BK162 := bB BK162 hb; replace HB := sB HB hb; (try clear hb); (try clear ho0); have hnb161 := NB106_152.out; have hnc161 := NB152_106.out; have hnb162 := NB106_162.out; have hnc162 := NB162_106.out; have hcz163_0 := cZ BK106 0; have hcz163_1 := cZ BK106 1; have hfz163_0 := fZ BK106 0; have hfz163_1 := fZ BK106 1; obtain ⟨Ao164, co164, eo164⟩ := Kd.R_slice HO183.out; subst eo164) | ((with_reducible refine gate_callee (f := 12) rfl ?_); refine gL 391 Tryz.func12 #[.agg #[.int .i64 t102, .slice Ao44 t103.length co44], .slice Ao164 t181.length co164] ?_; (with_reducible refine (impl_IsWinning.calls k5 t102 _ _ t103 _ _ t181 t184 true _ ?side1 ?side2 ?side3 ?side4 A157.out).mono ?_); (case side1 => have hx_ := (Kd.R_reads' HO_107001.out).2.2; exact cC); (case side2 => exact (Kd.R_reads' HO_107001.out).2.1); (case side3 => have hx_ := (Kd.R_reads' HO183.out).2.2; exact cC); (case side4 => exact (Kd.R_reads' HO183.out).2.1); rintro e w165 ⟨rfl, hb⟩; refine ⟨_, rfl, ?_⟩; replace HO_6 := tB HO_6 hb; replace HO_10 := tB HO_10 hb; replace HO_47 := rB HO_47 hb; replace HO_107001 := rB HO_107001 hb; replace HO_153001 := rB HO_153001 hb; replace HO_163001 := rB HO_163001 hb; replace HO183 := rB HO183 hb; replace BK106 := bB BK106 hb; replace BK152 := bB BK152 hb; replace BK162 := bB BK162 hb; replace HB := sB HB hb; (try clear hb)))
                 (try simp only [Act.put, sA, sZ, sS])
                 refine cutT_ [F,F,F,F,F,F,F,F,F,F,F,F,F,F,F,F,F,F,F,F,F,F,F,F,F,F,F,F,F,F,F,F,F,F,F,F,F,F,F,F,F,F,F,F,F,F,F,F,F,F,F,F,F,F,F,F,F,F,F,F,F,F,F,F,F,F,F,F,F,F,F,F,F,F,F,F,F,F,F,F,F,F,F,F,F,F,F,F,F,F,F,F,F,F,F,F,F,F,F,F,F,F,F,F,F,F,F,F,F,F,F,F,F,F,F,F,F,F,F,F,F,F,F,F,F,F,F,F,F,F,F,F,F,F,F,F,F,F,F,F,F,F,F,F,F,F,F,F,F,F,F,F,F,F,F,F,F,F,F,F,F,F,F,F,F,F,F,F,F,F,F,F,F,F,F,F,F,F,F,F,F,F,F,F,F,F,F,F,F,F,F,F,F,F,F,F,F,F,F,F,F,F,F,F,F,F,F,F,F,F,F,F,F,F,F,F,F,F,F,F,F,F,F,F,F,F,F,F,F,F,F,F,F,F,F,F,F,F,F,F,F,F,F,F,F,F,F,F,F,F,F,F,F,F,F,F,F,F,F,F,F,F,F,F,F,F,F,F,F,F,F,F,F,F,F,F,F,F,F,F,F,F,F,F,F,F,F,F,F,F,F,F,F,F,F,F,F,F,F,F,F,F,F,F,F,F,F,F,F,F,F,F,F,F,F,F,F,F,F,F,F,F,F,F,F,F,F,F,F,F,F,F,F,F,F,F,F,F,F,F,F,F,F,F,F,F,F,F,F,F,F,F,F,F,F,F,F,F,F,F,F,F,F,F,F,F,F,F,F,F,F,F,F,F,F,F,F,F,F,F,F,F,F,F,F,F,F,F,F,F,F,F,F,F,F,F,T,T,T,T,T,T,T,T,T,T,T,T,T,T,T,T,T,T,T,T,T,T,T,T,T,T] (fun T_ wc_ => (fun v421 wc => ∃ (kq : Nat) (x421_158 : Bool), v421 = .bool x421_158 ∧ Aside0 (laws_FnLeastSetsWin.j5 kq l1 t107 t115 t137 t141 (t103.length : Int) x45_150 x46_2 t171 t174 x52_5 x53_5 x421_158 t102 t103 = some r) ∧ Aside0 (kq ≤ k5) ∧ Aside0 (Kd.S (Kd.slice 3 (Kd.int .i64)) 24 wc w.heap.size (fun k_ => nb (.slice Ao70 t115.length co70) k_ ∧ nb (.slice Ao138 t171.length co138) k_ ∧ nb (.slice Ao44 t103.length co44) k_ ∧ nb (.slice Ao101 t148.length co101) k_ ∧ nb (.slice Ao109 t158.length co109) k_) (.slice Ao68 t107.length co68) t107) ∧ Aside0 (Kd.S (Kd.slice 3 (Kd.int .i64)) 24 wc w.heap.size (fun k_ => nb (.slice Ao68 t107.length co68) k_ ∧ nb (.slice Ao138 t171.length co138) k_ ∧ nb (.slice Ao44 t103.length co44) k_ ∧ nb (.slice Ao101 t148.length co101) k_ ∧ nb (.slice Ao109 t158.length co109) k_) (.slice Ao70 t115.length co70) t115) ∧ Aside0 (Kd.R (Kd.int .i64) 3 wc w.heap.size (fun k_ => nb (.slice Ao44 t103.length co44) k_ ∧ nb (.slice Ao101 t148.length co101) k_ ∧ nb (.slice Ao109 t158.length co109) k_) (.slice Ao138 t171.length co138) t171) ∧ Aside0 (Kd.R (Kd.int .i64) 3 wc w.heap.size (fun k_ => nb (.slice Ao138 t171.length co138) k_ ∧ nb (.slice Ao101 t148.length co101) k_ ∧ nb (.slice Ao109 t158.length co109) k_) (.slice Ao44 t103.length co44) t103) ∧ Aside0 (Kd.R (Kd.int .i64) 3 wc w.heap.size (fun k_ => nb (.slice Ao138 t171.length co138) k_ ∧ nb (.slice Ao44 t103.length co44) k_ ∧ nb (.slice Ao109 t158.length co109) k_) (.slice Ao101 t148.length co101) t148) ∧ Aside0 (Kd.R (Kd.int .i64) 3 wc w.heap.size (fun k_ => nb (.slice Ao138 t171.length co138) k_ ∧ nb (.slice Ao44 t103.length co44) k_ ∧ nb (.slice Ao101 t148.length co101) k_) (.slice Ao109 t158.length co109) t158) ∧ Aside0 (wc.heap[gb106]? = some (.cells #[.int .i64 t102, (.slice Ao44 t103.length co44)] 26 (0, 0))) ∧ Aside0 (wc.heap[gb152]? = some (.cells #[.int .i64 t147, (.slice Ao101 t148.length co101)] 26 (0, 0))) ∧ Aside0 (wc.heap[gb162]? = some (.cells #[.int .i64 t157, (.slice Ao109 t158.length co109)] 26 (0, 0))) ∧ Aside0 (Below w.heap.size w wc)) (T_ 421) wc_) ?restj5 ?firstj5
                 case firstj5 => as_aux_lemma =>
                  intro J_ K_ hJ_j5 hM_
                  have H := HC159.out
                  clear HC159
                  by_cases c166 : t174 = true
                  ·subst c166
                   replace H := iT H
                   have c167b0 := eq_true (oD : 0 ≤ x53_5)
                   obtain ⟨ji168, hji168⟩ : ∃ j_ : Int, (shr .i64 x46_2 x53_5) = j_ := ⟨_, rfl⟩
                   replace H : (if (Int.tmod (ji168) 2) = 1 then (if t184 = true then (laws_FnLeastSetsWin.j5 k5 l1 t107 t115 t137 t141 (t103.length : Int) x45_150 x46_2 t171 true x52_5 x53_5 true t102 t103) else (laws_FnLeastSetsWin.j5 k5 l1 t107 t115 t137 t141 (t103.length : Int) x45_150 x46_2 t171 true x52_5 x53_5 false t102 t103)) else (laws_FnLeastSetsWin.j5 k5 l1 t107 t115 t137 t141 (t103.length : Int) x45_150 x46_2 t171 true x52_5 x53_5 false t102 t103)) = some r := by first | (rw [hji168] at H; exact H) | (simp only [hji168] at H ⊢; exact H)
                   have hji168_ : (x46_2 / 2 ^ min x53_5.toNat 64) = ji168 := hji168
                   have hji168z : x53_5 ≤ 64 → (x46_2 / 2 ^ x53_5.toNat) = ji168 := shr_small hji168
                   by_cases c169 : (Int.tmod (ji168) 2) = 1
                   ·rw [if_pos c169] at H
                    have c169b0 : ((Int.tmod (ji168) 2) == 1) = true := beq_iff_eq.mpr c169
                    have c169b1 : ((Int.tmod (ji168) 2) != 1) = false := bne_eq_false_iff_eq.mpr c169
                    clear c169
                    (first | rw [c169b0] | (simp only [i64_w, i32_w]; rw [c169b0]) | skip)
                    by_cases c170 : t184 = true
                    ·subst c170
                     replace H := iT H
                     as_aux_lemma =>
                      have H' := Aside0.mk H
                      clear H
                      go_wp2
                      refine meetT_ hJ_j5 (by kernel_rfl) ?rel
                      case rel => exact ⟨_, (true), gR, H', ⟨by have := HK1.out; have := HK2.out; have := HJ132.out; have := HJ150.out; have := HK5.out; first | omega | exact Nat.le_refl _⟩, ⟨by exact Kd.S_mono HO_6.out (fun _ hk => by first | exact ⟨hk.1.1, ⟨hk.1.2.1, ⟨hk.1.2.2.1, ⟨hk.1.2.2.2.1, hk.1.2.2.2.2⟩⟩⟩⟩ | simp_all)⟩, ⟨by exact Kd.S_mono HO_10.out (fun _ hk => by first | exact ⟨hk.1.1, ⟨hk.1.2.1, ⟨hk.1.2.2.1, ⟨hk.1.2.2.2.1, hk.1.2.2.2.2⟩⟩⟩⟩ | simp_all)⟩, ⟨by exact Kd.R_mono HO_47.out (fun _ hk => by first | exact ⟨hk.1.1, ⟨hk.1.2.1, hk.1.2.2⟩⟩ | simp_all)⟩, ⟨by exact Kd.R_mono HO_107001.out (fun _ hk => by first | exact ⟨hk.1.1, ⟨hk.1.2.1, hk.1.2.2⟩⟩ | simp_all)⟩, ⟨by exact Kd.R_mono HO_153001.out (fun _ hk => by first | exact ⟨hk.1.1, ⟨hk.1.2.1, hk.1.2.2⟩⟩ | simp_all)⟩, ⟨by exact Kd.R_mono HO_163001.out (fun _ hk => by first | exact ⟨hk.1.1, ⟨hk.1.2.1, hk.1.2.2⟩⟩ | simp_all)⟩, ⟨by exact BK106.out⟩, ⟨by exact BK152.out⟩, ⟨by exact BK162.out⟩, ⟨wB⟩⟩
                    ·replace c170 := Bool.eq_false_iff.mpr c170
                     subst c170
                     replace H := iF H
                     as_aux_lemma =>
                      have H' := Aside0.mk H
                      clear H
                      go_wp2
                      refine meetT_ hJ_j5 (by kernel_rfl) ?rel
                      case rel => exact ⟨_, (false), gR, H', ⟨by have := HK1.out; have := HK2.out; have := HJ132.out; have := HJ150.out; have := HK5.out; first | omega | exact Nat.le_refl _⟩, ⟨by exact Kd.S_mono HO_6.out (fun _ hk => by first | exact ⟨hk.1.1, ⟨hk.1.2.1, ⟨hk.1.2.2.1, ⟨hk.1.2.2.2.1, hk.1.2.2.2.2⟩⟩⟩⟩ | simp_all)⟩, ⟨by exact Kd.S_mono HO_10.out (fun _ hk => by first | exact ⟨hk.1.1, ⟨hk.1.2.1, ⟨hk.1.2.2.1, ⟨hk.1.2.2.2.1, hk.1.2.2.2.2⟩⟩⟩⟩ | simp_all)⟩, ⟨by exact Kd.R_mono HO_47.out (fun _ hk => by first | exact ⟨hk.1.1, ⟨hk.1.2.1, hk.1.2.2⟩⟩ | simp_all)⟩, ⟨by exact Kd.R_mono HO_107001.out (fun _ hk => by first | exact ⟨hk.1.1, ⟨hk.1.2.1, hk.1.2.2⟩⟩ | simp_all)⟩, ⟨by exact Kd.R_mono HO_153001.out (fun _ hk => by first | exact ⟨hk.1.1, ⟨hk.1.2.1, hk.1.2.2⟩⟩ | simp_all)⟩, ⟨by exact Kd.R_mono HO_163001.out (fun _ hk => by first | exact ⟨hk.1.1, ⟨hk.1.2.1, hk.1.2.2⟩⟩ | simp_all)⟩, ⟨by exact BK106.out⟩, ⟨by exact BK152.out⟩, ⟨by exact BK162.out⟩, ⟨wB⟩⟩
                   ·rw [if_neg c169] at H
                    have c169b0 : ((Int.tmod (ji168) 2) == 1) = false := beq_eq_false_iff_ne.mpr c169
                    have c169b1 : ((Int.tmod (ji168) 2) != 1) = true := bne_iff_ne.mpr c169
                    (first | rw [c169b0] | (simp only [i64_w, i32_w]; rw [c169b0]) | skip)
                    as_aux_lemma =>
                     have H' := Aside0.mk H
                     clear H
                     go_wp2
                     refine meetT_ hJ_j5 (by kernel_rfl) ?rel
                     case rel => exact ⟨_, (false), gR, H', ⟨by have := HK1.out; have := HK2.out; have := HJ132.out; have := HJ150.out; have := HK5.out; first | omega | exact Nat.le_refl _⟩, ⟨by exact Kd.S_mono HO_6.out (fun _ hk => by first | exact ⟨hk.1.1, ⟨hk.1.2.1, ⟨hk.1.2.2.1, ⟨hk.1.2.2.2.1, hk.1.2.2.2.2⟩⟩⟩⟩ | simp_all)⟩, ⟨by exact Kd.S_mono HO_10.out (fun _ hk => by first | exact ⟨hk.1.1, ⟨hk.1.2.1, ⟨hk.1.2.2.1, ⟨hk.1.2.2.2.1, hk.1.2.2.2.2⟩⟩⟩⟩ | simp_all)⟩, ⟨by exact Kd.R_mono HO_47.out (fun _ hk => by first | exact ⟨hk.1.1, ⟨hk.1.2.1, hk.1.2.2⟩⟩ | simp_all)⟩, ⟨by exact Kd.R_mono HO_107001.out (fun _ hk => by first | exact ⟨hk.1.1, ⟨hk.1.2.1, hk.1.2.2⟩⟩ | simp_all)⟩, ⟨by exact Kd.R_mono HO_153001.out (fun _ hk => by first | exact ⟨hk.1.1, ⟨hk.1.2.1, hk.1.2.2⟩⟩ | simp_all)⟩, ⟨by exact Kd.R_mono HO_163001.out (fun _ hk => by first | exact ⟨hk.1.1, ⟨hk.1.2.1, hk.1.2.2⟩⟩ | simp_all)⟩, ⟨by exact BK106.out⟩, ⟨by exact BK152.out⟩, ⟨by exact BK162.out⟩, ⟨wB⟩⟩
                  ·replace c166 := Bool.eq_false_iff.mpr c166
                   subst c166
                   replace H := iF H
                   have c171b0 := eq_true (oD : 0 ≤ x53_5)
                   obtain ⟨ji172, hji172⟩ : ∃ j_ : Int, (shr .i64 x46_2 x53_5) = j_ := ⟨_, rfl⟩
                   replace H : (if (Int.tmod (ji172) 2) = 0 then (laws_FnLeastSetsWin.j5 k5 l1 t107 t115 t137 t141 (t103.length : Int) x45_150 x46_2 t171 false x52_5 x53_5 (!t184) t102 t103) else (laws_FnLeastSetsWin.j5 k5 l1 t107 t115 t137 t141 (t103.length : Int) x45_150 x46_2 t171 false x52_5 x53_5 false t102 t103)) = some r := by first | (rw [hji172] at H; exact H) | (simp only [hji172] at H ⊢; exact H)
                   have hji172_ : (x46_2 / 2 ^ min x53_5.toNat 64) = ji172 := hji172
                   have hji172z : x53_5 ≤ 64 → (x46_2 / 2 ^ x53_5.toNat) = ji172 := shr_small hji172
                   by_cases c173 : (Int.tmod (ji172) 2) = 0
                   ·rw [if_pos c173] at H
                    have c173b0 : ((Int.tmod (ji172) 2) == 0) = true := beq_iff_eq.mpr c173
                    have c173b1 : ((Int.tmod (ji172) 2) != 0) = false := bne_eq_false_iff_eq.mpr c173
                    clear c173
                    as_aux_lemma =>
                     have H' := Aside0.mk H
                     clear H
                     go_wp2
                     refine meetT_ hJ_j5 (by kernel_rfl) ?rel
                     case rel => exact ⟨_, (!t184), gR, H', ⟨by have := HK1.out; have := HK2.out; have := HJ132.out; have := HJ150.out; have := HK5.out; first | omega | exact Nat.le_refl _⟩, ⟨by exact Kd.S_mono HO_6.out (fun _ hk => by first | exact ⟨hk.1.1, ⟨hk.1.2.1, ⟨hk.1.2.2.1, ⟨hk.1.2.2.2.1, hk.1.2.2.2.2⟩⟩⟩⟩ | simp_all)⟩, ⟨by exact Kd.S_mono HO_10.out (fun _ hk => by first | exact ⟨hk.1.1, ⟨hk.1.2.1, ⟨hk.1.2.2.1, ⟨hk.1.2.2.2.1, hk.1.2.2.2.2⟩⟩⟩⟩ | simp_all)⟩, ⟨by exact Kd.R_mono HO_47.out (fun _ hk => by first | exact ⟨hk.1.1, ⟨hk.1.2.1, hk.1.2.2⟩⟩ | simp_all)⟩, ⟨by exact Kd.R_mono HO_107001.out (fun _ hk => by first | exact ⟨hk.1.1, ⟨hk.1.2.1, hk.1.2.2⟩⟩ | simp_all)⟩, ⟨by exact Kd.R_mono HO_153001.out (fun _ hk => by first | exact ⟨hk.1.1, ⟨hk.1.2.1, hk.1.2.2⟩⟩ | simp_all)⟩, ⟨by exact Kd.R_mono HO_163001.out (fun _ hk => by first | exact ⟨hk.1.1, ⟨hk.1.2.1, hk.1.2.2⟩⟩ | simp_all)⟩, ⟨by exact BK106.out⟩, ⟨by exact BK152.out⟩, ⟨by exact BK162.out⟩, ⟨wB⟩⟩
                   ·rw [if_neg c173] at H
                    have c173b0 : ((Int.tmod (ji172) 2) == 0) = false := beq_eq_false_iff_ne.mpr c173
                    have c173b1 : ((Int.tmod (ji172) 2) != 0) = true := bne_iff_ne.mpr c173
                    as_aux_lemma =>
                     have H' := Aside0.mk H
                     clear H
                     go_wp2
                     refine meetT_ hJ_j5 (by kernel_rfl) ?rel
                     case rel => exact ⟨_, (false), gR, H', ⟨by have := HK1.out; have := HK2.out; have := HJ132.out; have := HJ150.out; have := HK5.out; first | omega | exact Nat.le_refl _⟩, ⟨by exact Kd.S_mono HO_6.out (fun _ hk => by first | exact ⟨hk.1.1, ⟨hk.1.2.1, ⟨hk.1.2.2.1, ⟨hk.1.2.2.2.1, hk.1.2.2.2.2⟩⟩⟩⟩ | simp_all)⟩, ⟨by exact Kd.S_mono HO_10.out (fun _ hk => by first | exact ⟨hk.1.1, ⟨hk.1.2.1, ⟨hk.1.2.2.1, ⟨hk.1.2.2.2.1, hk.1.2.2.2.2⟩⟩⟩⟩ | simp_all)⟩, ⟨by exact Kd.R_mono HO_47.out (fun _ hk => by first | exact ⟨hk.1.1, ⟨hk.1.2.1, hk.1.2.2⟩⟩ | simp_all)⟩, ⟨by exact Kd.R_mono HO_107001.out (fun _ hk => by first | exact ⟨hk.1.1, ⟨hk.1.2.1, hk.1.2.2⟩⟩ | simp_all)⟩, ⟨by exact Kd.R_mono HO_153001.out (fun _ hk => by first | exact ⟨hk.1.1, ⟨hk.1.2.1, hk.1.2.2⟩⟩ | simp_all)⟩, ⟨by exact Kd.R_mono HO_163001.out (fun _ hk => by first | exact ⟨hk.1.1, ⟨hk.1.2.1, hk.1.2.2⟩⟩ | simp_all)⟩, ⟨by exact BK106.out⟩, ⟨by exact BK152.out⟩, ⟨by exact BK162.out⟩, ⟨wB⟩⟩
                 case restj5 => as_aux_lemma =>
                  intro T_ wc hcut
                  (try clear hji155 hji155_ hji155z hji155u hji155v hji155y hji155x); (try clear hji168 hji168_ hji168z); (try clear hji172 hji172_ hji172z)
                  simp only [putT, putM, T, F, Nat.reduceAdd]
                  (try dsimp only at hcut)
                  generalize T_ 421 = u421 at hcut ⊢
                  clear HC159
                  (try clear c1); (try clear c2); (try clear p2); (try clear c3); (try clear c4); (try clear c5); (try clear p6); (try clear c7); (try clear c8); (try clear c9); (try clear c10); (try clear c11); (try clear c12); (try clear c13); (try clear c14); (try clear c15); (try clear c16); (try clear c17); (try clear c18); (try clear c20); (try clear c21); (try clear c22); (try clear c23); (try clear c24); (try clear c26); (try clear c27); (try clear c28); (try clear c28b0); (try clear c28b1); (try clear c29); (try clear c30); (try clear c31); (try clear c32); (try clear c33); (try clear c34); (try clear c35); (try clear c36); (try clear c37); (try clear c38); (try clear c39); (try clear c40); (try clear c41); (try clear c42); (try clear c43); (try clear c44); (try clear c45); (try clear c46); (try clear c47); (try clear c50); (try clear c51); (try clear p64); (try clear c76); (try clear c82); (try clear c83); (try clear c85); (try clear c86); (try clear c88); (try clear c89); (try clear c90); (try clear c91); (try clear c93); (try clear c93b0); (try clear c93b1); (try clear c94); (try clear c94b0); (try clear c94b1); (try clear c95); (try clear c95b0); (try clear c95b1); (try clear c99); (try clear c106); (try clear c107); (try clear c118); (try clear c118b0); (try clear c120); (try clear c121); (try clear c122); (try clear c125); (try clear c125b0); (try clear c125b1); (try clear c126); (try clear c126b0); (try clear c126b1); (try clear c128); (try clear c128b0); (try clear c135); (try clear c136); (try clear c144); (try clear c145); (try clear c146); (try clear c147); (try clear c148); (try clear c149); (try clear c150); (try clear c152); (try clear c153); (try clear c153b0); (try clear c154); (try clear c154b0); (try clear c154b1); (try clear c158); (try clear c161); (try clear c162); (try clear c166); (try clear c167); (try clear c167b0); (try clear c169); (try clear c169b0); (try clear c169b1); (try clear c170); (try clear c171); (try clear c171b0); (try clear c173); (try clear c173b0); (try clear c173b1); (try clear hcz108_0); (try clear hcz108_1); (try clear hcz115_0); (try clear hcz115_1); (try clear hcz116_0); (try clear hcz116_1); (try clear hcz123_0); (try clear hcz123_1); (try clear hcz137_0); (try clear hcz137_1); (try clear hcz163_0); (try clear hcz163_1); (try clear hcz74_0); (try clear hcz74_1); (try clear hfz108_0); (try clear hfz108_1); (try clear hfz115_0); (try clear hfz115_1); (try clear hfz116_0); (try clear hfz116_1); (try clear hfz123_0); (try clear hfz123_1); (try clear hfz137_0); (try clear hfz137_1); (try clear hfz163_0); (try clear hfz163_1); (try clear hfz74_0); (try clear hfz74_1); (try clear p2); (try clear p6); (try clear p64)
                  obtain ⟨kq, x421_158, rfl, HA, HJ158, HO_6, HO_10, HO_47, HO_107001, HO_153001, HO_163001, BK106, BK152, BK162, HB⟩ := hcut
                  cases kq with
                  | zero => exact absurd HA.out (by simp [laws_FnLeastSetsWin.j5])
                  | succ kj158 =>
                   have H := HA.out
                   clear HA
                   simp only [laws_FnLeastSetsWin.j5] at H
                   by_cases c174 : x421_158 = true
                   ·subst c174
                    replace H := iT H
                    as_aux_lemma =>
                     have H' := Aside0.mk H
                     clear H
                     go_wp2
                     refine roundT_ kj158 ?measure hJ_l2 (by kernel_rfl) ?rel
                     case measure => have := HK1.out; have := HK2.out; have := HJ132.out; have := HJ150.out; have := HK5.out; have := HJ158.out; omega
                     case rel => exact ⟨(false), (wrap64 (x53_5 + 1)), gR, gR, H', ⟨by have := HK1.out; have := HK2.out; have := HJ132.out; have := HJ150.out; have := HK5.out; have := HJ158.out; omega⟩, ⟨by exact HO_6.out⟩, ⟨by exact HO_10.out⟩, ⟨by exact HO_47.out⟩, ⟨by exact HO_107001.out⟩, ⟨by exact HO_153001.out⟩, ⟨by exact HO_163001.out⟩, ⟨by exact BK106.out⟩, ⟨by exact BK152.out⟩, ⟨by exact BK162.out⟩, ⟨wB⟩⟩
                   ·replace c174 := Bool.eq_false_iff.mpr c174
                    subst c174
                    replace H := iF H
                    as_aux_lemma =>
                     have H' := Aside0.mk H
                     clear H
                     go_wp2
                     refine roundT_ kj158 ?measure hJ_l2 (by kernel_rfl) ?rel
                     case measure => have := HK1.out; have := HK2.out; have := HJ132.out; have := HJ150.out; have := HK5.out; have := HJ158.out; omega
                     case rel => exact ⟨(x52_5), (wrap64 (x53_5 + 1)), gR, gR, H', ⟨by have := HK1.out; have := HK2.out; have := HJ132.out; have := HJ150.out; have := HK5.out; have := HJ158.out; omega⟩, ⟨by exact HO_6.out⟩, ⟨by exact HO_10.out⟩, ⟨by exact HO_47.out⟩, ⟨by exact HO_107001.out⟩, ⟨by exact HO_153001.out⟩, ⟨by exact HO_163001.out⟩, ⟨by exact BK106.out⟩, ⟨by exact BK152.out⟩, ⟨by exact BK162.out⟩, ⟨wB⟩⟩
                ·rw [if_neg c153] at H
                 have c153b0 : decide (x53_5 < (t103.length : Int)) = false := decide_eq_false c153
                 clear c153
                 have HC175 := Aside0.mk H
                 clear H
                 go_upto_region 58 with (fail)
                 refine cutT_ [F,F,F,F,F,F,F,F,F,F,F,F,F,F,F,F,F,F,F,F,F,F,F,F,F,F,F,F,F,F,F,F,F,F,F,F,F,F,F,F,F,F,F,F,F,F,F,F,F,F,F,F,F,F,F,F,F,F,F,F,F,F,F,F,F,F,F,F,F,F,F,F,F,F,F,F,F,F,F,F,F,F,F,F,F,F,F,F,F,F,F,F,F,F,F,F,F,F,F,F,F,F,F,F,F,F,F,F,F,F,F,F,F,F,F,F,F,F,F,F,F,F,F,F,F,F,F,F,F,F,F,F,F,F,F,F,F,F,F,F,F,F,F,F,F,F,F,F,F,F,F,F,F,F,F,F,F,F,F,F,F,F,F,F,F,F,F,F,F,F,F,F,F,F,F,F,F,F,F,F,F,F,F,F,F,F,F,F,F,F,F,F,F,F,F,F,F,F,F,F,F,F,F,F,F,F,F,F,F,F,F,F,F,F,F,F,F,F,F,F,F,F,F,F,F,F,F,F,F,F,F,F,F,F,F,F,F,F,F,F,F,F,F,F,F,F,F,F,F,F,F,F,F,F,F,F,F,F,F,F,F,F,F,F,F,F,F,F,F,F,F,F,F,F,F,F,F,F,F,F,F,F,F,F,F,F,F,F,F,F,F,F,F,F,F,F,F,F,F,F,F,F,F,F,F,F,F,F,F,F,F,F,F,F,F,F,F,F,F,F,F,F,F,F,F,F,F,F,F,F,F,F,F,F,F,F,F,F,F,F,F,F,F,F,F,F,F,F,F,F,F,F,F,F,F,F,F,F,F,F,F,F,F,F,F,F,F,F,F,F,F,F,F,F,F,F,F,F,F,F,F,F,F,F,F,F,F,F,F,F,F,F,F,F,F,F,F,F,F,F,F,F,F,F,F,F,F,F,F,F,F,F,F,F,F,F,F,F,F,F,F,F,T,T,T,T,T,T,T,T,T,T,T,T,T,T,T,T,T,T,T,T,T,T,T,T,T,T,T,T,T,T,T,T,T,T,T,T] (fun T_ wc_ => (fun v457 wc => ∃ (kq : Nat) (x457_174 : Bool), v457 = .bool x457_174 ∧ Aside0 (laws_FnLeastSetsWin.j6 kq l1 t107 t115 t137 t141 (t103.length : Int) x45_150 x46_2 x457_174 t102 t103 = some r) ∧ Aside0 (kq ≤ k5) ∧ Aside0 (Kd.S (Kd.slice 3 (Kd.int .i64)) 24 wc w.heap.size (fun k_ => nb (.slice Ao70 t115.length co70) k_ ∧ nb (.slice Ao44 t103.length co44) k_ ∧ nb (.slice Ao101 t148.length co101) k_ ∧ nb (.slice Ao109 t158.length co109) k_) (.slice Ao68 t107.length co68) t107) ∧ Aside0 (Kd.S (Kd.slice 3 (Kd.int .i64)) 24 wc w.heap.size (fun k_ => nb (.slice Ao68 t107.length co68) k_ ∧ nb (.slice Ao44 t103.length co44) k_ ∧ nb (.slice Ao101 t148.length co101) k_ ∧ nb (.slice Ao109 t158.length co109) k_) (.slice Ao70 t115.length co70) t115) ∧ Aside0 (Kd.R (Kd.int .i64) 3 wc w.heap.size (fun k_ => nb (.slice Ao101 t148.length co101) k_ ∧ nb (.slice Ao109 t158.length co109) k_) (.slice Ao44 t103.length co44) t103) ∧ Aside0 (Kd.R (Kd.int .i64) 3 wc w.heap.size (fun k_ => nb (.slice Ao44 t103.length co44) k_ ∧ nb (.slice Ao109 t158.length co109) k_) (.slice Ao101 t148.length co101) t148) ∧ Aside0 (Kd.R (Kd.int .i64) 3 wc w.heap.size (fun k_ => nb (.slice Ao44 t103.length co44) k_ ∧ nb (.slice Ao101 t148.length co101) k_) (.slice Ao109 t158.length co109) t158) ∧ Aside0 (wc.heap[gb106]? = some (.cells #[.int .i64 t102, (.slice Ao44 t103.length co44)] 26 (0, 0))) ∧ Aside0 (wc.heap[gb152]? = some (.cells #[.int .i64 t147, (.slice Ao101 t148.length co101)] 26 (0, 0))) ∧ Aside0 (wc.heap[gb162]? = some (.cells #[.int .i64 t157, (.slice Ao109 t158.length co109)] 26 (0, 0))) ∧ Aside0 (Below w.heap.size w wc)) (T_ 457) wc_) ?restj6 ?firstj6
                 case firstj6 => as_aux_lemma =>
                  intro J_ K_ hJ_j6 hM_
                  have H := HC175.out
                  clear HC175
                  by_cases c176 : t174 = true
                  ·subst c176
                   replace H := iT H
                   replace H := oA H
                   obtain ⟨t186, A177, H⟩ := H
                   (try dsimp only at H)
                   replace H := ite_no H
                   obtain ⟨c178, H⟩ := H
                   replace c178 := of_nbne c178
                   subst t186
                   (try simp only [bne_self_eq_false])
                   replace H := oA H
                   obtain ⟨t187, A179, H⟩ := H
                   (try dsimp only at H)
                   replace H := ite_no H
                   obtain ⟨c180, H⟩ := H
                   replace c180 := Bool.eq_false_iff.mpr c180
                   subst c180
                   as_aux_lemma =>
                    have H' := Aside0.mk H
                    clear H
                    go_wp2_with (first | (go_at_call 52; (with_reducible refine (laws_mIn.calls k5 _ _ t107 _ _ t171 x52_5 _ ?side1 ?side2 ?side3 ?side4 A177.out).mono ?_); (case side1 => have hx_ := (Kd.S_reads' HO_6.out).2.2; exact cC); (case side2 => exact (Kd.S_reads' HO_6.out).2.1); (case side3 => have hx_ := (Kd.R_reads' HO_47.out).2.2; exact cC); (case side4 => exact (Kd.R_reads' HO_47.out).2.1); rintro e w' ⟨rfl, ⟨nd, rfl⟩⟩) | (go_at_call 52; (with_reducible refine (laws_mIn.calls k5 _ _ t115 _ _ t171 false _ ?side1 ?side2 ?side3 ?side4 A179.out).mono ?_); (case side1 => have hx_ := (Kd.S_reads' HO_10.out).2.2; exact cC); (case side2 => exact (Kd.S_reads' HO_10.out).2.1); (case side3 => have hx_ := (Kd.R_reads' HO_47.out).2.2; exact cC); (case side4 => exact (Kd.R_reads' HO_47.out).2.1); rintro e w' ⟨rfl, ⟨nd, rfl⟩⟩))
                    refine meetT_ hJ_j6 (by kernel_rfl) ?rel
                    case rel => exact ⟨_, (false), gR, H', ⟨by have := HK1.out; have := HK2.out; have := HJ132.out; have := HJ150.out; have := HK5.out; first | omega | exact Nat.le_refl _⟩, ⟨by (with_reducible repeat (first | apply Kd.S_alloc | apply Kd.S_drewN | apply Kd.S_drew)); exact Kd.S_mono HO_6.out (fun _ hk => by first | exact ⟨hk.1, ⟨hk.2.2.1, ⟨hk.2.2.2.1, hk.2.2.2.2⟩⟩⟩ | simp_all)⟩, ⟨by (with_reducible repeat (first | apply Kd.S_alloc | apply Kd.S_drewN | apply Kd.S_drew)); exact Kd.S_mono HO_10.out (fun _ hk => by first | exact ⟨hk.1, ⟨hk.2.2.1, ⟨hk.2.2.2.1, hk.2.2.2.2⟩⟩⟩ | simp_all)⟩, ⟨by (with_reducible repeat (first | apply qA | apply qN | apply qD)); exact Kd.R_mono HO_107001.out (fun _ hk => by first | exact ⟨hk.2.1, hk.2.2⟩ | simp_all)⟩, ⟨by (with_reducible repeat (first | apply qA | apply qN | apply qD)); exact Kd.R_mono HO_153001.out (fun _ hk => by first | exact ⟨hk.2.1, hk.2.2⟩ | simp_all)⟩, ⟨by (with_reducible repeat (first | apply qA | apply qN | apply qD)); exact Kd.R_mono HO_163001.out (fun _ hk => by first | exact ⟨hk.2.1, hk.2.2⟩ | simp_all)⟩, ⟨bQ BK106⟩, ⟨bQ BK152⟩, ⟨bQ BK162⟩, ⟨wB⟩⟩
                  ·replace c176 := Bool.eq_false_iff.mpr c176
                   subst c176
                   replace H := iF H
                   replace H := oA H
                   obtain ⟨t188, A181, H⟩ := H
                   (try dsimp only at H)
                   replace H := ite_no H
                   obtain ⟨c182, H⟩ := H
                   replace c182 := of_nbne c182
                   subst t188
                   replace H := oA H
                   obtain ⟨t189, A183, H⟩ := H
                   (try dsimp only at H)
                   as_aux_lemma =>
                    have H' := Aside0.mk H
                    clear H
                    go_wp2_with (first | (go_at_call 52; (with_reducible refine (laws_mIn.calls k5 _ _ t115 _ _ t171 x52_5 _ ?side1 ?side2 ?side3 ?side4 A181.out).mono ?_); (case side1 => have hx_ := (Kd.S_reads' HO_10.out).2.2; exact cC); (case side2 => exact (Kd.S_reads' HO_10.out).2.1); (case side3 => have hx_ := (Kd.R_reads' HO_47.out).2.2; exact cC); (case side4 => exact (Kd.R_reads' HO_47.out).2.1); rintro e w' ⟨rfl, ⟨nd, rfl⟩⟩) | (go_at_call 52; (with_reducible refine (laws_mIn.calls k5 _ _ t107 _ _ t171 t189 _ ?side1 ?side2 ?side3 ?side4 A183.out).mono ?_); (case side1 => have hx_ := (Kd.S_reads' HO_6.out).2.2; exact cC); (case side2 => exact (Kd.S_reads' HO_6.out).2.1); (case side3 => have hx_ := (Kd.R_reads' HO_47.out).2.2; exact cC); (case side4 => exact (Kd.R_reads' HO_47.out).2.1); rintro e w' ⟨rfl, ⟨nd, rfl⟩⟩))
                    refine meetT_ hJ_j6 (by kernel_rfl) ?rel
                    case rel => exact ⟨_, (t189), gR, H', ⟨by have := HK1.out; have := HK2.out; have := HJ132.out; have := HJ150.out; have := HK5.out; first | omega | exact Nat.le_refl _⟩, ⟨by (with_reducible repeat (first | apply Kd.S_alloc | apply Kd.S_drewN | apply Kd.S_drew)); exact Kd.S_mono HO_6.out (fun _ hk => by first | exact ⟨hk.1, ⟨hk.2.2.1, ⟨hk.2.2.2.1, hk.2.2.2.2⟩⟩⟩ | simp_all)⟩, ⟨by (with_reducible repeat (first | apply Kd.S_alloc | apply Kd.S_drewN | apply Kd.S_drew)); exact Kd.S_mono HO_10.out (fun _ hk => by first | exact ⟨hk.1, ⟨hk.2.2.1, ⟨hk.2.2.2.1, hk.2.2.2.2⟩⟩⟩ | simp_all)⟩, ⟨by (with_reducible repeat (first | apply qA | apply qN | apply qD)); exact Kd.R_mono HO_107001.out (fun _ hk => by first | exact ⟨hk.2.1, hk.2.2⟩ | simp_all)⟩, ⟨by (with_reducible repeat (first | apply qA | apply qN | apply qD)); exact Kd.R_mono HO_153001.out (fun _ hk => by first | exact ⟨hk.2.1, hk.2.2⟩ | simp_all)⟩, ⟨by (with_reducible repeat (first | apply qA | apply qN | apply qD)); exact Kd.R_mono HO_163001.out (fun _ hk => by first | exact ⟨hk.2.1, hk.2.2⟩ | simp_all)⟩, ⟨bQ BK106⟩, ⟨bQ BK152⟩, ⟨bQ BK162⟩, ⟨wB⟩⟩
                 case restj6 => as_aux_lemma =>
                  intro T_ wc hcut
                  simp only [putT, putM, T, F, Nat.reduceAdd]
                  (try dsimp only at hcut)
                  generalize T_ 457 = u457 at hcut ⊢
                  clear HC175
                  (try clear c1); (try clear c2); (try clear p2); (try clear c3); (try clear c4); (try clear c5); (try clear p6); (try clear c7); (try clear c8); (try clear c9); (try clear c10); (try clear c11); (try clear c12); (try clear c13); (try clear c14); (try clear c15); (try clear c16); (try clear c17); (try clear c18); (try clear c20); (try clear c21); (try clear c22); (try clear c23); (try clear c24); (try clear c26); (try clear c27); (try clear c28); (try clear c28b0); (try clear c28b1); (try clear c29); (try clear c30); (try clear c31); (try clear c32); (try clear c33); (try clear c34); (try clear c35); (try clear c36); (try clear c37); (try clear c38); (try clear c39); (try clear c40); (try clear c41); (try clear c42); (try clear c43); (try clear c44); (try clear c45); (try clear c46); (try clear c47); (try clear c50); (try clear c51); (try clear p64); (try clear c76); (try clear c82); (try clear c83); (try clear c85); (try clear c86); (try clear c88); (try clear c89); (try clear c90); (try clear c91); (try clear c93); (try clear c93b0); (try clear c93b1); (try clear c94); (try clear c94b0); (try clear c94b1); (try clear c95); (try clear c95b0); (try clear c95b1); (try clear c99); (try clear c106); (try clear c107); (try clear c118); (try clear c118b0); (try clear c120); (try clear c121); (try clear c122); (try clear c125); (try clear c125b0); (try clear c125b1); (try clear c126); (try clear c126b0); (try clear c126b1); (try clear c128); (try clear c128b0); (try clear c135); (try clear c136); (try clear c144); (try clear c145); (try clear c146); (try clear c147); (try clear c148); (try clear c149); (try clear c150); (try clear c152); (try clear c153); (try clear c153b0); (try clear c154); (try clear c154b0); (try clear c154b1); (try clear c158); (try clear c161); (try clear c162); (try clear c166); (try clear c167); (try clear c167b0); (try clear c169); (try clear c169b0); (try clear c169b1); (try clear c170); (try clear c171); (try clear c171b0); (try clear c173); (try clear c173b0); (try clear c173b1); (try clear c174); (try clear c176); (try clear c178); (try clear c180); (try clear c182); (try clear hcz108_0); (try clear hcz108_1); (try clear hcz115_0); (try clear hcz115_1); (try clear hcz116_0); (try clear hcz116_1); (try clear hcz123_0); (try clear hcz123_1); (try clear hcz137_0); (try clear hcz137_1); (try clear hcz163_0); (try clear hcz163_1); (try clear hcz74_0); (try clear hcz74_1); (try clear hfz108_0); (try clear hfz108_1); (try clear hfz115_0); (try clear hfz115_1); (try clear hfz116_0); (try clear hfz116_1); (try clear hfz123_0); (try clear hfz123_1); (try clear hfz137_0); (try clear hfz137_1); (try clear hfz163_0); (try clear hfz163_1); (try clear hfz74_0); (try clear hfz74_1); (try clear p2); (try clear p6); (try clear p64)
                  obtain ⟨kq, x457_174, rfl, HA, HJ174, HO_6, HO_10, HO_107001, HO_153001, HO_163001, BK106, BK152, BK162, HB⟩ := hcut
                  cases kq with
                  | zero => exact absurd HA.out (by simp [laws_FnLeastSetsWin.j6])
                  | succ kj174 =>
                   have H := HA.out
                   clear HA
                   simp only [laws_FnLeastSetsWin.j6] at H
                   replace H := ite_no H
                   obtain ⟨c184, H⟩ := H
                   replace c184 := Bool.eq_false_iff.mpr c184
                   subst c184
                   as_aux_lemma =>
                    have H' := Aside0.mk H
                    clear H
                    go_wp2
                    refine roundT_ kj174 ?measure hJ_l1 (by kernel_rfl) ?rel
                    case measure => have := HK1.out; have := HK2.out; have := HJ132.out; have := HJ150.out; have := HK5.out; have := HJ174.out; omega
                    case rel => exact ⟨(x45_150), (wrap64 (x46_2 + 1)), gR, gR, H', ⟨by have := HK1.out; have := HK2.out; have := HJ132.out; have := HJ150.out; have := HK5.out; have := HJ174.out; omega⟩, ⟨by exact HO_6.out⟩, ⟨by exact HO_10.out⟩, ⟨by exact HO_107001.out⟩, ⟨by exact HO_153001.out⟩, ⟨by exact HO_163001.out⟩, ⟨by exact BK106.out⟩, ⟨by exact BK152.out⟩, ⟨by exact BK162.out⟩, ⟨wB⟩⟩
         ·rw [if_neg c128] at H
          have c128b0 : decide (x46_2 < (ji127)) = false := decide_eq_false c128
          clear c128
          have HC185 := Aside0.mk H
          clear H
          go_upto_region 60 with (fail)
          refine cutT_ [F,F,F,F,F,F,F,F,F,F,F,F,F,F,F,F,F,F,F,F,F,F,F,F,F,F,F,F,F,F,F,F,F,F,F,F,F,F,F,F,F,F,F,F,F,F,F,F,F,F,F,F,F,F,F,F,F,F,F,F,F,F,F,F,F,F,F,F,F,F,F,F,F,F,F,F,F,F,F,F,F,F,F,F,F,F,F,F,F,F,F,F,F,F,F,F,F,F,F,F,F,F,F,F,F,F,F,F,F,F,F,F,F,F,F,F,F,F,F,F,F,F,F,F,F,F,F,F,F,F,F,F,F,F,F,F,F,F,F,F,F,F,F,F,F,F,F,F,F,F,F,F,F,F,F,F,F,F,F,F,F,F,F,F,F,F,F,F,F,F,F,F,F,F,F,F,F,F,F,F,F,F,F,F,F,F,F,F,F,F,F,F,F,F,F,F,F,F,F,F,F,F,F,F,F,F,F,F,F,F,F,F,F,F,F,F,F,F,F,F,F,F,F,F,F,F,F,F,F,F,F,F,F,F,F,F,F,F,F,F,F,F,F,F,F,F,F,F,F,F,F,F,F,F,F,F,F,F,F,F,F,F,F,F,F,F,F,F,F,F,F,F,F,F,F,F,F,F,F,F,F,F,F,F,F,F,F,F,F,F,F,F,F,F,F,F,F,F,F,F,F,F,F,F,F,F,F,F,F,F,F,F,F,F,F,F,F,F,F,F,F,F,F,F,F,F,F,F,F,F,F,F,F,F,F,F,F,F,F,F,F,F,F,F,F,F,F,F,F,F,F,F,F,F,F,F,F,F,F,F,F,F,F,F,F,F,F,F,F,F,F,F,F,F,F,F,F,F,F,F,F,F,F,F,F,F,F,F,F,F,F,F,F,F,F,F,F,F,F,F,F,F,F,F,F,F,F,F,F,F,F,F,F,F,F,F,F,F,F,F,F,F,F,F,F,F,F,F,F,F,F,F,F,F,F,F,F,F,F,F,F,F,F,F,F,F,F,F,F,F,F,F,F,F,F,F,F,F,T,T,T,T,T,T,T] (fun T_ wc_ => (fun v464 wc => ∃ (kq : Nat) (x464_184 : Bool), v464 = .bool x464_184 ∧ Aside0 (laws_FnLeastSetsWin.j7 kq l1 t107 t115 x464_184 = some r) ∧ Aside0 (kq ≤ k2) ∧ Aside0 (Kd.S (Kd.slice 3 (Kd.int .i64)) 24 wc w.heap.size (fun k_ => nb (.slice Ao70 t115.length co70) k_ ∧ nb (.slice Ao44 t103.length co44) k_ ∧ nb (.slice Ao101 t148.length co101) k_ ∧ nb (.slice Ao109 t158.length co109) k_) (.slice Ao68 t107.length co68) t107) ∧ Aside0 (Kd.S (Kd.slice 3 (Kd.int .i64)) 24 wc w.heap.size (fun k_ => nb (.slice Ao68 t107.length co68) k_ ∧ nb (.slice Ao44 t103.length co44) k_ ∧ nb (.slice Ao101 t148.length co101) k_ ∧ nb (.slice Ao109 t158.length co109) k_) (.slice Ao70 t115.length co70) t115) ∧ Aside0 (Kd.R (Kd.int .i64) 3 wc w.heap.size (fun k_ => nb (.slice Ao101 t148.length co101) k_ ∧ nb (.slice Ao109 t158.length co109) k_) (.slice Ao44 t103.length co44) t103) ∧ Aside0 (Kd.R (Kd.int .i64) 3 wc w.heap.size (fun k_ => nb (.slice Ao44 t103.length co44) k_ ∧ nb (.slice Ao109 t158.length co109) k_) (.slice Ao101 t148.length co101) t148) ∧ Aside0 (Kd.R (Kd.int .i64) 3 wc w.heap.size (fun k_ => nb (.slice Ao44 t103.length co44) k_ ∧ nb (.slice Ao101 t148.length co101) k_) (.slice Ao109 t158.length co109) t158) ∧ Aside0 (wc.heap[gb106]? = some (.cells #[.int .i64 t102, (.slice Ao44 t103.length co44)] 26 (0, 0))) ∧ Aside0 (wc.heap[gb152]? = some (.cells #[.int .i64 t147, (.slice Ao101 t148.length co101)] 26 (0, 0))) ∧ Aside0 (wc.heap[gb162]? = some (.cells #[.int .i64 t157, (.slice Ao109 t158.length co109)] 26 (0, 0))) ∧ Aside0 (Below w.heap.size w wc)) (T_ 464) wc_) ?restj7 ?firstj7
          case firstj7 => as_aux_lemma =>
           intro J_ K_ hJ_j7 hM_
           have H := HC185.out
           clear HC185
           by_cases c186 : t137 = true
           ·subst c186
            replace H := iT H
            as_aux_lemma =>
             have H' := Aside0.mk H
             clear H
             go_wp2
             refine meetT_ hJ_j7 (by kernel_rfl) ?rel
             case rel => exact ⟨_, (((x45_2 == 0) != t141)), gR, H', ⟨by have := HK1.out; have := HK2.out; first | omega | exact Nat.le_refl _⟩, ⟨by exact HO_6.out⟩, ⟨by exact HO_10.out⟩, ⟨by exact HO_107001.out⟩, ⟨by exact HO_153001.out⟩, ⟨by exact HO_163001.out⟩, ⟨by exact BK106.out⟩, ⟨by exact BK152.out⟩, ⟨by exact BK162.out⟩, ⟨wB⟩⟩
           ·replace c186 := Bool.eq_false_iff.mpr c186
            subst c186
            replace H := iF H
            as_aux_lemma =>
             have H' := Aside0.mk H
             clear H
             go_wp2
             refine meetT_ hJ_j7 (by kernel_rfl) ?rel
             case rel => exact ⟨_, (((x45_2 == 0) != false)), gR, H', ⟨by have := HK1.out; have := HK2.out; first | omega | exact Nat.le_refl _⟩, ⟨by exact HO_6.out⟩, ⟨by exact HO_10.out⟩, ⟨by exact HO_107001.out⟩, ⟨by exact HO_153001.out⟩, ⟨by exact HO_163001.out⟩, ⟨by exact BK106.out⟩, ⟨by exact BK152.out⟩, ⟨by exact BK162.out⟩, ⟨wB⟩⟩
          case restj7 => as_aux_lemma =>
           intro T_ wc hcut
           simp only [putT, putM, T, F, Nat.reduceAdd]
           (try dsimp only at hcut)
           generalize T_ 464 = u464 at hcut ⊢
           clear HC185
           (try clear c1); (try clear c2); (try clear p2); (try clear c3); (try clear c4); (try clear c5); (try clear p6); (try clear c7); (try clear c8); (try clear c9); (try clear c10); (try clear c11); (try clear c12); (try clear c13); (try clear c14); (try clear c15); (try clear c16); (try clear c17); (try clear c18); (try clear c20); (try clear c21); (try clear c22); (try clear c23); (try clear c24); (try clear c26); (try clear c27); (try clear c28); (try clear c28b0); (try clear c28b1); (try clear c29); (try clear c30); (try clear c31); (try clear c32); (try clear c33); (try clear c34); (try clear c35); (try clear c36); (try clear c37); (try clear c38); (try clear c39); (try clear c40); (try clear c41); (try clear c42); (try clear c43); (try clear c44); (try clear c45); (try clear c46); (try clear c47); (try clear c50); (try clear c51); (try clear p64); (try clear c76); (try clear c82); (try clear c83); (try clear c85); (try clear c86); (try clear c88); (try clear c89); (try clear c90); (try clear c91); (try clear c93); (try clear c93b0); (try clear c93b1); (try clear c94); (try clear c94b0); (try clear c94b1); (try clear c95); (try clear c95b0); (try clear c95b1); (try clear c99); (try clear c106); (try clear c107); (try clear c118); (try clear c118b0); (try clear c120); (try clear c121); (try clear c122); (try clear c125); (try clear c125b0); (try clear c125b1); (try clear c126); (try clear c126b0); (try clear c126b1); (try clear c128); (try clear c128b0); (try clear c135); (try clear c136); (try clear c144); (try clear c145); (try clear c146); (try clear c147); (try clear c148); (try clear c149); (try clear c150); (try clear c152); (try clear c153); (try clear c153b0); (try clear c154); (try clear c154b0); (try clear c154b1); (try clear c158); (try clear c161); (try clear c162); (try clear c166); (try clear c167); (try clear c167b0); (try clear c169); (try clear c169b0); (try clear c169b1); (try clear c170); (try clear c171); (try clear c171b0); (try clear c173); (try clear c173b0); (try clear c173b1); (try clear c174); (try clear c176); (try clear c178); (try clear c180); (try clear c182); (try clear c184); (try clear c186); (try clear hcz108_0); (try clear hcz108_1); (try clear hcz115_0); (try clear hcz115_1); (try clear hcz116_0); (try clear hcz116_1); (try clear hcz123_0); (try clear hcz123_1); (try clear hcz137_0); (try clear hcz137_1); (try clear hcz163_0); (try clear hcz163_1); (try clear hcz74_0); (try clear hcz74_1); (try clear hfz108_0); (try clear hfz108_1); (try clear hfz115_0); (try clear hfz115_1); (try clear hfz116_0); (try clear hfz116_1); (try clear hfz123_0); (try clear hfz123_1); (try clear hfz137_0); (try clear hfz137_1); (try clear hfz163_0); (try clear hfz163_1); (try clear hfz74_0); (try clear hfz74_1); (try clear p2); (try clear p6); (try clear p64)
           obtain ⟨kq, x464_184, rfl, HA, HJ184, HO_6, HO_10, HO_107001, HO_153001, HO_163001, BK106, BK152, BK162, HB⟩ := hcut
           cases kq with
           | zero => exact absurd HA.out (by simp [laws_FnLeastSetsWin.j7])
           | succ kj184 =>
            have H := HA.out
            clear HA
            simp only [laws_FnLeastSetsWin.j7] at H
            replace H := ite_no H
            obtain ⟨c187, H⟩ := H
            replace c187 := Bool.eq_false_iff.mpr c187
            subst c187
            have H' := Aside0.mk H
            clear H
            go_wp2
            refine loopT_ [F,F,F,F,T,F,F,F,F,F,F,F,F,F,F,F,F,F,F,F,F,F,F,F,F,F,F,F,F,F,F,F,F,F,F,F,F,F,F,F,F,F,F,F,F,F,F,F,F,F,F,F,F,F,F,F,F,T,F,F,F,F,F,F,F,F,F,F,F,F,F,F,F,F,F,F,F,F,F,F,F,F,F,F,F,F,F,F,F,F,F,F,F,F,F,F,F,F,F,F,F,F,F,F,F,F,F,F,F,F,F,F,F,F,F,F,F,F,F,F,F,F,F,F,F,F,F,F,F,F,F,F,F,F,F,F,F,F,F,F,F,F,F,F,F,F,F,F,F,F,F,F,F,F,F,F,F,F,F,F,F,F,F,F,F,F,F,F,F,F,F,F,F,F,F,F,F,F,F,F,F,F,F,F,F,F,F,F,F,F,F,F,F,F,F,F,F,F,F,F,F,F,F,F,F,F,F,F,F,F,F,F,F,F,F,F,F,F,F,F,F,F,F,F,F,F,F,F,F,F,F,F,F,F,F,F,F,F,F,F,F,F,F,F,F,F,F,F,F,F,F,F,F,F,F,F,F,F,F,F,F,F,F,F,F,F,F,F,F,F,F,F,F,F,F,F,F,F,F,F,F,F,F,F,F,F,F,F,F,F,F,F,F,F,F,F,F,F,F,F,F,F,F,F,F,F,F,F,F,F,F,F,F,F,F,F,F,F,F,F,F,F,F,F,F,F,F,F,F,F,F,F,F,F,F,F,F,F,F,F,F,F,F,F,F,F,F,F,F,F,F,F,F,F,F,F,F,F,F,F,F,F,F,F,F,F,F,F,F,F,F,F,F,F,F,F,F,F,F,F,F,F,F,F,F,F,F,F,F,F,F,F,F,F,F,F,F,F,F,F,F,F,F,F,F,F,F,F,F,F,F,F,F,F,F,F,F,F,F,F,F,F,F,F,F,F,F,F,F,F,F,F,F,F,F,F,F,F,F,F,F,F,F,F,F,F,F,F,F,F,F,F,F,F,F,F,F,F,F,F,F,F,F,F,F,T,T,T,T,T,T,T,T,T,T,T,T,T,T,T,T,T] kj184 (fun kq_ T_ w_ => (fun kq v57 w' => ∃ (x57_4 : Int), v57 = .int .i64 x57_4 ∧ Aside0 (laws_FnLeastSetsWin.l3 kq l1 t107 t115 x57_4 = some r) ∧ Aside0 (kq ≤ kj184) ∧ Aside0 (Kd.S (Kd.slice 3 (Kd.int .i64)) 24 w' w.heap.size (fun k_ => nb (.slice Ao70 t115.length co70) k_ ∧ nb (.slice Ao44 t103.length co44) k_ ∧ nb (.slice Ao101 t148.length co101) k_ ∧ nb (.slice Ao109 t158.length co109) k_) (.slice Ao68 t107.length co68) t107) ∧ Aside0 (Kd.S (Kd.slice 3 (Kd.int .i64)) 24 w' w.heap.size (fun k_ => nb (.slice Ao68 t107.length co68) k_ ∧ nb (.slice Ao44 t103.length co44) k_ ∧ nb (.slice Ao101 t148.length co101) k_ ∧ nb (.slice Ao109 t158.length co109) k_) (.slice Ao70 t115.length co70) t115) ∧ Aside0 (Kd.R (Kd.int .i64) 3 w' w.heap.size (fun k_ => nb (.slice Ao101 t148.length co101) k_ ∧ nb (.slice Ao109 t158.length co109) k_) (.slice Ao44 t103.length co44) t103) ∧ Aside0 (Kd.R (Kd.int .i64) 3 w' w.heap.size (fun k_ => nb (.slice Ao44 t103.length co44) k_ ∧ nb (.slice Ao109 t158.length co109) k_) (.slice Ao101 t148.length co101) t148) ∧ Aside0 (Kd.R (Kd.int .i64) 3 w' w.heap.size (fun k_ => nb (.slice Ao44 t103.length co44) k_ ∧ nb (.slice Ao101 t148.length co101) k_) (.slice Ao109 t158.length co109) t158) ∧ Aside0 (w'.heap[gb106]? = some (.cells #[.int .i64 t102, (.slice Ao44 t103.length co44)] 26 (0, 0))) ∧ Aside0 (w'.heap[gb152]? = some (.cells #[.int .i64 t147, (.slice Ao101 t148.length co101)] 26 (0, 0))) ∧ Aside0 (w'.heap[gb162]? = some (.cells #[.int .i64 t157, (.slice Ao109 t158.length co109)] 26 (0, 0))) ∧ Aside0 (Below w.heap.size w w')) kq_ (T_ 57) w_) (by kernel_rfl) ?atStart ?round
            case atStart => exact ⟨(1), gR, H', ⟨Nat.le_refl _⟩, ⟨by exact HO_6.out⟩, ⟨by exact HO_10.out⟩, ⟨by exact HO_107001.out⟩, ⟨by exact HO_153001.out⟩, ⟨by exact HO_163001.out⟩, ⟨by exact BK106.out⟩, ⟨by exact BK152.out⟩, ⟨by exact BK162.out⟩, ⟨wB⟩⟩
            case round => as_aux_lemma =>
             intro gk T_ wr hrel J_ K_ hJ_l3 hM_
             simp only [putT, putM, T, F, Nat.reduceAdd]
             (try dsimp only at hrel)
             generalize T_ 57 = u57 at hrel ⊢
             clear H'
             (try clear c1); (try clear c2); (try clear p2); (try clear c3); (try clear c4); (try clear c5); (try clear p6); (try clear c7); (try clear c8); (try clear c9); (try clear c10); (try clear c11); (try clear c12); (try clear c13); (try clear c14); (try clear c15); (try clear c16); (try clear c17); (try clear c18); (try clear c20); (try clear c21); (try clear c22); (try clear c23); (try clear c24); (try clear c26); (try clear c27); (try clear c28); (try clear c28b0); (try clear c28b1); (try clear c29); (try clear c30); (try clear c31); (try clear c32); (try clear c33); (try clear c34); (try clear c35); (try clear c36); (try clear c37); (try clear c38); (try clear c39); (try clear c40); (try clear c41); (try clear c42); (try clear c43); (try clear c44); (try clear c45); (try clear c46); (try clear c47); (try clear c50); (try clear c51); (try clear p64); (try clear c76); (try clear c82); (try clear c83); (try clear c85); (try clear c86); (try clear c88); (try clear c89); (try clear c90); (try clear c91); (try clear c93); (try clear c93b0); (try clear c93b1); (try clear c94); (try clear c94b0); (try clear c94b1); (try clear c95); (try clear c95b0); (try clear c95b1); (try clear c99); (try clear c106); (try clear c107); (try clear c118); (try clear c118b0); (try clear c120); (try clear c121); (try clear c122); (try clear c125); (try clear c125b0); (try clear c125b1); (try clear c126); (try clear c126b0); (try clear c126b1); (try clear c128); (try clear c128b0); (try clear c135); (try clear c136); (try clear c144); (try clear c145); (try clear c146); (try clear c147); (try clear c148); (try clear c149); (try clear c150); (try clear c152); (try clear c153); (try clear c153b0); (try clear c154); (try clear c154b0); (try clear c154b1); (try clear c158); (try clear c161); (try clear c162); (try clear c166); (try clear c167); (try clear c167b0); (try clear c169); (try clear c169b0); (try clear c169b1); (try clear c170); (try clear c171); (try clear c171b0); (try clear c173); (try clear c173b0); (try clear c173b1); (try clear c174); (try clear c176); (try clear c178); (try clear c180); (try clear c182); (try clear c184); (try clear c186); (try clear c187); (try clear hcz108_0); (try clear hcz108_1); (try clear hcz115_0); (try clear hcz115_1); (try clear hcz116_0); (try clear hcz116_1); (try clear hcz123_0); (try clear hcz123_1); (try clear hcz137_0); (try clear hcz137_1); (try clear hcz163_0); (try clear hcz163_1); (try clear hcz74_0); (try clear hcz74_1); (try clear hfz108_0); (try clear hfz108_1); (try clear hfz115_0); (try clear hfz115_1); (try clear hfz116_0); (try clear hfz116_1); (try clear hfz123_0); (try clear hfz123_1); (try clear hfz137_0); (try clear hfz137_1); (try clear hfz163_0); (try clear hfz163_1); (try clear hfz74_0); (try clear hfz74_1); (try clear p2); (try clear p6); (try clear p64)
             obtain ⟨x57_4, rfl, HA, HK4, HO_6, HO_10, HO_107001, HO_153001, HO_163001, BK106, BK152, BK162, HB⟩ := hrel
             cases gk with
             | zero => exact absurd HA.out (by simp [laws_FnLeastSetsWin.l3])
             | succ k4 =>
              have H := HA.out
              clear HA
              simp only [laws_FnLeastSetsWin.l3] at H
              by_cases c188 : x57_4 < (t107.length : Int)
              ·rw [if_pos c188] at H
               have c188b0 : decide (x57_4 < (t107.length : Int)) = true := decide_eq_true c188
               clear c188
               obtain ⟨ji189, hji189⟩ : ∃ j_ : Int, (wrap64 (x57_4 - 1)) = j_ := ⟨_, rfl⟩
               replace H : (if 0 ≤ (ji189) then (if (ji189) < (t107.length : Int) then (if 0 ≤ x57_4 then ((laws_mBefore.f k4 (rd_L2 t107 (ji189)) (rd_L2 t107 x57_4)).bind fun t192 => (if t192 = true then (laws_FnLeastSetsWin.l3 k4 l1 t107 t115 (wrap64 (x57_4 + 1))) else (none))) else (none)) else (none)) else (none)) = some r := by first | (rw [hji189] at H; exact H) | (simp only [hji189] at H ⊢; exact H)
               have hji189w : (IntKind.i64.wrap (x57_4 - 1)) = ji189 := (i64_w _).trans hji189
               replace H := ite_yes H
               obtain ⟨c190, H⟩ := H
               have c190b0 : decide (0 ≤ (ji189)) = true := decide_eq_true c190
               clear c190
               replace H := ite_yes H
               obtain ⟨c191, H⟩ := H
               have c191b0 : decide ((ji189) < (t107.length : Int)) = true := decide_eq_true c191
               clear c191
               replace H := ite_yes H
               obtain ⟨c192, H⟩ := H
               have c192b0 : decide (0 ≤ x57_4) = true := decide_eq_true c192
               clear c192
               replace H := oA H
               obtain ⟨t192, A193, H⟩ := H
               (try dsimp only at H)
               replace H := ite_yes H
               obtain ⟨c194, H⟩ := H
               subst c194
               as_aux_lemma =>
                have H' := Aside0.mk H
                clear H
                try go_wp2
                replace HO_6 := Aside0.mk (Kd.S_drew HO_6.out)
                replace HO_10 := Aside0.mk (Kd.S_drew HO_10.out)
                replace HO_107001 := rD HO_107001
                replace HO_153001 := rD HO_153001
                replace HO_163001 := rD HO_163001
                replace BK106 := bD BK106
                replace BK152 := bD BK152
                replace BK162 := bD BK162
                replace HB := Aside0.mk (below_drew1 HB.out)
                have p190 : 0 ≤ ((ji189) : Int) := oD
                have q190 : (ji189) < (t107.length : Int) := oD
                obtain ⟨ad190, A190_0, c190_0, e190, hx190_0, hl190_0, hi190_0⟩ := at_L2 (Kd.S_reads' HO_6.out).2.2 (ji189) p190 q190
                cases e190
                obtain ⟨ce190, hce190, hMe190, hcc190⟩ := Kd.S_get HO_6.out [] (ji189) p190 (by first | exact q190 | exact oD | (have e_ := (Kd.S_reads' HO_6.out).1; omega))
                obtain ⟨ve190_0, rfl, ge190_0⟩ := hMe190
                have hv190_0 := hcc190 0 _ rfl
                rw [Nat.add_zero, show ((Kd.slice 3 (Kd.int .i64))).sz = 1 from rfl, Nat.mul_one] at hv190_0
                replace hv190_0 := Option.some.inj (hv190_0.symm.trans hx190_0)
                rw [hv190_0] at ge190_0
                have HL190_0 := Aside0.mk (show Kd.R (Kd.int .i64) 3 _ _ _ _ (rd_L2 t107 (ji189)) from ge190_0)
                clear hv190_0 ge190_0
                clear hcc190 hce190
                have HR190_0 := Aside0.mk hi190_0
                have HC190_0 := Aside0.mk hl190_0
                clear hi190_0 hl190_0
                replace p190 := eq_true p190
                replace q190 := eq_true q190
                have p191 : 0 ≤ (x57_4 : Int) := oD
                have q191 : x57_4 < (t107.length : Int) := oD
                obtain ⟨ad191, A191_0, c191_0, e191, hx191_0, hl191_0, hi191_0⟩ := at_L2 (Kd.S_reads' HO_6.out).2.2 x57_4 p191 q191
                obtain rfl : ad190 = ad191 := (by injection e191)
                obtain ⟨ce191, hce191, hMe191, hcc191⟩ := Kd.S_get HO_6.out [] x57_4 p191 (by first | exact q191 | exact oD | (have e_ := (Kd.S_reads' HO_6.out).1; omega))
                obtain ⟨ve191_0, rfl, ge191_0⟩ := hMe191
                have hv191_0 := hcc191 0 _ rfl
                rw [Nat.add_zero, show ((Kd.slice 3 (Kd.int .i64))).sz = 1 from rfl, Nat.mul_one] at hv191_0
                replace hv191_0 := Option.some.inj (hv191_0.symm.trans hx191_0)
                rw [hv191_0] at ge191_0
                have HL191_0 := Aside0.mk (show Kd.R (Kd.int .i64) 3 _ _ _ _ (rd_L2 t107 x57_4) from ge191_0)
                clear hv191_0 ge191_0
                clear hcc191 hce191
                have HR191_0 := Aside0.mk hi191_0
                have HC191_0 := Aside0.mk hl191_0
                clear hi191_0 hl191_0
                replace p191 := eq_true p191
                replace q191 := eq_true q191
                refine start_ (n := 11) (S := fun w' => w'.cell? (ad190.add ((ji189)).toNat) = some (.slice A190_0 (rd_L2 t107 (ji189)).length c190_0) ∧ w'.cell? (ad190.add (x57_4).toNat) = some (.slice A191_0 (rd_L2 t107 x57_4).length c191_0)) (ds := []) #[F,F,F,F,F,F,F,F,F,F,F] (by kernel_rfl) rfl rfl ⟨hx190_0, hx191_0⟩ (fun hHeld => ?_); refine with_tabW laws_FnLeastSetsWin.tab65 laws_FnLeastSetsWin.bits65 (fun HT_ HW_ => ?_)
                generalize wr.drew = w195 at HO_6 HO_10 HO_107001 HO_153001 HO_163001 BK106 BK152 BK162 HB HL190_0 HL191_0 HR190_0 HR191_0 hx190_0 hx191_0 hHeld ⊢
                refine pU 0 HT_ ?_
                refine pU 1 HT_ ?_
                refine pU 2 HT_ ?_
                refine pU 3 HT_ ?_
                refine pU 5 HT_ ?_
                refine pU 6 HT_ ?_
                refine pU 7 HT_ ?_
                refine tK 4 HT_ HW_ hHeld (hy := by rintro w' ⟨s0, s1⟩; go_simp; with_reducible rfl) ?_
                refine tK 8 HT_ HW_ hHeld (hy := by rintro w' ⟨s0, s1⟩; go_simp; with_reducible rfl) ?_
                refine oN 9 HT_ (fun K hK => ?_)
                refine goes_ Tryz.func53 (by kernel_rfl) rfl #[.slice A190_0 (rd_L2 t107 (ji189)).length c190_0, .slice A191_0 (rd_L2 t107 x57_4).length c191_0] (by rfl) rfl rfl (by (try simp only [mA, mC, mN]); first | done | (simp only [hji189]; rfl) | rfl | (simp only [List.length_drop, List.length_take]; rfl)) ?_
                with_reducible refine (laws_mBefore.calls k4 _ _ (rd_L2 t107 (ji189)) _ _ (rd_L2 t107 x57_4) true _ (by repeat (first | (with_reducible exact HR190_0.out) | (with_reducible refine Kd.C_alloc ?_ _) | (with_reducible refine Kd.C_drewN ?_ _) | (with_reducible refine Kd.C_drew ?_) | exact HR190_0.out)) HC190_0.out (by repeat (first | (with_reducible exact HR191_0.out) | (with_reducible refine Kd.C_alloc ?_ _) | (with_reducible refine Kd.C_drewN ?_ _) | (with_reducible refine Kd.C_drew ?_) | exact HR191_0.out)) HC191_0.out A193.out).mono ?_
                rintro e w' ⟨rfl, ⟨nd, rfl⟩⟩
                refine ⟨_, rfl, ?_⟩
                refine hK.out _ _ ⟨hHeld.1, hHeld.2⟩ (fun hHeld => ?_)
                clear hK K
                refine nM ?_
                refine pU 10 HT_ ?_
                refine done_ (done_of HT_.out (by kernel_rfl)) ?_
                try go_wp2
                refine roundT_ k4 ?measure hJ_l3 (by kernel_rfl) ?rel
                case measure => have := HK1.out; have := HK2.out; have := HJ184.out; have := HK4.out; omega
                case rel => exact ⟨(wrap64 (x57_4 + 1)), gR, H', ⟨by have := HK1.out; have := HK2.out; have := HJ184.out; have := HK4.out; omega⟩, ⟨tQ HO_6⟩, ⟨tQ HO_10⟩, ⟨rQ HO_107001⟩, ⟨rQ HO_153001⟩, ⟨rQ HO_163001⟩, ⟨bQ BK106⟩, ⟨bQ BK152⟩, ⟨bQ BK162⟩, ⟨wB⟩⟩
              ·rw [if_neg c188] at H
               have c188b0 : decide (x57_4 < (t107.length : Int)) = false := decide_eq_false c188
               clear c188
               have H' := Aside0.mk H
               clear H
               go_wp2
               refine loopT_ [F,F,F,F,T,F,F,F,F,F,F,F,F,F,F,F,F,F,F,F,F,F,F,F,F,F,F,F,F,F,F,F,F,F,F,F,F,F,F,F,F,F,F,F,F,F,F,F,F,F,F,F,F,F,F,F,F,F,T,F,F,F,F,F,F,F,F,F,F,F,F,F,F,F,F,F,F,F,F,F,F,F,F,F,F,F,F,F,F,F,F,F,F,F,F,F,F,F,F,F,F,F,F,F,F,F,F,F,F,F,F,F,F,F,F,F,F,F,F,F,F,F,F,F,F,F,F,F,F,F,F,F,F,F,F,F,F,F,F,F,F,F,F,F,F,F,F,F,F,F,F,F,F,F,F,F,F,F,F,F,F,F,F,F,F,F,F,F,F,F,F,F,F,F,F,F,F,F,F,F,F,F,F,F,F,F,F,F,F,F,F,F,F,F,F,F,F,F,F,F,F,F,F,F,F,F,F,F,F,F,F,F,F,F,F,F,F,F,F,F,F,F,F,F,F,F,F,F,F,F,F,F,F,F,F,F,F,F,F,F,F,F,F,F,F,F,F,F,F,F,F,F,F,F,F,F,F,F,F,F,F,F,F,F,F,F,F,F,F,F,F,F,F,F,F,F,F,F,F,F,F,F,F,F,F,F,F,F,F,F,F,F,F,F,F,F,F,F,F,F,F,F,F,F,F,F,F,F,F,F,F,F,F,F,F,F,F,F,F,F,F,F,F,F,F,F,F,F,F,F,F,F,F,F,F,F,F,F,F,F,F,F,F,F,F,F,F,F,F,F,F,F,F,F,F,F,F,F,F,F,F,F,F,F,F,F,F,F,F,F,F,F,F,F,F,F,F,F,F,F,F,F,F,F,F,F,F,F,F,F,F,F,F,F,F,F,F,F,F,F,F,F,F,F,F,F,F,F,F,F,F,F,F,F,F,F,F,F,F,F,F,F,F,F,F,F,F,F,F,F,F,F,F,F,F,F,F,F,F,F,F,F,F,F,F,F,F,F,F,F,F,F,F,F,F,F,F,F,F,F,F,F,F,F,F,F,F,F,F,F,F,F,F,F,F,F,F,F,F,F,F,F,T,T,T,T,T,T,T,T,T,T,T,T,T,T,T,T,T] k4 (fun kq_ T_ w_ => (fun kq v58 w' => ∃ (x58_5 : Int), v58 = .int .i64 x58_5 ∧ Aside0 (laws_FnLeastSetsWin.l4 kq l1 t115 x58_5 = some r) ∧ Aside0 (kq ≤ k4) ∧ Aside0 (Kd.S (Kd.slice 3 (Kd.int .i64)) 24 w' w.heap.size (fun k_ => nb (.slice Ao44 t103.length co44) k_ ∧ nb (.slice Ao101 t148.length co101) k_ ∧ nb (.slice Ao109 t158.length co109) k_) (.slice Ao70 t115.length co70) t115) ∧ Aside0 (Kd.R (Kd.int .i64) 3 w' w.heap.size (fun k_ => nb (.slice Ao101 t148.length co101) k_ ∧ nb (.slice Ao109 t158.length co109) k_) (.slice Ao44 t103.length co44) t103) ∧ Aside0 (Kd.R (Kd.int .i64) 3 w' w.heap.size (fun k_ => nb (.slice Ao44 t103.length co44) k_ ∧ nb (.slice Ao109 t158.length co109) k_) (.slice Ao101 t148.length co101) t148) ∧ Aside0 (Kd.R (Kd.int .i64) 3 w' w.heap.size (fun k_ => nb (.slice Ao44 t103.length co44) k_ ∧ nb (.slice Ao101 t148.length co101) k_) (.slice Ao109 t158.length co109) t158) ∧ Aside0 (w'.heap[gb106]? = some (.cells #[.int .i64 t102, (.slice Ao44 t103.length co44)] 26 (0, 0))) ∧ Aside0 (w'.heap[gb152]? = some (.cells #[.int .i64 t147, (.slice Ao101 t148.length co101)] 26 (0, 0))) ∧ Aside0 (w'.heap[gb162]? = some (.cells #[.int .i64 t157, (.slice Ao109 t158.length co109)] 26 (0, 0))) ∧ Aside0 (Below w.heap.size w w')) kq_ (T_ 58) w_) (by kernel_rfl) ?atStart ?round
               case atStart => exact ⟨(1), gR, H', ⟨Nat.le_refl _⟩, ⟨by (with_reducible repeat (first | apply Kd.S_alloc | apply Kd.S_drewN | apply Kd.S_drew)); exact Kd.S_mono HO_10.out (fun _ hk => by first | exact ⟨hk.2.1, ⟨hk.2.2.1, hk.2.2.2⟩⟩ | simp_all)⟩, ⟨rQ HO_107001⟩, ⟨rQ HO_153001⟩, ⟨rQ HO_163001⟩, ⟨bQ BK106⟩, ⟨bQ BK152⟩, ⟨bQ BK162⟩, ⟨wB⟩⟩
               case round => as_aux_lemma =>
                intro gk T_ wr hrel J_ K_ hJ_l4 hM_
                (try clear hji189 hji189w)
                simp only [putT, putM, T, F, Nat.reduceAdd]
                (try dsimp only at hrel)
                generalize T_ 58 = u58 at hrel ⊢
                clear H'
                (try clear c1); (try clear p1); (try clear q1); (try clear hx1); (try clear c2); (try clear p2); (try clear c3); (try clear c4); (try clear c5); (try clear p6); (try clear c7); (try clear c8); (try clear c9); (try clear c10); (try clear c11); (try clear c12); (try clear c13); (try clear c14); (try clear c15); (try clear c16); (try clear c17); (try clear c18); (try clear c19); (try clear p19); (try clear q19); (try clear hx19); (try clear c20); (try clear c21); (try clear c22); (try clear c23); (try clear c24); (try clear c26); (try clear c27); (try clear c28); (try clear c28b0); (try clear c28b1); (try clear c29); (try clear c30); (try clear c31); (try clear c32); (try clear c33); (try clear c34); (try clear c35); (try clear c36); (try clear c37); (try clear c38); (try clear c39); (try clear c40); (try clear c41); (try clear c42); (try clear c43); (try clear c44); (try clear c45); (try clear c46); (try clear c47); (try clear c50); (try clear c51); (try clear c53); (try clear p64); (try clear c76); (try clear c82); (try clear c83); (try clear c85); (try clear c86); (try clear c88); (try clear c89); (try clear c90); (try clear c91); (try clear c93); (try clear c93b0); (try clear c93b1); (try clear c94); (try clear c94b0); (try clear c94b1); (try clear c95); (try clear c95b0); (try clear c95b1); (try clear c99); (try clear c106); (try clear c107); (try clear c118); (try clear c118b0); (try clear c120); (try clear c121); (try clear c122); (try clear c125); (try clear c125b0); (try clear c125b1); (try clear c126); (try clear c126b0); (try clear c126b1); (try clear c128); (try clear c128b0); (try clear c135); (try clear c136); (try clear c144); (try clear c145); (try clear c146); (try clear c147); (try clear c148); (try clear c149); (try clear c150); (try clear c152); (try clear c153); (try clear c153b0); (try clear c154); (try clear c154b0); (try clear c154b1); (try clear c158); (try clear c161); (try clear c162); (try clear c166); (try clear c167); (try clear c167b0); (try clear c169); (try clear c169b0); (try clear c169b1); (try clear c170); (try clear c171); (try clear c171b0); (try clear c173); (try clear c173b0); (try clear c173b1); (try clear c174); (try clear c176); (try clear c178); (try clear c180); (try clear c182); (try clear c184); (try clear c186); (try clear c187); (try clear c188); (try clear c188b0); (try clear c190); (try clear c190b0); (try clear p190); (try clear q190); (try clear hx190); (try clear c191); (try clear c191b0); (try clear p191); (try clear q191); (try clear hx191); (try clear c192); (try clear c192b0); (try clear c194); (try clear hcz108_0); (try clear hcz108_1); (try clear hcz115_0); (try clear hcz115_1); (try clear hcz116_0); (try clear hcz116_1); (try clear hcz123_0); (try clear hcz123_1); (try clear hcz137_0); (try clear hcz137_1); (try clear hcz163_0); (try clear hcz163_1); (try clear hcz74_0); (try clear hcz74_1); (try clear hfz108_0); (try clear hfz108_1); (try clear hfz115_0); (try clear hfz115_1); (try clear hfz116_0); (try clear hfz116_1); (try clear hfz123_0); (try clear hfz123_1); (try clear hfz137_0); (try clear hfz137_1); (try clear hfz163_0); (try clear hfz163_1); (try clear hfz74_0); (try clear hfz74_1); (try clear hx190_0); (try clear hx191_0); (try clear p190); (try clear p191); (try clear p2); (try clear p6); (try clear p64); (try clear q190); (try clear q191)
                obtain ⟨x58_5, rfl, HA, HK5, HO_10, HO_107001, HO_153001, HO_163001, BK106, BK152, BK162, HB⟩ := hrel
                cases gk with
                | zero => exact absurd HA.out (by simp [laws_FnLeastSetsWin.l4])
                | succ k5 =>
                 have H := HA.out
                 clear HA
                 simp only [laws_FnLeastSetsWin.l4] at H
                 by_cases c196 : x58_5 < (t115.length : Int)
                 ·rw [if_pos c196] at H
                  have c196b0 : decide (x58_5 < (t115.length : Int)) = true := decide_eq_true c196
                  clear c196
                  obtain ⟨ji197, hji197⟩ : ∃ j_ : Int, (wrap64 (x58_5 - 1)) = j_ := ⟨_, rfl⟩
                  replace H : (if 0 ≤ (ji197) then (if (ji197) < (t115.length : Int) then (if 0 ≤ x58_5 then ((laws_mBefore.f k5 (rd_L2 t115 (ji197)) (rd_L2 t115 x58_5)).bind fun t195 => (if t195 = true then (laws_FnLeastSetsWin.l4 k5 l1 t115 (wrap64 (x58_5 + 1))) else (none))) else (none)) else (none)) else (none)) = some r := by first | (rw [hji197] at H; exact H) | (simp only [hji197] at H ⊢; exact H)
                  have hji197w : (IntKind.i64.wrap (x58_5 - 1)) = ji197 := (i64_w _).trans hji197
                  replace H := ite_yes H
                  obtain ⟨c198, H⟩ := H
                  have c198b0 : decide (0 ≤ (ji197)) = true := decide_eq_true c198
                  clear c198
                  replace H := ite_yes H
                  obtain ⟨c199, H⟩ := H
                  have c199b0 : decide ((ji197) < (t115.length : Int)) = true := decide_eq_true c199
                  clear c199
                  replace H := ite_yes H
                  obtain ⟨c200, H⟩ := H
                  have c200b0 : decide (0 ≤ x58_5) = true := decide_eq_true c200
                  clear c200
                  replace H := oA H
                  obtain ⟨t195, A201, H⟩ := H
                  (try dsimp only at H)
                  replace H := ite_yes H
                  obtain ⟨c202, H⟩ := H
                  subst c202
                  as_aux_lemma =>
                   have H' := Aside0.mk H
                   clear H
                   try go_wp2
                   replace HO_10 := Aside0.mk (Kd.S_drew HO_10.out)
                   replace HO_107001 := rD HO_107001
                   replace HO_153001 := rD HO_153001
                   replace HO_163001 := rD HO_163001
                   replace BK106 := bD BK106
                   replace BK152 := bD BK152
                   replace BK162 := bD BK162
                   replace HB := Aside0.mk (below_drew1 HB.out)
                   have p193 : 0 ≤ ((ji197) : Int) := oD
                   have q193 : (ji197) < (t115.length : Int) := oD
                   obtain ⟨ad193, A193_0, c193_0, e193, hx193_0, hl193_0, hi193_0⟩ := at_L2 (Kd.S_reads' HO_10.out).2.2 (ji197) p193 q193
                   cases e193
                   obtain ⟨ce193, hce193, hMe193, hcc193⟩ := Kd.S_get HO_10.out [] (ji197) p193 (by first | exact q193 | exact oD | (have e_ := (Kd.S_reads' HO_10.out).1; omega))
                   obtain ⟨ve193_0, rfl, ge193_0⟩ := hMe193
                   have hv193_0 := hcc193 0 _ rfl
                   rw [Nat.add_zero, show ((Kd.slice 3 (Kd.int .i64))).sz = 1 from rfl, Nat.mul_one] at hv193_0
                   replace hv193_0 := Option.some.inj (hv193_0.symm.trans hx193_0)
                   rw [hv193_0] at ge193_0
                   have HL193_0 := Aside0.mk (show Kd.R (Kd.int .i64) 3 _ _ _ _ (rd_L2 t115 (ji197)) from ge193_0)
                   clear hv193_0 ge193_0
                   clear hcc193 hce193
                   have HR193_0 := Aside0.mk hi193_0
                   have HC193_0 := Aside0.mk hl193_0
                   clear hi193_0 hl193_0
                   replace p193 := eq_true p193
                   replace q193 := eq_true q193
                   have p194 : 0 ≤ (x58_5 : Int) := oD
                   have q194 : x58_5 < (t115.length : Int) := oD
                   obtain ⟨ad194, A194_0, c194_0, e194, hx194_0, hl194_0, hi194_0⟩ := at_L2 (Kd.S_reads' HO_10.out).2.2 x58_5 p194 q194
                   obtain rfl : ad193 = ad194 := (by injection e194)
                   obtain ⟨ce194, hce194, hMe194, hcc194⟩ := Kd.S_get HO_10.out [] x58_5 p194 (by first | exact q194 | exact oD | (have e_ := (Kd.S_reads' HO_10.out).1; omega))
                   obtain ⟨ve194_0, rfl, ge194_0⟩ := hMe194
                   have hv194_0 := hcc194 0 _ rfl
                   rw [Nat.add_zero, show ((Kd.slice 3 (Kd.int .i64))).sz = 1 from rfl, Nat.mul_one] at hv194_0
                   replace hv194_0 := Option.some.inj (hv194_0.symm.trans hx194_0)
                   rw [hv194_0] at ge194_0
                   have HL194_0 := Aside0.mk (show Kd.R (Kd.int .i64) 3 _ _ _ _ (rd_L2 t115 x58_5) from ge194_0)
                   clear hv194_0 ge194_0
                   clear hcc194 hce194
                   have HR194_0 := Aside0.mk hi194_0
                   have HC194_0 := Aside0.mk hl194_0
                   clear hi194_0 hl194_0
                   replace p194 := eq_true p194
                   replace q194 := eq_true q194
                   refine start_ (n := 11) (S := fun w' => w'.cell? (ad193.add ((ji197)).toNat) = some (.slice A193_0 (rd_L2 t115 (ji197)).length c193_0) ∧ w'.cell? (ad193.add (x58_5).toNat) = some (.slice A194_0 (rd_L2 t115 x58_5).length c194_0)) (ds := []) #[F,F,F,F,F,F,F,F,F,F,F] (by kernel_rfl) rfl rfl ⟨hx193_0, hx194_0⟩ (fun hHeld => ?_); refine with_tabW laws_FnLeastSetsWin.tab70 laws_FnLeastSetsWin.bits70 (fun HT_ HW_ => ?_)
                   generalize wr.drew = w203 at HO_10 HO_107001 HO_153001 HO_163001 BK106 BK152 BK162 HB HL193_0 HL194_0 HR193_0 HR194_0 hx193_0 hx194_0 hHeld ⊢
                   refine pU 0 HT_ ?_
                   refine pU 1 HT_ ?_
                   refine pU 2 HT_ ?_
                   refine pU 3 HT_ ?_
                   refine pU 5 HT_ ?_
                   refine pU 6 HT_ ?_
                   refine pU 7 HT_ ?_
                   refine tK 4 HT_ HW_ hHeld (hy := by rintro w' ⟨s0, s1⟩; go_simp; with_reducible rfl) ?_
                   refine tK 8 HT_ HW_ hHeld (hy := by rintro w' ⟨s0, s1⟩; go_simp; with_reducible rfl) ?_
                   refine oN 9 HT_ (fun K hK => ?_)
                   refine goes_ Tryz.func53 (by kernel_rfl) rfl #[.slice A193_0 (rd_L2 t115 (ji197)).length c193_0, .slice A194_0 (rd_L2 t115 x58_5).length c194_0] (by rfl) rfl rfl (by (try simp only [mA, mC, mN]); first | done | (simp only [hji197]; rfl) | rfl | (simp only [List.length_drop, List.length_take]; rfl)) ?_
                   with_reducible refine (laws_mBefore.calls k5 _ _ (rd_L2 t115 (ji197)) _ _ (rd_L2 t115 x58_5) true _ (by repeat (first | (with_reducible exact HR193_0.out) | (with_reducible refine Kd.C_alloc ?_ _) | (with_reducible refine Kd.C_drewN ?_ _) | (with_reducible refine Kd.C_drew ?_) | exact HR193_0.out)) HC193_0.out (by repeat (first | (with_reducible exact HR194_0.out) | (with_reducible refine Kd.C_alloc ?_ _) | (with_reducible refine Kd.C_drewN ?_ _) | (with_reducible refine Kd.C_drew ?_) | exact HR194_0.out)) HC194_0.out A201.out).mono ?_
                   rintro e w' ⟨rfl, ⟨nd, rfl⟩⟩
                   refine ⟨_, rfl, ?_⟩
                   refine hK.out _ _ ⟨hHeld.1, hHeld.2⟩ (fun hHeld => ?_)
                   clear hK K
                   refine nM ?_
                   refine pU 10 HT_ ?_
                   refine done_ (done_of HT_.out (by kernel_rfl)) ?_
                   try go_wp2
                   refine roundT_ k5 ?measure hJ_l4 (by kernel_rfl) ?rel
                   case measure => have := HK1.out; have := HK2.out; have := HJ184.out; have := HK4.out; have := HK5.out; omega
                   case rel => exact ⟨(wrap64 (x58_5 + 1)), gR, H', ⟨by have := HK1.out; have := HK2.out; have := HJ184.out; have := HK4.out; have := HK5.out; omega⟩, ⟨tQ HO_10⟩, ⟨rQ HO_107001⟩, ⟨rQ HO_153001⟩, ⟨rQ HO_163001⟩, ⟨bQ BK106⟩, ⟨bQ BK152⟩, ⟨bQ BK162⟩, ⟨wB⟩⟩
                 ·rw [if_neg c196] at H
                  have c196b0 : decide (x58_5 < (t115.length : Int)) = false := decide_eq_false c196
                  clear c196
                  as_aux_lemma =>
                   have H' := Aside0.mk H
                   clear H
                   go_wp2
                   refine meetT_ hJ_j10 (by kernel_rfl) ?rel
                   case rel => exact ⟨_, H', ⟨by have := HK1.out; have := HK2.out; have := HJ184.out; have := HK4.out; have := HK5.out; first | omega | exact Nat.le_refl _⟩, ⟨by (with_reducible repeat (first | apply qA | apply qN | apply qD)); exact Kd.R_mono HO_107001.out (fun _ hk => trivial)⟩, ⟨bQ BK106⟩, ⟨wB⟩⟩
   ·replace c76 := Bool.eq_false_iff.mpr c76
    subst c76
    replace H := iF H
    as_aux_lemma =>
     have H' := Aside0.mk H
     clear H
     go_wp2
     refine meetT_ hJ_j10 (by kernel_rfl) ?rel
     case rel => exact ⟨_, H', ⟨by first | omega | exact Nat.le_refl _⟩, ⟨rQ HO105⟩, ⟨bQ BK106⟩, ⟨wB⟩⟩
  case restj10 => as_aux_lemma =>
   intro T_ wc hcut
   (try clear hji197 hji197w)
   simp only [putT, putM, T, F, Nat.reduceAdd]
   (try dsimp only at hcut)
   clear HC40
   (try clear c1); (try clear p1); (try clear q1); (try clear hx1); (try clear c2); (try clear p2); (try clear c3); (try clear c4); (try clear c5); (try clear p6); (try clear c7); (try clear c8); (try clear c9); (try clear c10); (try clear c11); (try clear c12); (try clear c13); (try clear c14); (try clear c15); (try clear c16); (try clear c17); (try clear c18); (try clear c19); (try clear p19); (try clear q19); (try clear hx19); (try clear c20); (try clear c21); (try clear c22); (try clear c23); (try clear c24); (try clear c26); (try clear c27); (try clear c28); (try clear c28b0); (try clear c28b1); (try clear c29); (try clear c30); (try clear c31); (try clear c32); (try clear c33); (try clear c34); (try clear c35); (try clear c36); (try clear c37); (try clear c38); (try clear c39); (try clear c40); (try clear c41); (try clear c42); (try clear c43); (try clear c44); (try clear c45); (try clear c46); (try clear c47); (try clear c50); (try clear c51); (try clear c53); (try clear p64); (try clear c76); (try clear c82); (try clear c83); (try clear c85); (try clear c86); (try clear c88); (try clear c89); (try clear c90); (try clear c91); (try clear c93); (try clear c93b0); (try clear c93b1); (try clear c94); (try clear c94b0); (try clear c94b1); (try clear c95); (try clear c95b0); (try clear c95b1); (try clear c99); (try clear c106); (try clear c107); (try clear c118); (try clear c118b0); (try clear c120); (try clear c121); (try clear c122); (try clear c125); (try clear c125b0); (try clear c125b1); (try clear c126); (try clear c126b0); (try clear c126b1); (try clear c128); (try clear c128b0); (try clear c135); (try clear c136); (try clear c144); (try clear c145); (try clear c146); (try clear c147); (try clear c148); (try clear c149); (try clear c150); (try clear c152); (try clear c153); (try clear c153b0); (try clear c154); (try clear c154b0); (try clear c154b1); (try clear c158); (try clear c161); (try clear c162); (try clear c166); (try clear c167); (try clear c167b0); (try clear c169); (try clear c169b0); (try clear c169b1); (try clear c170); (try clear c171); (try clear c171b0); (try clear c173); (try clear c173b0); (try clear c173b1); (try clear c174); (try clear c176); (try clear c178); (try clear c180); (try clear c182); (try clear c184); (try clear c186); (try clear c187); (try clear c188); (try clear c188b0); (try clear c190); (try clear c190b0); (try clear p190); (try clear q190); (try clear hx190); (try clear c191); (try clear c191b0); (try clear p191); (try clear q191); (try clear hx191); (try clear c192); (try clear c192b0); (try clear c193); (try clear p193); (try clear q193); (try clear hx193); (try clear c194); (try clear p194); (try clear q194); (try clear hx194); (try clear c196); (try clear c196b0); (try clear c198); (try clear c198b0); (try clear c199); (try clear c199b0); (try clear c200); (try clear c200b0); (try clear c202); (try clear hcz108_0); (try clear hcz108_1); (try clear hcz115_0); (try clear hcz115_1); (try clear hcz116_0); (try clear hcz116_1); (try clear hcz123_0); (try clear hcz123_1); (try clear hcz137_0); (try clear hcz137_1); (try clear hcz163_0); (try clear hcz163_1); (try clear hcz74_0); (try clear hcz74_1); (try clear hfz108_0); (try clear hfz108_1); (try clear hfz115_0); (try clear hfz115_1); (try clear hfz116_0); (try clear hfz116_1); (try clear hfz123_0); (try clear hfz123_1); (try clear hfz137_0); (try clear hfz137_1); (try clear hfz163_0); (try clear hfz163_1); (try clear hfz74_0); (try clear hfz74_1); (try clear hx190_0); (try clear hx191_0); (try clear hx193_0); (try clear hx194_0); (try clear p1); (try clear p19); (try clear p190); (try clear p191); (try clear p193); (try clear p194); (try clear p2); (try clear p6); (try clear p64); (try clear q1); (try clear q19); (try clear q190); (try clear q191); (try clear q193); (try clear q194)
   obtain ⟨kq, HA, HJ39, HO_107001, BK106, HB⟩ := hcut
   cases kq with
   | zero => exact absurd HA.out (by simp [laws_FnLeastSetsWin.j10])
   | succ kj39 =>
    have H := HA.out
    clear HA
    simp only [laws_FnLeastSetsWin.j10] at H
    replace H := oB H
    obtain ⟨⟨t196, t197, t200⟩, A2040, H⟩ := H
    (try dsimp only at H)
    have A204 := Aside0.mk A2040
    clear A2040
    replace H := oB H
    obtain ⟨⟨t202, t203⟩, A2050, H⟩ := H
    (try dsimp only at H)
    have A205 := Aside0.mk A2050
    clear A2050
    replace H := oB H
    obtain ⟨⟨t204, t205⟩, A2060, H⟩ := H
    (try dsimp only at H)
    have A206 := Aside0.mk A2060
    clear A2060
    replace H := ite_yes H
    obtain ⟨c207, H⟩ := H
    have c207b0 : (t203 == t205) = true := c207
    (try (have c207b1 : decide (t203 = t205) = true := by simpa using c207))
    (try (have c207b2 : (t203 == t205) = true := by simpa using c207))
    clear c207
    as_aux_lemma =>
     obtain rfl := Option.some.inj H
     go_upto_region 73 with (first | ((with_reducible refine gate_callee (f := 54) rfl ?_); refine gL 501 Tryz.func54 #[.slice A1 l1.length c1] ?_; (with_reducible refine (spec_DrawCountWinningOf.calls kj39 _ _ l1 t196 t197 t200 _ (Kd.C_below HR1.out HB.out) HC1.out A204.out).mono ?_); rintro e w208 ⟨v198, rfl, ho0, hb⟩; refine ⟨_, rfl, ?_⟩; have HO199 := Aside0.mk (Kd.R_lower (Kd.R_new' ho0 (Kd.R_lt HO_107001.out)) (below_size HB.out)); replace HO_107001 := rE HO_107001 (Kd.R_base ho0) hb; replace BK106 := bB BK106 hb; replace HB := sB HB hb; (try clear hb); (try clear ho0)) | ((with_reducible refine gate_dst (N := 59) rfl ?_); (try (refine gate_guard (by rfl) ?_; dsimp only)); refine xE (N := 59) (cs := #[.int .i64 0, .slice none 0 0]) (t := 26) ?_; intro gb201 hg w209 BK201 hb; have GW201 := gS hg HB; have GE201 := gS hg HB; have NB106_201 := nL hg (blk_lt BK106.out); have NB201_106 := nG hg (blk_lt BK106.out); replace HO_107001 := rB HO_107001 hb; replace HO199 := rB HO199 hb; replace BK106 := bB BK106 hb; replace HB := sB HB hb; clear hb hg; have hnb210 := NB201_106.out; have hnc210 := NB106_201.out; have hcz211_0 := cZ BK201 0; have hcz211_1 := cZ BK201 1; have hfz211_0 := fZ BK201 0; have hfz211_1 := fZ BK201 1; obtain ⟨Ao212, co212, eo212⟩ := Kd.R_slice HO199.out; subst eo212))
     go_upto_region 74 with (first | ((with_reducible refine gate_callee (f := 50) rfl ?_); refine gL 507 Tryz.func50 #[.agg #[.int .i64 t196, .slice Ao212 t197.length co212], .int .i64 t200] ?_; (with_reducible refine (impl_CountWinningOf.calls kj39 t196 _ _ t197 t200 t202 t203 _ ?side1 ?side2 A205.out).mono ?_); (case side1 => refine (Kd.R_reads' (e := 3) (base := w.heap.size) (ok := fun k_ => (True ∧ nb (.slice Ao44 t103.length co44) k_)) (n := t197.length) (c := co212) ?_).2.2; exact (by exact (Kd.R_mono (Kd.R_far (p := ⟨gb201, 1, none⟩) (Kd.R_far (p := ⟨gb201, 0, none⟩) (Kd.R_types HO199.out BK201.out (by decide)) (fun _ hk => hk.2) (.int .i64 t196)) (fun _ hk => hk.2) (.slice Ao212 t197.length co212)) (fun _ h_ => h_.1)))); (case side2 => exact (Kd.R_reads' HO199.out).2.1); rintro e w213 ⟨rfl, hb⟩; refine ⟨_, rfl, ?_⟩; replace HO_107001 := Aside0.mk (Kd.R_below (by exact (Kd.R_mono (Kd.R_far (p := ⟨gb201, 1, none⟩) (Kd.R_far (p := ⟨gb201, 0, none⟩) (Kd.R_types HO_107001.out BK201.out (by decide)) (fun _ hk => hk.2) (.int .i64 t196)) (fun _ hk => hk.2) (.slice Ao212 t197.length co212)) (fun _ h_ => h_.1))) hb); replace HO199 := Aside0.mk (Kd.R_below (by exact (Kd.R_mono (Kd.R_far (p := ⟨gb201, 1, none⟩) (Kd.R_far (p := ⟨gb201, 0, none⟩) (Kd.R_types HO199.out BK201.out (by decide)) (fun _ hk => hk.2) (.int .i64 t196)) (fun _ hk => hk.2) (.slice Ao212 t197.length co212)) (fun _ h_ => h_.1))) hb); replace BK106 := Aside0.mk (blk_below (g := gb106) (o := .cells #[.int .i64 t102, .slice Ao44 t103.length co44] 26 (0, 0)) (by refine blk_far ?_ NB106_201.out _; refine blk_far ?_ NB106_201.out _; exact BK106.out) hb); replace BK201 := Aside0.mk (blk_below (g := gb201) (o := .cells #[.int .i64 t196, .slice Ao212 t197.length co212] 26 (0, 0)) (by refine blk_put (cs := #[.int .i64 t196, .slice none 0 0]) ?_ 1 _ rfl; refine blk_put (cs := #[.int .i64 0, .slice none 0 0]) ?_ 0 _ rfl; exact BK201.out) hb); replace HB := Aside0.mk (below_step (by repeat (first | exact HB.out | apply ba | refine bs ?_ GE201.out)) hb); (try clear hb); (try clear hcz211_0 hcz211_1 hfz211_0 hfz211_1); have hcz214_0 := cZ BK201 0; have hcz214_1 := cZ BK201 1; have hfz214_0 := fZ BK201 0; have hfz214_1 := fZ BK201 1))
     go_wp2_with (first | ((with_reducible refine gate_callee (f := 55) rfl ?_); refine gL 513 Tryz.func55 #[.agg #[.int .i64 t196, .slice Ao212 t197.length co212], .int .i64 t200] ?_; (with_reducible refine (spec_CountWinningOf.calls kj39 t196 _ _ t197 t200 t204 t205 _ ?side1 ?side2 A206.out).mono ?_); (case side1 => have hx_ := (Kd.R_reads' HO199.out).2.2; exact cC); (case side2 => exact (Kd.R_reads' HO199.out).2.1); rintro e w215 ⟨rfl, hb⟩; refine ⟨_, rfl, ?_⟩; replace HO_107001 := rB HO_107001 hb; replace HO199 := rB HO199 hb; replace BK106 := bB BK106 hb; replace BK201 := bB BK201 hb; replace HB := sB HB hb; (try clear hb)))
     go_ret
     exact ⟨fR, wB⟩
end Go.Proofs.YtamfpkefnhcngaaGreat.Q
namespace Go.Proofs.YtamfpkefnhcngaaGreat.Q
open Go.RowKit Go.Proofs.YtamfpkefnhcngaaGreatW.PrintWords Go.Proofs.YtamfpkefnhcngaaGreatW.PrintLast Go.Proofs.YtamfpkefnhcngaaGreatW.PrintMore Go.Proofs.YtamfpkefnhcngaaGreatM
set_option linter.unusedVariables false
set_option linter.unusedSimpArgs false
theorem laws_big.cases (l0 l1 : List Int) : (∃ b, laws_big.f l0 l1 = some b ∧ b = true) ∨ (laws_big.f l0 l1 = some false ∧ l0.length ≤ 1048576 ∧ l1.length ≤ 1048576) := by
  unfold laws_big.f
  by_cases c : (l0.length : Int) > 1048576
  · rw [if_pos c]
    exact .inl ⟨_, rfl, rfl⟩
  · rw [if_neg c, w64 (by omega) (by omega)]
    by_cases c2 : (l1.length : Int) > 1048576 - (l0.length : Int)
    · rw [decide_eq_true c2]
      exact .inl ⟨_, rfl, rfl⟩
    · rw [decide_eq_false c2]
      exact .inr ⟨rfl, by omega, by omega⟩
theorem impl_votesOf.at_l (n N : Nat) (hN : N ≤ 1000000) (P : Int → Option Bool) (p : Nat → Bool) (hP : ∀ m, m < N → P (m : Int) = some (p m)) : ∀ (d m k : Nat) (acc : List Bool), m + d = N → d < k → acc.length = N → acc.take m = ((List.range N).map p).take m → impl_votesOf.l0 k P (N : Int) (m : Int) (n : Int) acc = some ((n : Int), (List.range N).map p) := by
  intro d
  induction d with
  | zero =>
    intro m k acc h hk hlen ht
    obtain ⟨k, rfl⟩ : ∃ j, k = j + 1 := ⟨k - 1, by omega⟩
    simp only [impl_votesOf.l0]
    rw [List.take_of_length_le (by omega), List.take_of_length_le (by simp; omega)] at ht
    rw [if_neg (by omega), ht]
  | succ d ih =>
    intro m k acc h hk hlen ht
    obtain ⟨k, rfl⟩ : ∃ j, k = j + 1 := ⟨k - 1, by omega⟩
    have hm : m < N := by omega
    simp only [impl_votesOf.l0]
    rw [if_pos (by omega), hP m hm, Option.bind_some, if_pos (by omega), if_pos (by omega), w64i (n := N) (by omega) (by omega) (by omega), Int.toNat_natCast]
    refine ih (m + 1) k (acc.set m (p m)) (by omega) (by omega) (by simpa using hlen) ?_
    rw [List.take_succ_eq_append_getElem (by simp; omega), List.take_succ_eq_append_getElem (by simp; omega), List.take_set_of_le (by omega), ht]
    simp
theorem impl_votesOf.ev (n : Nat) (hn : n ≤ 19) (g : Nat → Int → Option Bool) (p : Nat → Bool) (hg : ∀ m : Nat, m < 2 ^ n → Ev (fun k => g k (m : Int)) (p m)) : Ev (fun k => impl_votesOf.f k (n : Int) (g k)) ((n : Int), (List.range (2 ^ n)).map p) := by
  have hp : 2 ^ n ≤ 2 ^ 19 := Nat.pow_le_pow_right (by omega) hn
  have h0 : 0 < 2 ^ n := Nat.two_pow_pos n
  generalize hN : 2 ^ n = N at *
  obtain ⟨K, hK⟩ := ev_all N (fun k m => g k (m : Int)) p hg
  refine ⟨max K (N + 1), fun k hk => ?_⟩
  simp only [impl_votesOf.f]
  rw [if_pos (by omega), shl_one n (by omega), hN, if_pos (by omega), Int.toNat_natCast, if_pos (by omega), Option.bind_some, List.length_replicate]
  exact impl_votesOf.at_l n N (by omega) (g k) p (fun m hm => hK k (by omega) m hm) N 0 k _ (by omega) (by omega) (by simp) (by simp)
theorem impl_has.v (m i : Nat) (hm : m < 2 ^ 62) (hi : i ≤ 62) : impl_has.f (m : Int) (i : Int) = some (decide (m / 2 ^ i % 2 = 1)) := by
  unfold impl_has.f
  have hlt : m / 2 ^ i < 2 ^ 62 := Nat.lt_of_le_of_lt (Nat.div_le_self _ _) hm
  rw [if_pos (by omega), shr_nat m i (by omega), and_one _ hlt]
  congr 1
  by_cases h : m / 2 ^ i % 2 = 1
  · simp [h]
  · have : m / 2 ^ i % 2 = 0 := by omega
    simp [this]
theorem impl_Committee_weight.ev_l (q : Int) (ws : List Int) (m : Nat) (hm : m < 2 ^ 62) (hl : ws.length ≤ 60) (hw : ∀ x ∈ ws, 0 ≤ x ∧ x ≤ 1000000000) : ∀ (d i : Nat) (s : Int), i + d = ws.length → 0 ≤ s → s + wsum (ws.drop i) (m / 2 ^ i) ≤ 1000000000000 → Ev (fun k => impl_Committee_weight.l0 k (m : Int) s ws (ws.length : Int) (i : Int)) (s + wsum (ws.drop i) (m / 2 ^ i)) := by
  intro d
  induction d with
  | zero =>
    intro i s h _ _
    refine ev_step ?_
    simp only [impl_Committee_weight.l0]
    rw [ev_neg (by omega), ev_now, List.drop_of_length_le (by omega)]
    simp [wsum]
  | succ d ih =>
    intro i s h h0 h1
    refine ev_step ?_
    simp only [impl_Committee_weight.l0]
    have hi : i < ws.length := by omega
    have hx := hw ws[i] (List.getElem_mem hi)
    have hd : wsum (ws.drop i) (m / 2 ^ i) = (if m / 2 ^ i % 2 = 1 then ws[i] else 0) + wsum (ws.drop (i + 1)) (m / 2 ^ (i + 1)) := by
      rw [wsum_drop ws i _ hi, Nat.div_div_eq_div_mul, ← Nat.pow_succ]
    have hb := wsum_bounds (ws.drop (i + 1)) (fun x hx => (hw x (List.mem_of_mem_drop hx)).1) (m / 2 ^ (i + 1))
    rw [ev_pos (by omega), ev_pos (by omega), ev_pos (by omega), ev_bind (ev_of (impl_has.v m i hm (by omega))), w64i (n := ws.length) (by omega) (by omega) (by omega), rd_lt ws i hi, hd]
    rw [hd] at h1
    by_cases hbit : m / 2 ^ i % 2 = 1
    · rw [if_pos hbit] at h1 ⊢
      rw [ev_pos (by simpa using hbit), w64 (by omega) (by omega), ← Int.add_assoc]
      exact ih (i + 1) (s + ws[i]) (by omega) (by omega) (by omega)
    · rw [if_neg hbit] at h1 ⊢
      rw [ev_neg (by simpa using hbit), Int.zero_add]
      exact ih (i + 1) s (by omega) h0 (by omega)
theorem impl_Committee_weight.ev (q : Int) (ws : List Int) (m : Nat) (hm : m < 2 ^ 62) (hl : ws.length ≤ 60) (hw : ∀ x ∈ ws, 0 ≤ x ∧ x ≤ 1000000000) : Ev (fun k => impl_Committee_weight.f k q ws (m : Int)) (wsum ws m) := by
  have hb := wsum_bounds ws (fun x hx => (hw x hx).1) m
  have hs := sum_bounds ws 1000000000 hw
  have := impl_Committee_weight.ev_l q ws m hm hl hw ws.length 0 0 (by omega) (by omega) (by simp; omega)
  simpa [impl_Committee_weight.f] using this
theorem impl_Committee_votes.ev (q : Int) (ws : List Int) (hl : ws.length ≤ 9) (hw : ∀ x ∈ ws, 0 ≤ x ∧ x ≤ 1000000000) : Ev (fun k => impl_Committee_votes.f k q ws) ((ws.length : Int), winsL q ws) := by
  have hp : 2 ^ ws.length ≤ 2 ^ 9 := Nat.pow_le_pow_right (by omega) hl
  refine impl_votesOf.ev ws.length (by omega) (fun k => impl_Committee_votes_1.f k q ws) (fun m => decide (q ≤ wsum ws m)) (fun m hm => ?_)
  simp only [impl_Committee_votes_1.f]
  rw [ev_bind (impl_Committee_weight.ev q ws m (by omega) (by omega) hw), ev_now]
theorem impl_sumOf.ev_l (l : List Int) (hl : l.length ≤ 9223372036854775807) : ∀ (d i : Nat) (s : Int), i + d = l.length → Ev (fun k => impl_sumOf.l0 k s l (l.length : Int) (i : Int)) (wfold (l.drop i) s) := by
  intro d
  induction d with
  | zero =>
    intro i s h
    refine ev_step ?_
    simp only [impl_sumOf.l0]
    rw [ev_neg (by omega), ev_now, List.drop_of_length_le (by omega)]
    rfl
  | succ d ih =>
    intro i s h
    refine ev_step ?_
    simp only [impl_sumOf.l0]
    have hi : i < l.length := by omega
    rw [ev_pos (by omega), ev_pos (by omega), ev_pos (by omega), w64i (n := l.length) (by omega) (by omega) hl, rd_lt l i hi, wfold_take l i hi]
    exact ih (i + 1) _ (by omega)
theorem impl_sumOf.ev (l : List Int) (hl : l.length ≤ 9223372036854775807) : Ev (fun k => impl_sumOf.f k l) (wfold l 0) := impl_sumOf.ev_l l hl l.length 0 0 (by omega)
theorem impl_within.v (a b c : Int) : impl_within.f a b c = some (decide (b ≤ a) && decide (a ≤ c)) := by
  unfold impl_within.f
  by_cases h : b ≤ a
  · rw [if_pos h]; simp [h]
  · rw [if_neg h]; simp [h]
theorem impl_IsCommittee.ev (q : Int) (l : List Int) (hl : l.length ≤ 9223372036854775807) : Ev (fun k => impl_IsCommittee.f k q l) (goodB q l) := by
  simp only [impl_IsCommittee.f]
  unfold goodB
  by_cases h1 : 1 ≤ l.length
  · rw [ev_pos (by omega)]
    by_cases h2 : l.length ≤ 9
    · rw [ev_pos (by omega), ev_bind (ev_of (show impl_areIn.f l 0 1000 = some _ from rfl))]
      cases hb : (l.all fun x => decide (0 ≤ x) && decide (x ≤ 1000)) with
      | true =>
        rw [ev_pos rfl, ev_bind (impl_sumOf.ev l hl), ev_bind (ev_of (impl_within.v _ _ _)), ev_now, wfold_w l h2 hb]
        simp [h1, h2]
      | false =>
        rw [ev_neg (by simp), ev_now]
        simp
    · rw [ev_neg (by omega), ev_now]
      simp [h2]
  · rw [ev_neg (by omega), ev_now]
    simp [h1]
theorem spec_l1In.v (a b c : Int) : spec_l1In.f a b c = some (decide (b ≤ a) && decide (a ≤ c)) := by
  unfold spec_l1In.f
  by_cases h : b ≤ a
  · rw [if_pos h]; simp [h]
  · rw [if_neg h]; simp [h]
def bitB (m i : Nat) : Bool := decide (m / 2 ^ i % 2 = 1)
def setN (m : Nat) : List Int := ((List.range 62).filter (bitB m)).map fun (i : Nat) => (i : Int)
def setTo (m i : Nat) : List Int := ((List.range i).filter (bitB m)).map fun (i : Nat) => (i : Int)
theorem bitB_high {m i j : Nat} (h : m / 2 ^ i = 0) (hij : i ≤ j) : bitB m j = false := by
  unfold bitB
  have : m < 2 ^ i := by
    rcases Nat.lt_or_ge m (2 ^ i) with h1 | h1
    · exact h1
    · have := Nat.div_pos h1 (Nat.two_pow_pos i)
      omega
  have h2 : 2 ^ i ≤ 2 ^ j := Nat.pow_le_pow_right (by omega) hij
  rw [Nat.div_eq_of_lt (by omega)]
  rfl
theorem setTo_done {m i : Nat} (h : m / 2 ^ i = 0) (hi : i ≤ 62) : setTo m i = setN m := by
  unfold setTo setN
  rw [show List.range 62 = List.range i ++ (List.range (62 - i)).map (i + ·) by rw [← List.range_add]; congr 1; omega, List.filter_append]
  have : ((List.range (62 - i)).map (i + ·)).filter (bitB m) = [] := by
    rw [List.filter_eq_nil_iff]
    intro j hj
    obtain ⟨a, _, rfl⟩ := List.mem_map.1 hj
    rw [bitB_high h (by omega)]
    decide
  rw [this, List.append_nil]
theorem setTo_succ (m i : Nat) : setTo m (i + 1) = if bitB m i = true then setTo m i ++ [(i : Int)] else setTo m i := by
  unfold setTo
  rw [List.range_succ, List.filter_append, List.map_append]
  by_cases h : bitB m i = true
  · rw [if_pos h]
    simp [h]
  · rw [if_neg h]
    simp [h]
theorem setTo_len (m i : Nat) : (setTo m i).length ≤ i := by
  unfold setTo
  rw [List.length_map]
  have := List.length_filter_le (bitB m) (List.range i)
  rw [List.length_range] at this
  exact this
theorem setN_to {m n : Nat} (h : m < 2 ^ n) (hn : n ≤ 62) : setN m = setTo m n := (setTo_done (Nat.div_eq_of_lt h) hn).symm
theorem setTo_in {m n : Nat} : ∀ x ∈ setTo m n, 0 ≤ x ∧ x < (n : Int) ∧ bitB m x.toNat = true := by
  intro x hx
  obtain ⟨i, hi, rfl⟩ := List.mem_map.1 hx
  rw [List.mem_filter, List.mem_range] at hi
  exact ⟨by omega, by omega, by rw [Int.toNat_natCast]; exact hi.2⟩
theorem setTo_all (m n : Nat) (q : Nat → Bool) : ((setTo m n).all fun x => q x.toNat) = (List.range n).all fun i => !(bitB m i) || q i := by
  unfold setTo
  rw [List.all_map, List.all_filter]
  rfl
def leastB (W : List Bool) (n m : Nat) : Bool := W.getD m false && (List.range n).all fun i => !(bitB m i) || !(W.getD (m - 2 ^ i) false)
def takeL (P : Nat → Bool) (i : Nat) : List (List Int) := ((List.range i).filter P).map setN
theorem takeL_succ (P : Nat → Bool) (i : Nat) : takeL P (i + 1) = if P i = true then takeL P i ++ [setN i] else takeL P i := by
  unfold takeL
  rw [List.range_succ, List.filter_append, List.map_append]
  by_cases h : P i = true
  · rw [if_pos h]
    simp [h]
  · rw [if_neg h]
    simp [h]
theorem takeL_len (P : Nat → Bool) (i : Nat) : (takeL P i).length ≤ i := by
  unfold takeL
  rw [List.length_map]
  have := List.length_filter_le P (List.range i)
  rw [List.length_range] at this
  exact this
theorem takeL_mem {P : Nat → Bool} {i : Nat} : ∀ x ∈ takeL P i, ∃ m, m < i ∧ P m = true ∧ x = setN m := by
  intro x hx
  obtain ⟨m, hm, rfl⟩ := List.mem_map.1 hx
  rw [List.mem_filter, List.mem_range] at hm
  exact ⟨m, hm.1, hm.2, rfl⟩
def popN (m : Nat) : Nat := ((List.range 9).filter (bitB m)).length
theorem impl_count_all : ((List.range 512).all fun m => decide (impl_count.f (m : Int) = some ((popN m : Nat) : Int))) = true := by decide +kernel
theorem impl_count.v {m : Nat} (hm : m < 512) : impl_count.f (m : Int) = some ((popN m : Nat) : Int) := of_decide_eq_true (List.all_eq_true.1 impl_count_all m (List.mem_range.2 hm))
theorem popN_setN {m : Nat} (hm : m < 512) : (setN m).length = popN m := by
  rw [setN_to (n := 9) hm (by omega), setTo, List.length_map, popN]
theorem popN_le {m n : Nat} (hm : m < 2 ^ n) (hn : n ≤ 9) : popN m ≤ n := by
  have h2 : 2 ^ n ≤ 2 ^ 9 := Nat.pow_le_pow_right (by omega) hn
  rw [← popN_setN (by omega), setN_to hm (by omega)]
  exact setTo_len m n
theorem spec_voSum.ev_l (l : List Int) (hl : l.length ≤ 9223372036854775807) : ∀ (d i : Nat) (s : Int), i + d = l.length → Ev (fun k => spec_voSum.l0 k s l (l.length : Int) (i : Int)) (wfold (l.drop i) s) := by
  intro d
  induction d with
  | zero =>
    intro i s h
    refine ev_step ?_
    simp only [spec_voSum.l0]
    rw [ev_neg (by omega), ev_now, List.drop_of_length_le (by omega)]
    rfl
  | succ d ih =>
    intro i s h
    refine ev_step ?_
    simp only [spec_voSum.l0]
    have hi : i < l.length := by omega
    rw [ev_pos (by omega), ev_pos (by omega), ev_pos (by omega), w64i (n := l.length) (by omega) (by omega) hl, rd_lt l i hi, wfold_take l i hi]
    exact ih (i + 1) _ (by omega)
theorem spec_voSum.ev (l : List Int) (hl : l.length ≤ 9223372036854775807) : Ev (fun k => spec_voSum.f k l) (wfold l 0) := spec_voSum.ev_l l hl l.length 0 0 (by omega)
theorem spec_l1All.ev_l (l : List Int) (lo hi : Int) (hl : l.length ≤ 9223372036854775807) : ∀ (d i : Nat), i + d = l.length → Ev (fun k => spec_l1All.l0 k lo hi l (l.length : Int) (i : Int)) ((l.drop i).all fun x => decide (lo ≤ x) && decide (x ≤ hi)) := by
  intro d
  induction d with
  | zero =>
    intro i h
    refine ev_step ?_
    simp only [spec_l1All.l0]
    rw [ev_neg (by omega), ev_now, List.drop_of_length_le (by omega)]
    rfl
  | succ d ih =>
    intro i h
    refine ev_step ?_
    simp only [spec_l1All.l0]
    have hi' : i < l.length := by omega
    rw [ev_pos (by omega), ev_pos (by omega), ev_pos (by omega), w64i (n := l.length) (by omega) (by omega) hl, rd_lt l i hi', List.drop_eq_getElem_cons hi', List.all_cons, ev_bind (ev_of (spec_l1In.v _ _ _))]
    cases hb : (decide (lo ≤ l[i]) && decide (l[i] ≤ hi)) with
    | true =>
      rw [ev_pos rfl, Bool.true_and]
      exact ih (i + 1) (by omega)
    | false =>
      rw [ev_neg (by decide), ev_now]
      rfl
theorem spec_l1All.ev (l : List Int) (lo hi : Int) (hl : l.length ≤ 9223372036854775807) : Ev (fun k => spec_l1All.f k l lo hi) (l.all fun x => decide (lo ≤ x) && decide (x ≤ hi)) := spec_l1All.ev_l l lo hi hl l.length 0 (by omega)
theorem spec_voGood.ev (q : Int) (l : List Int) (hl : l.length ≤ 9223372036854775807) : Ev (fun k => spec_voGood.f k q l) (goodB q l) := by
  simp only [spec_voGood.f]
  rw [ev_bind (ev_of (spec_l1In.v _ _ _))]
  unfold goodB
  by_cases h1 : 1 ≤ (l.length : Int) ∧ (l.length : Int) ≤ 9
  · rw [ev_pos (by simp [h1]), ev_bind (spec_l1All.ev l 0 1000 hl)]
    refine ev_step ?_
    simp only [spec_voGood.j0]
    cases hb : (l.all fun x => decide (0 ≤ x) && decide (x ≤ 1000)) with
    | true =>
      rw [ev_neg (by simp), ev_bind (spec_voSum.ev l hl), ev_bind (ev_of (spec_l1In.v _ _ _)), ev_now, wfold_w l (by omega) hb]
      have e1 : 1 ≤ l.length := by omega
      have e2 : l.length ≤ 9 := by omega
      simp [e1, e2]
    | false =>
      rw [ev_pos (by simp), ev_now]
      simp
  · rw [ev_neg (by simpa using h1)]
    refine ev_step ?_
    simp only [spec_voGood.j0]
    rw [ev_pos (by simp), ev_now]
    have : ¬ (1 ≤ l.length ∧ l.length ≤ 9) := by omega
    by_cases e1 : 1 ≤ l.length
    · have e2 : ¬ l.length ≤ 9 := by omega
      simp [e2]
    · simp [e1]
theorem spec_voList.ev_l (m : Nat) (hm : m < 2 ^ 62) : ∀ (d i : Nat), i + d = 62 → Ev (fun k => spec_voList.l0 k (m : Int) (setTo m i) (i : Int)) (setN m) := by
  intro d
  induction d with
  | zero =>
    intro i h
    refine ev_step ?_
    simp only [spec_voList.l0]
    have e : m / 2 ^ i = 0 := by rw [show i = 62 by omega]; exact Nat.div_eq_of_lt hm
    rw [ev_pos (by omega), shr_nat m i (by omega), e, ev_neg (by omega), ev_now, setTo_done e (by omega)]
  | succ d ih =>
    intro i h
    refine ev_step ?_
    simp only [spec_voList.l0]
    have hl := setTo_len m i
    have et : Int.tmod ((m / 2 ^ i : Nat) : Int) 2 = ((m / 2 ^ i % 2 : Nat) : Int) := (Int.ofNat_tmod (m / 2 ^ i) 2).symm
    rw [ev_pos (by omega), shr_nat m i (by omega), w64 (by omega) (by omega)]
    by_cases e : m / 2 ^ i = 0
    · rw [ev_neg (by omega), ev_now, setTo_done e (by omega)]
    · rw [ev_pos (Int.natCast_pos.2 (Nat.pos_of_ne_zero e)), et]
      have := ih (i + 1) (by omega)
      rw [setTo_succ] at this
      by_cases hb : m / 2 ^ i % 2 = 1
      · rw [if_pos (by simp [bitB, hb])] at this
        rw [ev_pos (by rw [hb]; rfl), ev_pos (by omega)]
        exact this
      · rw [if_neg (by simp [bitB]; omega)] at this
        rw [ev_neg (c := ((m / 2 ^ i % 2 : Nat) : Int) = 1) (fun h_ => hb (Int.ofNat_inj.1 h_))]
        exact this
theorem spec_voList.ev (m : Nat) (hm : m < 2 ^ 62) : Ev (fun k => spec_voList.f k (m : Int)) (setN m) := spec_voList.ev_l m hm 62 0 (by omega)
theorem spec_voAll.v (n : Nat) (hn : n ≤ 60) : spec_voAll.f (n : Int) = some ((2 ^ n - 1 : Nat) : Int) := by
  unfold spec_voAll.f
  have h0 : 0 < 2 ^ n := Nat.two_pow_pos n
  have h : 2 ^ n ≤ 2 ^ 60 := Nat.pow_le_pow_right (by omega) hn
  rw [if_pos (by omega), shl_one n (by omega), w64 (by omega) (by omega)]
  congr 1
  omega
theorem spec_bit (m i : Nat) (hm : m < 2 ^ 62) (hi : i ≤ 62) : Int.tmod (shr .i64 (m : Int) (i : Int)) 2 = ((m / 2 ^ i % 2 : Nat) : Int) := by
  rw [shr_nat m i (by omega)]
  generalize m / 2 ^ i = x
  rw [Int.tmod_eq_emod_of_nonneg (by omega)]
  omega
theorem spec_voWeight.ev_l (q : Int) (ws : List Int) (m : Nat) (hm : m < 2 ^ 62) (hl : ws.length ≤ 60) (hw : ∀ x ∈ ws, 0 ≤ x ∧ x ≤ 1000000000) : ∀ (d i : Nat) (s : Int), i + d = ws.length → 0 ≤ s → s + wsum (ws.drop i) (m / 2 ^ i) ≤ 1000000000000 → Ev (fun k => spec_voWeight.l0 k (m : Int) s ws (ws.length : Int) (i : Int)) (s + wsum (ws.drop i) (m / 2 ^ i)) := by
  intro d
  induction d with
  | zero =>
    intro i s h _ _
    refine ev_step ?_
    simp only [spec_voWeight.l0]
    rw [ev_neg (by omega), ev_now, List.drop_of_length_le (by omega)]
    simp [wsum]
  | succ d ih =>
    intro i s h h0 h1
    refine ev_step ?_
    simp only [spec_voWeight.l0]
    have hi : i < ws.length := by omega
    have hx := hw ws[i] (List.getElem_mem hi)
    have hd : wsum (ws.drop i) (m / 2 ^ i) = (if m / 2 ^ i % 2 = 1 then ws[i] else 0) + wsum (ws.drop (i + 1)) (m / 2 ^ (i + 1)) := by
      rw [wsum_drop ws i _ hi, Nat.div_div_eq_div_mul, ← Nat.pow_succ]
    have hb := wsum_bounds (ws.drop (i + 1)) (fun x hx => (hw x (List.mem_of_mem_drop hx)).1) (m / 2 ^ (i + 1))
    rw [ev_pos (by omega), ev_pos (by omega), ev_pos (by omega), spec_bit m i hm (by omega), w64i (n := ws.length) (by omega) (by omega) (by omega), rd_lt ws i hi, hd]
    rw [hd] at h1
    by_cases hbit : m / 2 ^ i % 2 = 1
    · rw [if_pos hbit] at h1 ⊢
      rw [ev_pos (by rw [hbit]; rfl), w64 (by omega) (by omega), ← Int.add_assoc]
      exact ih (i + 1) (s + ws[i]) (by omega) (by omega) (by omega)
    · rw [if_neg hbit] at h1 ⊢
      rw [ev_neg (by omega), Int.zero_add]
      exact ih (i + 1) s (by omega) h0 (by omega)
theorem spec_voWeight.ev (q : Int) (ws : List Int) (m : Nat) (hm : m < 2 ^ 62) (hl : ws.length ≤ 60) (hw : ∀ x ∈ ws, 0 ≤ x ∧ x ≤ 1000000000) : Ev (fun k => spec_voWeight.f k q ws (m : Int)) (wsum ws m) := by
  have hb := wsum_bounds ws (fun x hx => (hw x hx).1) m
  have hs := sum_bounds ws 1000000000 hw
  have := spec_voWeight.ev_l q ws m hm hl hw ws.length 0 0 (by omega) (by omega) (by simp; omega)
  simpa [spec_voWeight.f] using this
theorem winsL_take (q : Int) (ws : List Int) (m : Nat) (h : m < 2 ^ ws.length) : (winsL q ws).take (m + 1) = (winsL q ws).take m ++ [decide (q ≤ wsum ws m)] := by
  rw [List.take_succ_eq_append_getElem (by rw [winsL_length]; exact h), winsL_get]
theorem spec_voWins.ev_l (q : Int) (ws : List Int) (hl : ws.length ≤ 9) (hw : ∀ x ∈ ws, 0 ≤ x ∧ x ≤ 1000000000) : ∀ (d m : Nat), m + d = 2 ^ ws.length → Ev (fun k => spec_voWins.l0 k ((winsL q ws).take m) (m : Int) q ws) (winsL q ws) := by
  have hp : 2 ^ ws.length ≤ 2 ^ 9 := Nat.pow_le_pow_right (by omega) hl
  have h0 : 0 < 2 ^ ws.length := Nat.two_pow_pos _
  intro d
  induction d with
  | zero =>
    intro m h
    refine ev_step ?_
    simp only [spec_voWins.l0]
    rw [ev_bind (ev_of (spec_voAll.v ws.length (by omega))), ev_neg (by omega), ev_now, List.take_of_length_le (by rw [winsL_length]; omega)]
  | succ d ih =>
    intro m h
    refine ev_step ?_
    simp only [spec_voWins.l0]
    rw [ev_bind (ev_of (spec_voAll.v ws.length (by omega))), ev_pos (by omega), ev_bind (spec_voWeight.ev q ws m (by omega) (by omega) hw), ev_pos (by simp; omega), w64i (n := 512) (by omega) (by omega) (by omega)]
    have := ih (m + 1) (by omega)
    rw [winsL_take q ws m (by omega)] at this
    exact this
theorem spec_voWins.ev (q : Int) (ws : List Int) (hl : ws.length ≤ 9) (hw : ∀ x ∈ ws, 0 ≤ x ∧ x ≤ 1000000000) : Ev (fun k => spec_voWins.f k q ws) (winsL q ws) := by
  have := spec_voWins.ev_l q ws hl hw (2 ^ ws.length) 0 (by omega)
  simpa [spec_voWins.f] using this
def ofB (W : List Bool) (a : Int) (m : Nat) : Bool := W.getD m false && decide (((popN m : Nat) : Int) = a)
def cntO (W : List Bool) (a : Int) : Int := (((List.range W.length).filter (ofB W a)).length : Nat)
theorem impl_CountWinningOf.ev_l (W : List Bool) (hW : W.length ≤ 512) (a : Int) : ∀ (d i : Nat), i + d = W.length → Ev (fun k => impl_CountWinningOf.l0 k a (((List.range i).filter (ofB W a)).length : Int) W (W.length : Int) (i : Int)) (cntO W a, true) := by
  intro d
  induction d with
  | zero =>
    intro i h
    refine ev_step ?_
    simp only [impl_CountWinningOf.l0]
    rw [ev_neg (by omega), ev_now, cntO, show i = W.length by omega]
  | succ d ih =>
    intro i h
    refine ev_step ?_
    simp only [impl_CountWinningOf.l0]
    have hi : i < W.length := by omega
    have hih := ih (i + 1) (by omega)
    have hle : ((List.range i).filter (ofB W a)).length ≤ i := by have := List.length_filter_le (ofB W a) (List.range i); rw [List.length_range] at this; exact this
    rw [List.range_succ, List.filter_append, List.length_append] at hih
    rw [show ((i + 1 : Nat) : Int) = (i : Int) + 1 by omega] at hih
    rw [ev_pos (by omega), ev_pos (by omega), ev_pos (by omega), rdOf_nat, w64i (i := (i : Int)) (n := W.length) (by omega) (by omega) (by omega)]
    cases hb : W.getD i false with
    | false =>
      have e : ofB W a i = false := by rw [ofB, hb, Bool.false_and]
      rw [List.filter_cons, e] at hih
      rw [ev_neg (by decide)]
      simpa using hih
    | true =>
      rw [ev_pos rfl, ev_bind (ev_of (impl_count.v (by omega)))]
      by_cases c : ((popN i : Nat) : Int) = a
      · have e : ofB W a i = true := by rw [ofB, hb, Bool.true_and, decide_eq_true c]
        rw [List.filter_cons, e] at hih
        rw [ev_pos c, w64 (by omega) (by omega)]
        simpa using hih
      · have e : ofB W a i = false := by rw [ofB, hb, Bool.true_and, decide_eq_false c]
        rw [List.filter_cons, e] at hih
        rw [ev_neg c]
        simpa using hih
theorem spec_CountWinningOf.ev_l (W : List Bool) (hW : W.length ≤ 512) (a : Int) : ∀ (d i : Nat), i + d = W.length → Ev (fun k => spec_CountWinningOf.l0 k a (((List.range i).filter (ofB W a)).length : Int) W (W.length : Int) (i : Int)) (cntO W a, true) := by
  intro d
  induction d with
  | zero =>
    intro i h
    refine ev_step ?_
    simp only [spec_CountWinningOf.l0]
    rw [ev_neg (by omega), ev_now, cntO, show i = W.length by omega]
  | succ d ih =>
    intro i h
    refine ev_step ?_
    simp only [spec_CountWinningOf.l0]
    have hi : i < W.length := by omega
    have hih := ih (i + 1) (by omega)
    have hle : ((List.range i).filter (ofB W a)).length ≤ i := by have := List.length_filter_le (ofB W a) (List.range i); rw [List.length_range] at this; exact this
    rw [List.range_succ, List.filter_append, List.length_append] at hih
    rw [show ((i + 1 : Nat) : Int) = (i : Int) + 1 by omega] at hih
    rw [ev_pos (by omega), ev_pos (by omega), ev_pos (by omega), rdOf_nat, w64i (i := (i : Int)) (n := W.length) (by omega) (by omega) (by omega)]
    cases hb : W.getD i false with
    | false =>
      have e : ofB W a i = false := by rw [ofB, hb, Bool.false_and]
      rw [List.filter_cons, e] at hih
      rw [ev_neg (by decide)]
      simpa using hih
    | true =>
      rw [ev_pos rfl, ev_bind (spec_voList.ev i (by omega)), popN_setN (by omega)]
      by_cases c : ((popN i : Nat) : Int) = a
      · have e : ofB W a i = true := by rw [ofB, hb, Bool.true_and, decide_eq_true c]
        rw [List.filter_cons, e] at hih
        rw [ev_pos c, w64 (by omega) (by omega)]
        simpa using hih
      · have e : ofB W a i = false := by rw [ofB, hb, Bool.true_and, decide_eq_false c]
        rw [List.filter_cons, e] at hih
        rw [ev_neg c]
        simpa using hih
def cwoV (q : Int) (ws : List Int) (a : Int) : Int × Bool := if (goodB q ws && (decide (0 ≤ a) && decide (a ≤ (ws.length : Int)))) = true then (cntO (winsL q ws) a, true) else (0, false)
theorem impl_CountWinningOf.ev (q : Int) (ws : List Int) (a : Int) (hl : ws.length ≤ 9223372036854775807) : Ev (fun k => impl_CountWinningOf.f k q ws a) (cwoV q ws a) := by
  simp only [impl_CountWinningOf.f]
  rw [ev_bind (impl_IsCommittee.ev q ws hl)]
  unfold cwoV
  cases hg : goodB q ws with
  | false =>
    rw [ev_neg (by decide)]
    refine ev_step ?_
    simp only [impl_CountWinningOf.j0]
    rw [ev_pos (by decide), ev_now, Bool.false_and, if_neg (by decide)]
  | true =>
    have hc := (good_iff q ws).1 hg
    have hp := hc.pow
    have hwl := winsL_length q ws
    rw [ev_pos rfl, ev_bind (ev_of (impl_within.v a 0 (ws.length : Int))), Bool.true_and]
    refine ev_step ?_
    simp only [impl_CountWinningOf.j0]
    cases hin : (decide (0 ≤ a) && decide (a ≤ (ws.length : Int))) with
    | false => rw [ev_pos (by decide), ev_now, if_neg (by decide)]
    | true =>
      rw [ev_neg (by decide), if_pos rfl, ev_bind (impl_Committee_votes.ev q ws hc.l9 hc.wb)]
      exact impl_CountWinningOf.ev_l (winsL q ws) (by omega) a (winsL q ws).length 0 (by omega)
theorem spec_CountWinningOf.ev (q : Int) (ws : List Int) (a : Int) (hl : ws.length ≤ 9223372036854775807) : Ev (fun k => spec_CountWinningOf.f k q ws a) (cwoV q ws a) := by
  simp only [spec_CountWinningOf.f]
  rw [ev_bind (spec_voGood.ev q ws hl)]
  unfold cwoV
  cases hg : goodB q ws with
  | false =>
    rw [ev_neg (by decide)]
    refine ev_step ?_
    simp only [spec_CountWinningOf.j0]
    rw [ev_pos (by decide), ev_now, Bool.false_and, if_neg (by decide)]
  | true =>
    have hc := (good_iff q ws).1 hg
    have hp := hc.pow
    have hwl := winsL_length q ws
    rw [ev_pos rfl, ev_bind (ev_of (spec_l1In.v a 0 (ws.length : Int))), Bool.true_and]
    refine ev_step ?_
    simp only [spec_CountWinningOf.j0]
    cases hin : (decide (0 ≤ a) && decide (a ≤ (ws.length : Int))) with
    | false => rw [ev_pos (by decide), ev_now, if_neg (by decide)]
    | true =>
      rw [ev_neg (by decide), if_pos rfl, ev_bind (spec_voWins.ev q ws hc.l9 hc.wb)]
      exact spec_CountWinningOf.ev_l (winsL q ws) (by omega) a (winsL q ws).length 0 (by omega)
def cntW (W : List Bool) : Int := (W.count true : Nat)
theorem count_drop (W : List Bool) (i : Nat) (h : i < W.length) : (W.drop i).count true = (W.drop (i + 1)).count true + if W.getD i false = true then 1 else 0 := by
  rw [List.drop_eq_getElem_cons h, List.count_cons, List.getD_eq_getElem?_getD, List.getElem?_eq_getElem h, Option.getD_some]
  cases W[i] <;> rfl
theorem impl_votes_countWins.ev_l (W : List Bool) (hW : W.length ≤ 1000000) : ∀ (d i : Nat) (s : Int), i + d = W.length → 0 ≤ s → s + d ≤ 2000000 → Ev (fun k => impl_votes_countWins.l0 k s W (W.length : Int) (i : Int)) (s + ((W.drop i).count true : Nat)) := by
  intro d
  induction d with
  | zero =>
    intro i s h h0 h1
    refine ev_step ?_
    simp only [impl_votes_countWins.l0]
    rw [ev_neg (by omega), ev_now, List.drop_of_length_le (by omega)]
    simp
  | succ d ih =>
    intro i s h h0 h1
    refine ev_step ?_
    simp only [impl_votes_countWins.l0]
    have hi : i < W.length := by omega
    rw [ev_pos (by omega), ev_pos (by omega), ev_pos (by omega), rdOf_nat, w64i (i := (i : Int)) (n := W.length) (by omega) (by omega) (by omega), count_drop W i hi]
    cases hb : W.getD i false with
    | false =>
      rw [ev_neg (by decide), if_neg (by decide)]
      exact ih (i + 1) s (by omega) h0 (by omega)
    | true =>
      have := ih (i + 1) (s + 1) (by omega) (by omega) (by omega)
      rw [ev_pos rfl, if_pos rfl, w64 (by omega) (by omega)]
      rw [show s + (((W.drop (i + 1)).count true + 1 : Nat) : Int) = s + 1 + ((W.drop (i + 1)).count true : Nat) by omega]
      exact this
theorem impl_votes_countWins.ev (n : Int) (W : List Bool) (hW : W.length ≤ 1000000) : Ev (fun k => impl_votes_countWins.f k n W) (cntW W) := by
  have := impl_votes_countWins.ev_l W hW W.length 0 0 (by omega) (by omega) (by omega)
  rw [List.drop_zero, Int.zero_add] at this
  exact this
theorem cntW_bounds (W : List Bool) : 0 ≤ cntW W ∧ cntW W ≤ (W.length : Int) := by
  have := List.count_le_length (a := true) (l := W)
  unfold cntW
  omega
def cwV (q : Int) (ws : List Int) : Int × Bool := if goodB q ws = true then (cntW (winsL q ws), true) else (0, false)
theorem impl_CountWinning.ev (q : Int) (ws : List Int) (hl : ws.length ≤ 9223372036854775807) : Ev (fun k => impl_CountWinning.f k q ws) (cwV q ws) := by
  simp only [impl_CountWinning.f]
  rw [ev_bind (impl_IsCommittee.ev q ws hl)]
  unfold cwV
  cases hg : goodB q ws with
  | false => rw [ev_neg (by decide), ev_now, if_neg (by decide)]
  | true =>
    have hc := (good_iff q ws).1 hg
    have hp := hc.pow
    have hwl := winsL_length q ws
    rw [ev_pos rfl, if_pos rfl, ev_bind (impl_Committee_votes.ev q ws hc.l9 hc.wb), ev_bind (impl_votes_countWins.ev _ (winsL q ws) (by omega)), ev_now]
theorem spec_CountWinning.ev_l (W : List Bool) (hW : W.length ≤ 1000000) : ∀ (d i : Nat) (s : Int), i + d = W.length → 0 ≤ s → s + d ≤ 2000000 → Ev (fun k => spec_CountWinning.l0 k s W (W.length : Int) (i : Int)) (s + ((W.drop i).count true : Nat), true) := by
  intro d
  induction d with
  | zero =>
    intro i s h h0 h1
    refine ev_step ?_
    simp only [spec_CountWinning.l0]
    rw [ev_neg (by omega), ev_now, List.drop_of_length_le (by omega)]
    simp
  | succ d ih =>
    intro i s h h0 h1
    refine ev_step ?_
    simp only [spec_CountWinning.l0]
    have hi : i < W.length := by omega
    rw [ev_pos (by omega), ev_pos (by omega), ev_pos (by omega), rdOf_nat, w64i (i := (i : Int)) (n := W.length) (by omega) (by omega) (by omega), count_drop W i hi]
    cases hb : W.getD i false with
    | false =>
      rw [ev_neg (by decide), if_neg (by decide)]
      exact ih (i + 1) s (by omega) h0 (by omega)
    | true =>
      have := ih (i + 1) (s + 1) (by omega) (by omega) (by omega)
      rw [ev_pos rfl, if_pos rfl, w64 (by omega) (by omega)]
      rw [show s + (((W.drop (i + 1)).count true + 1 : Nat) : Int) = s + 1 + ((W.drop (i + 1)).count true : Nat) by omega]
      exact this
theorem spec_CountWinning.ev (q : Int) (ws : List Int) (hl : ws.length ≤ 9223372036854775807) : Ev (fun k => spec_CountWinning.f k q ws) (cwV q ws) := by
  simp only [spec_CountWinning.f]
  rw [ev_bind (spec_voGood.ev q ws hl)]
  unfold cwV
  cases hg : goodB q ws with
  | false => rw [ev_neg (by decide), ev_now, if_neg (by decide)]
  | true =>
    have hc := (good_iff q ws).1 hg
    have hp := hc.pow
    have hwl := winsL_length q ws
    have := spec_CountWinning.ev_l (winsL q ws) (by omega) (winsL q ws).length 0 0 (by omega) (by omega) (by omega)
    rw [List.drop_zero, Int.zero_add] at this
    rw [ev_pos rfl, if_pos rfl, ev_bind (spec_voWins.ev q ws hc.l9 hc.wb)]
    exact this
theorem cnt_range (W : List Bool) : ∀ N, N ≤ W.length → ((W.take N).count true) = ((List.range N).filter fun m => W.getD m false).length := by
  intro N
  induction N with
  | zero => intro _; simp
  | succ N ih =>
    intro h
    have hN : N < W.length := by omega
    rw [List.range_succ, List.filter_append, List.length_append, ← ih (by omega), List.take_succ_eq_append_getElem hN, List.count_append, List.filter_cons, List.getD_eq_getElem?_getD, List.getElem?_eq_getElem hN, Option.getD_some]
    cases W[N] <;> rfl
theorem cntW_range (W : List Bool) : cntW W = (((List.range W.length).filter fun m => W.getD m false).length : Nat) := by
  unfold cntW
  rw [← cnt_range W W.length (Nat.le_refl _), List.take_length]
def ByteL (l : List Int) : Prop := l.length ≤ 1048576 ∧ ∀ x ∈ l, 0 ≤ x ∧ x ≤ 255
theorem ByteL.of {l : List Int} (h : OkBL l) (hl : l.length ≤ 1048576) : ByteL l := by
  refine ⟨hl, fun x hx => ?_⟩
  have h := h.2 x hx
  simp [OkB, Lit.wf, IntKind.min, IntKind.max, IntKind.bits, IntKind.signed] at h
  omega
theorem OkI.of {n : Int} (h0 : -9223372036854775808 ≤ n) (h1 : n ≤ 9223372036854775807) : OkI n := by
  simp [OkI, Lit.wf, IntKind.min, IntKind.max, IntKind.bits, IntKind.signed]
  omega
theorem wrap64_ok (x : Int) : OkI (wrap64 x) := by refine OkI.of ?_ ?_ <;> unfold wrap64 <;> omega
theorem and255 (x : Int) : 0 ≤ Go.bits .and .u64 (IntKind.u64.wrap x / 1099511627776) 255 ∧ Go.bits .and .u64 (IntKind.u64.wrap x / 1099511627776) 255 ≤ 255 := by
  have hx : 0 ≤ IntKind.u64.wrap x ∧ IntKind.u64.wrap x < 18446744073709551616 := by rw [IntKind.wrap_u64]; omega
  obtain ⟨n, hn⟩ : ∃ n : Nat, IntKind.u64.wrap x / 1099511627776 = (n : Int) := ⟨(IntKind.u64.wrap x / 1099511627776).toNat, by omega⟩
  have hb : n < 2 ^ 62 := by omega
  rw [hn, show (255 : Int) = ((255 : Nat) : Int) by rfl, (Go.bits_nat .u64 62 (by decide) (fun m h0 h1 => by rw [IntKind.wrap_u64]; omega) n 255 hb (by decide)).1]
  have := Nat.and_le_right (n := n) (m := 255)
  omega
theorem spec_l1Cur_next.ex {l : List Int} (hl : ByteL l) (p s : Int) (h0 : 0 ≤ p) (h1 : p ≤ 1000000) : ∃ b s', spec_l1Cur_next.f l p s = some (b, p + 1, s') ∧ 0 ≤ b ∧ b ≤ 255 := by
  have hll := hl.1
  unfold spec_l1Cur_next.f
  rw [w64 (x := p + 1) (by omega) (by omega)]
  by_cases c : p < (l.length : Int)
  · obtain ⟨i, rfl⟩ : ∃ i : Nat, p = (i : Int) := ⟨p.toNat, by omega⟩
    have hi : i < l.length := by omega
    have hb := hl.2 l[i] (List.getElem_mem hi)
    rw [if_pos c, if_pos h0, if_pos (by omega), rd_lt l i hi, w64 (by omega) (by omega)]
    exact ⟨_, _, rfl, hb⟩
  · rw [if_neg c, if_neg (by omega)]
    have := and255 ((IntKind.u64.wrap (IntKind.u64.wrap (s * 6364136223846793005))) + 1442695040888963407)
    rw [w64 (x := Go.bits .and .u64 _ 255) (by omega) (by omega)]
    exact ⟨_, _, rfl, this⟩
theorem spec_l1Cur_pick.ex {l : List Int} (hl : ByteL l) (p s a : Int) (h0 : 0 ≤ p) (h1 : p ≤ 900000) : ∃ x p' s', spec_l1Cur_pick.f l p s a = some (x, p', s') ∧ 0 ≤ x ∧ x < max a 1 ∧ True ∧ p ≤ p' ∧ p' ≤ p + 2 := by
  unfold spec_l1Cur_pick.f
  by_cases c : a ≤ 1
  · rw [if_pos c]
    exact ⟨_, _, _, rfl, by omega, by omega, trivial, by omega, by omega⟩
  · obtain ⟨b, s1, e, hb0, hb1⟩ := spec_l1Cur_next.ex hl p s h0 (by omega)
    rw [if_neg c, e, Option.bind_some]
    dsimp only
    by_cases c2 : a > 200
    · obtain ⟨b2, s2, e2, hc0, hc1⟩ := spec_l1Cur_next.ex hl (p + 1) s1 (by omega) (by omega)
      rw [if_pos c2, e2, Option.bind_some, if_neg (by omega)]
      dsimp only
      rw [w64 (x := b * 256) (by omega) (by omega), w64 (by omega) (by omega)]
      have h2 := Int.tmod_lt_of_pos (b * 256 + b2) (show 0 < a by omega)
      have h3 := Int.tmod_nonneg a (show 0 ≤ b * 256 + b2 by omega)
      exact ⟨_, _, _, rfl, h3, by omega, trivial, by omega, by omega⟩
    · rw [if_neg c2, if_neg (by omega)]
      have h2 := Int.tmod_lt_of_pos b (show 0 < a by omega)
      have h3 := Int.tmod_nonneg a hb0
      exact ⟨_, _, _, rfl, h3, by omega, trivial, by omega, by omega⟩
theorem spec_l1Cur_one.ex {l : List Int} (hl : ByteL l) (p s a : Int) (h0 : 0 ≤ p) (h1 : p ≤ 900000) : ∃ (b : Bool) (p' s' : Int), spec_l1Cur_one.f l p s a = some (b, p', s') ∧ p ≤ p' ∧ p' ≤ p + 2 := by
  obtain ⟨x, p1, s1, e, _, _, _, h4, h5⟩ := spec_l1Cur_pick.ex hl p s a h0 h1
  unfold spec_l1Cur_one.f
  rw [e, Option.bind_some]
  exact ⟨_, _, _, rfl, h4, h5⟩
theorem spec_l1Cur_among.ex {l : List Int} (hl : ByteL l) (p s : Int) (L : List Int) (hL : 1 ≤ L.length) (h0 : 0 ≤ p) (h1 : p ≤ 900000) : ∃ (x p' s' : Int), spec_l1Cur_among.f l p s L = some (x, p', s') ∧ x ∈ L ∧ p ≤ p' ∧ p' ≤ p + 2 := by
  obtain ⟨x, p1, s1, e, h2, h3, _, h4, h5⟩ := spec_l1Cur_pick.ex hl p s (L.length : Int) h0 h1
  obtain ⟨i, rfl⟩ : ∃ i : Nat, x = (i : Int) := ⟨x.toNat, by omega⟩
  have hi : i < L.length := by omega
  unfold spec_l1Cur_among.f
  rw [e, Option.bind_some]
  dsimp only
  rw [if_pos h2, if_pos (by omega), rd_lt L i hi]
  exact ⟨_, _, _, rfl, List.getElem_mem hi, h4, h5⟩
theorem wfold_ok (l : List Int) : ∀ s, OkI s → OkI (wfold l s) := by
  induction l with
  | nil => exact fun s h => h
  | cons x l ih => exact fun s _ => ih _ (wrap64_ok _)
/-- A committee's numbers, as draws make them: a whole number and a few of them. -/
structure DrawnC (q : Int) (ws : List Int) : Prop where
  l10 : ws.length ≤ 10
  q : OkI q
  w : ∀ x ∈ ws, OkI x
theorem ok_set {ws : List Int} (h : ∀ x ∈ ws, OkI x) (i : Nat) {v : Int} (hv : OkI v) : ∀ x ∈ ws.set i v, OkI x := fun x hx => by
  rcases List.mem_or_eq_of_mem_set hx with h1 | rfl
  · exact h x h1
  · exact hv
theorem ok_snoc {ws : List Int} (h : ∀ x ∈ ws, OkI x) {v : Int} (hv : OkI v) : ∀ x ∈ ws ++ [v], OkI x := fun x hx => by
  rcases List.mem_append.1 hx with h1 | h1
  · exact h x h1
  · rw [List.mem_singleton.1 h1]; exact hv
theorem spec_l1Cur_sureCommittee.ex_j1 {l : List Int} (hl : ByteL l) (p s q : Int) (ws : List Int) (hw : ∀ x ∈ ws, OkI x) (hn : 1 ≤ ws.length ∧ ws.length ≤ 9) (h0 : 0 ≤ p) (h1 : p ≤ 890000) : ∃ (q' : Int) (ws' : List Int) (p' s' : Int), Ev (fun k => spec_l1Cur_sureCommittee.j1 k l p s q ws) (q', ws', p', s') ∧ OkI q' ∧ (∀ x ∈ ws', OkI x) ∧ (1 ≤ ws'.length ∧ ws'.length ≤ 9) ∧ p ≤ p' ∧ p' ≤ p + 4 := by
  obtain ⟨b, p1, s1, e1, h2, h3⟩ := spec_l1Cur_one.ex hl p s 2 h0 (by omega)
  obtain ⟨x, p2, s2, e2, h4, _, h5, h6, h7⟩ := spec_l1Cur_pick.ex hl p1 s1 (wfold ws 0) (by omega) (by omega)
  have hs := spec_voSum.ev ws (by omega)
  cases b with
  | true =>
    refine ⟨wrap64 (1 + x), ws, p2, s2, ev_step ?_, wrap64_ok _, hw, hn, by omega, by omega⟩
    simp only [spec_l1Cur_sureCommittee.j1]
    rw [ev_bind hs, ev_bind (ev_of e1), ev_pos rfl, ev_bind (ev_of e2), ev_now]
  | false =>
    refine ⟨wrap64 (wrap64 (Int.tdiv (wfold ws 0) 2) + 1), ws, p1, s1, ev_step ?_, wrap64_ok _, hw, hn, by omega, by omega⟩
    simp only [spec_l1Cur_sureCommittee.j1]
    rw [ev_bind hs, ev_bind (ev_of e1), ev_neg (by simp), ev_now]
theorem spec_l1Cur_sureCommittee.ex_l0 {l : List Int} (hl : ByteL l) (q : Int) : ∀ (d : Nat) (p s : Int) (ws : List Int), (∀ x ∈ ws, OkI x) → ws.length + d ≤ 9 → 1 ≤ ws.length + d → 0 ≤ p → p + 2 * d ≤ 880000 → ∃ (q' : Int) (ws' : List Int) (p' s' : Int), Ev (fun k => spec_l1Cur_sureCommittee.l0 k (d : Int) l p s q ws) (q', ws', p', s') ∧ OkI q' ∧ (∀ x ∈ ws', OkI x) ∧ (1 ≤ ws'.length ∧ ws'.length ≤ 9) ∧ p ≤ p' ∧ p' ≤ p + 2 * d + 4 := by
  intro d
  induction d with
  | zero =>
    intro p s ws hw h9 hn h0 h1
    have hs := spec_voSum.ev ws (by omega)
    by_cases c : wfold ws 0 = 0
    · obtain ⟨q', ws', p', s', hj, r⟩ := spec_l1Cur_sureCommittee.ex_j1 hl p s q (ws.set 0 1) (ok_set hw 0 (OkI.of (by decide) (by decide))) (by rw [List.length_set]; omega) h0 (by omega)
      refine ⟨q', ws', p', s', ev_step ?_, r.1, r.2.1, r.2.2.1, r.2.2.2.1, by omega⟩
      simp only [spec_l1Cur_sureCommittee.l0]
      rw [ev_neg (by omega), ev_bind hs, ev_pos c, ev_pos (by omega)]
      exact hj
    · obtain ⟨q', ws', p', s', hj, r⟩ := spec_l1Cur_sureCommittee.ex_j1 hl p s q ws hw (by omega) h0 (by omega)
      refine ⟨q', ws', p', s', ev_step ?_, r.1, r.2.1, r.2.2.1, r.2.2.2.1, by omega⟩
      simp only [spec_l1Cur_sureCommittee.l0]
      rw [ev_neg (by omega), ev_bind hs, ev_neg c]
      exact hj
  | succ d ih =>
    intro p s ws hw h9 hn h0 h1
    obtain ⟨x, p1, s1, e, h2, h3, h5, h6, h7⟩ := spec_l1Cur_pick.ex hl p s 7 h0 (by omega)
    obtain ⟨q', ws', p', s', hj, r⟩ := ih p1 s1 (ws ++ [x]) (ok_snoc hw (OkI.of (by omega) (by omega))) (by rw [List.length_append, List.length_singleton]; omega) (by rw [List.length_append, List.length_singleton]; omega) (by omega) (by omega)
    refine ⟨q', ws', p', s', ev_step ?_, r.1, r.2.1, r.2.2.1, by omega, by omega⟩
    simp only [spec_l1Cur_sureCommittee.l0]
    rw [ev_pos (by omega), ev_bind (ev_of e), ev_pos (by omega), show wrap64 (((d + 1 : Nat) : Int) - 1) = (d : Int) by rw [w64 (by omega) (by omega)]; omega]
    exact hj
theorem spec_l1Cur_sureCommittee.ex {l : List Int} (hl : ByteL l) (p s a : Int) (ha : 1 ≤ a ∧ a ≤ 9) (h0 : 0 ≤ p) (h1 : p ≤ 800000) : ∃ (q' : Int) (ws' : List Int) (p' s' : Int), Ev (fun k => spec_l1Cur_sureCommittee.f k l p s a) (q', ws', p', s') ∧ OkI q' ∧ (∀ x ∈ ws', OkI x) ∧ (1 ≤ ws'.length ∧ ws'.length ≤ 9) ∧ p ≤ p' ∧ p' ≤ p + 30 := by
  obtain ⟨x, p1, s1, e, h2, h3, h5, h6, h7⟩ := spec_l1Cur_pick.ex hl p s a h0 (by omega)
  obtain ⟨q', ws', p', s', hj, r⟩ := spec_l1Cur_sureCommittee.ex_l0 hl 0 (x + 1).toNat p1 s1 [] (by simp) (by simp; omega) (by simp; omega) (by omega) (by omega)
  refine ⟨q', ws', p', s', ?_, r.1, r.2.1, r.2.2.1, by omega, by omega⟩
  simp only [spec_l1Cur_sureCommittee.f]
  rw [ev_bind (ev_of e), show wrap64 (1 + x) = ((x + 1).toNat : Int) by rw [w64 (by omega) (by omega)]; omega]
  exact hj
theorem spec_l1Cur_committee.ex_l0 {l : List Int} (hl : ByteL l) (q : Int) (hq : OkI q) : ∀ (d : Nat) (p s : Int) (ws : List Int), (∀ x ∈ ws, OkI x) → ws.length + d = 10 → 0 ≤ p → p + 2 * d ≤ 800000 → ∃ (ws' : List Int) (p' s' : Int), Ev (fun k => spec_l1Cur_committee.l0 k l p s q ws) (q, ws', p', s') ∧ (∀ x ∈ ws', OkI x) ∧ ws'.length ≤ 10 ∧ p ≤ p' ∧ p' ≤ p + 2 * d + 2 := by
  intro d
  induction d with
  | zero =>
    intro p s ws hw h9 h0 h1
    obtain ⟨x, p1, s1, e, h2, h3, h5, h6, h7⟩ := spec_l1Cur_pick.ex hl p s 2 h0 (by omega)
    refine ⟨ws, p1, s1, ev_step ?_, hw, by omega, by omega, by omega⟩
    simp only [spec_l1Cur_committee.l0]
    rw [ev_bind (ev_of e), w64 (by omega) (by omega), ev_neg (by dsimp only; omega), ev_now]
  | succ d ih =>
    intro p s ws hw h9 h0 h1
    obtain ⟨x, p1, s1, e, h2, h3, h5, h6, h7⟩ := spec_l1Cur_pick.ex hl p s 2 h0 (by omega)
    by_cases c : (ws.length : Int) < 9 + x
    · obtain ⟨ws', p', s', hj, r⟩ := ih p1 s1 (ws ++ [1]) (ok_snoc hw (OkI.of (by decide) (by decide))) (by rw [List.length_append, List.length_singleton]; omega) (by omega) (by omega)
      refine ⟨ws', p', s', ev_step ?_, r.1, r.2.1, by omega, by omega⟩
      simp only [spec_l1Cur_committee.l0]
      rw [ev_bind (ev_of e), w64 (by omega) (by omega), ev_pos (by exact c), ev_pos (by omega)]
      exact hj
    · refine ⟨ws, p1, s1, ev_step ?_, hw, by omega, by omega, by omega⟩
      simp only [spec_l1Cur_committee.l0]
      rw [ev_bind (ev_of e), w64 (by omega) (by omega), ev_neg (by exact c), ev_now]
theorem spec_l1Cur_committee.ex {l : List Int} (hl : ByteL l) (p s a : Int) (ha : 1 ≤ a ∧ a ≤ 9) (h0 : 0 ≤ p) (h1 : p ≤ 700000) : ∃ (q' : Int) (ws' : List Int) (p' s' : Int), Ev (fun k => spec_l1Cur_committee.f k l p s a) (q', ws', p', s') ∧ DrawnC q' ws' ∧ p ≤ p' ∧ p' ≤ p + 100 := by
  obtain ⟨q, ws, p1, s1, e, hq, hw, hn, h2, h3⟩ := spec_l1Cur_sureCommittee.ex hl p s a ha h0 (by omega)
  obtain ⟨x, p2, s2, e2, h4, h5, _, h6, h7⟩ := spec_l1Cur_pick.ex hl p1 s1 16 (by omega) (by omega)
  have hs := spec_voSum.ev ws (by omega)
  have hso := wfold_ok ws 0 (OkI.of (by decide) (by decide))
  by_cases c0 : x = 0
  · obtain ⟨y, p3, s3, e3, hy, h8, h9⟩ := spec_l1Cur_among.ex hl p2 s2 ([(-1), 0, 1, wfold ws 0, wrap64 (wfold ws 0 + 1), 4611686018427387904] : List Int) (by simp) (by omega) (by omega)
    have hyo : OkI y := by
      simp only [List.mem_cons, List.not_mem_nil, or_false] at hy
      rcases hy with rfl | rfl | rfl | rfl | rfl | rfl
      · exact OkI.of (by decide) (by decide)
      · exact OkI.of (by decide) (by decide)
      · exact OkI.of (by decide) (by decide)
      · exact hso
      · exact wrap64_ok _
      · exact OkI.of (by decide) (by decide)
    refine ⟨y, ws, p3, s3, ?_, ⟨by omega, hyo, hw⟩, by omega, by omega⟩
    simp only [spec_l1Cur_committee.f]
    rw [ev_bind e, ev_bind (ev_of e2), ev_pos c0, ev_bind hs, ev_bind hs, ev_bind (ev_of e3), ev_now]
  by_cases c1 : x = 1
  · obtain ⟨y, p3, s3, e3, hy, h8, h9⟩ := spec_l1Cur_among.ex hl p2 s2 ([(-1), 0, 1000, 1001, 4611686018427387904] : List Int) (by simp) (by omega) (by omega)
    have hyo : OkI y := by
      simp only [List.mem_cons, List.not_mem_nil, or_false] at hy
      rcases hy with rfl | rfl | rfl | rfl | rfl <;> exact OkI.of (by decide) (by decide)
    refine ⟨q, ws.set 0 y, p3, s3, ?_, ⟨by rw [List.length_set]; omega, hq, ok_set hw 0 hyo⟩, by omega, by omega⟩
    simp only [spec_l1Cur_committee.f]
    rw [ev_bind e, ev_bind (ev_of e2), ev_neg c0, ev_pos c1, ev_bind (ev_of e3), ev_pos (by dsimp only; omega), ev_now]
    rfl
  by_cases c2 : x = 2
  · obtain ⟨ws', p', s', hj, r⟩ := spec_l1Cur_committee.ex_l0 hl q hq (10 - ws.length) p2 s2 ws hw (by omega) (by omega) (by omega)
    refine ⟨q, ws', p', s', ?_, ⟨r.2.1, hq, r.1⟩, by omega, by omega⟩
    simp only [spec_l1Cur_committee.f]
    rw [ev_bind e, ev_bind (ev_of e2), ev_neg c0, ev_neg c1, ev_pos c2]
    exact hj
  by_cases c3 : x = 3
  · refine ⟨1, [], p2, s2, ?_, ⟨by simp, OkI.of (by decide) (by decide), by simp⟩, by omega, by omega⟩
    simp only [spec_l1Cur_committee.f]
    rw [ev_bind e, ev_bind (ev_of e2), ev_neg c0, ev_neg c1, ev_neg c2, ev_pos c3, ev_now]
  · refine ⟨q, ws, p2, s2, ?_, ⟨by omega, hq, hw⟩, by omega, by omega⟩
    simp only [spec_l1Cur_committee.f]
    rw [ev_bind e, ev_bind (ev_of e2), ev_neg c0, ev_neg c1, ev_neg c2, ev_neg c3, ev_now]
theorem spec_DrawIsCommittee.ex {l : List Int} (hl : ByteL l) : ∃ (q : Int) (ws : List Int), Ev (fun k => spec_DrawIsCommittee.f k l) (q, ws) ∧ DrawnC q ws := by
  obtain ⟨q, ws, p, s, e, h, _⟩ := spec_l1Cur_committee.ex hl 0 0 6 (by decide) (by decide) (by decide)
  refine ⟨q, ws, ?_, h⟩
  simp only [spec_DrawIsCommittee.f]
  rw [ev_bind e, ev_now]
theorem spec_DrawLeastWinning.ex {l : List Int} (hl : ByteL l) : ∃ (q : Int) (ws : List Int), Ev (fun k => spec_DrawLeastWinning.f k l) (q, ws) ∧ DrawnC q ws := by
  obtain ⟨q, ws, e, h⟩ := spec_DrawIsCommittee.ex hl
  refine ⟨q, ws, ?_, h⟩
  simp only [spec_DrawLeastWinning.f]
  rw [ev_bind e, ev_now]
theorem spec_DrawCountWinningOf.ex {l : List Int} (hl : ByteL l) : ∃ (q : Int) (ws : List Int) (a : Int), Ev (fun k => spec_DrawCountWinningOf.f k l) (q, ws, a) ∧ DrawnC q ws ∧ OkI a := by
  obtain ⟨q, ws, p, t, e, h, h2, h3⟩ := spec_l1Cur_committee.ex hl 0 0 6 (by decide) (by decide) (by decide)
  obtain ⟨x, p1, s1, e1, _, _, _, h4, h5⟩ := spec_l1Cur_pick.ex hl p t 8 (by omega) (by omega)
  obtain ⟨y, p2, s2, e2, _⟩ := spec_l1Cur_pick.ex hl p1 s1 9 (by omega) (by omega)
  refine ⟨q, ws, _, ?_, h, wrap64_ok (x - wrap64 (Int.tdiv y 8))⟩
  simp only [spec_DrawCountWinningOf.f]
  rw [ev_bind e, ev_bind (ev_of e1), ev_bind (ev_of e2), ev_now]
def dualC (q : Int) (ws : List Int) : Int × List Int × Bool := if goodB q ws = true then (ws.sum - q + 1, ws, true) else (0, [], false)
theorem impl_DualCommittee.ev (q : Int) (ws : List Int) (hl : ws.length ≤ 9223372036854775807) : Ev (fun k => impl_DualCommittee.f k q ws) (dualC q ws) := by
  simp only [impl_DualCommittee.f]
  rw [ev_bind (impl_IsCommittee.ev q ws hl)]
  unfold dualC
  cases hg : goodB q ws with
  | false => rw [ev_neg (by decide), ev_now, if_neg (by decide)]
  | true =>
    have hc := (good_iff q ws).1 hg
    have h9 := hc.l9
    have hsum := hc.sum
    have h1 := hc.q1
    have h2 := hc.qs
    have hS := impl_sumOf.ev ws hl
    rw [wfold_sum ws 0 (fun x hx => by have := hc.w x hx; omega) (by omega) (by omega), Int.zero_add] at hS
    have hcl : slices_Clone_int_int.f ws = some ws := by
      have : ws.length < 17592186044416 := by omega
      simp [slices_Clone_int_int.f, this]
    rw [ev_pos rfl, if_pos rfl, ev_bind hS, ev_bind (ev_of hcl), ev_now, w64 (x := ws.sum - q) (by omega) (by omega), w64 (by omega) (by omega)]
theorem dual_good {q : Int} {ws : List Int} (hc : GoodC q ws) : goodB (ws.sum - q + 1) ws = true := by
  refine (good_iff _ ws).2 ⟨hc.l1, hc.l9, hc.w, ?_, ?_⟩
  · have := hc.qs; omega
  · have := hc.q1; omega
end Go.Proofs.YtamfpkefnhcngaaGreat.Q
